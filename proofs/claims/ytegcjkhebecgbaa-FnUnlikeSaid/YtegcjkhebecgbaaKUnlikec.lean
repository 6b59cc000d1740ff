/- Texts of this repository put together: ShZ7, ShV, ShP1, Be, ShQ1, ShQ2, Bf, ShS1, ShQ3, ShQ4, ShQ5, ShQ6, ShQ7, ShQ8, ShS2, ShS3, ShS4, ShC3, ShC5, ShT1, ShQ9, Bg, ShU1, ShG7. -/
import Derived.Test.YtegcjkhebecgbaaKUnlikeb
import Derived.Test.YtegcjkhebecgbaaProg
import Derived.Test.YtegcjkhebecgbaaKUnlikea

/- Contracts: grammars that are drawn (grammar, anyGrammar). -/
set_option linter.unusedVariables false
set_option linter.unusedSimpArgs false
set_option maxRecDepth 100000
namespace Go.Proofs.Ytegcjkhebecgbaa
open Go Go.Sh Go.RowKit
section
variable {w0 w : World} {E : List Thing} {bc N : Nat} {C : Option Addr} {cap : Nat} {bs : List Int} {k : Value → World → Prop}
set_option maxHeartbeats 6400000 in
theorem grammar_c (H : Apt w0 w (cur bc (.slice C bs.length cap) N :: E)) (hC : Byts w0 C bs) (hN : N ≤ 1000000) (hk : ∀ w' gm ft X c, Drawn 100 gm → Apt w0 w' (cur bc (.slice C bs.length cap) (N + 500) :: gth ft X c gm.rules :: E) → k (.agg #[.int .i64 gm.nons, .int .i64 gm.toks, .slice X gm.rules.length c]) w') :
    CallK Try.prog 246 [ptrv bc] k w := by
  refine enter246 ?_
  unfold S246
  refine allocH H inf26 fun b1 w1 H => ?_
  have H := H.insert 1
  simp only [List.take_succ_cons, List.take_zero, List.drop_succ_cons, List.drop_zero, List.nil_append, List.cons_append] at H
  refine one_c H 0 rfl hC (by omega) (by omega) fun w2 b H => ?_
  simp only [List.set_cons_zero] at H
  cases b
  case true =>
    simp only [bin_add, bin_sub, bin_mul, bin_eql, bin_neq, bin_lss, bin_leq, bin_gtr, bin_geq, un_not, un_neg, zq4, zq3, zq1, zq2, zq0, cond_true', cond_false', zq14, zq15, zq16, zq17, zq13, zq10, zq12, zq11, zq7, zq5, zq6, zq9, zq8, resK_nil, resK_tmp, ite_T, ite_F, upd_at, add_plain, add_zero', Nat.reduceEqDiff, fa8_0, fa8_1, fa8_2, fa8_3, fa14_0, fa14_1, fa19_0, len22, len24, fa26_0, fa26_1, fa26_2, len27, fa33_0, fa33_1, len35, fa77_0, fa77_1, fa88_0, fa88_1, fa88_2, fa88_3, fa88_4, fa88_5, fa114_0, fa114_1, fa114_2, fa124_0, fa124_1, len134, len136, len154, fa156_0, fa156_1, fa156_2, fa156_3, fa156_4, fa156_5, fa156_6, fa184_0, fa184_1, fa200_0, fa200_1, fa200_2, fa200_3, fa215_0, fa215_1, fa215_2, fa215_3, fa215_4, len218, len271, fa274_0, fa274_1, fa274_2, fa303_0, fa303_1, fa303_2, fa303_3, fa314_0, fa314_1, fa314_2, fa314_3, fa314_4, fa314_5, fa314_6, fa314_7, fa314_8, fa314_9, fa314_10]
    refine known_c H hC (by omega) fun w3 gm ft X c hd H => ?_
    refine storeH H 2 rfl sz26 rfl rfl rfl fun w4 H => ?_
    simp only [List.set_cons_zero, List.set_cons_succ] at H
    rw [rd_loadVar, ldB_agg agg26 sz26 rfl (H.box 2 rfl)]
    have H := H.erase 2
    simp only [List.eraseIdx_cons_zero, List.eraseIdx_cons_succ] at H
    exact hk w4 gm ft X c hd (curMore H (by omega))
  simp only [bin_add, bin_sub, bin_mul, bin_eql, bin_neq, bin_lss, bin_leq, bin_gtr, bin_geq, un_not, un_neg, zq4, zq3, zq1, zq2, zq0, cond_true', cond_false', zq14, zq15, zq16, zq17, zq13, zq10, zq12, zq11, zq7, zq5, zq6, zq9, zq8, resK_nil, resK_tmp, ite_T, ite_F, upd_at, add_plain, add_zero', Nat.reduceEqDiff, fa8_0, fa8_1, fa8_2, fa8_3, fa14_0, fa14_1, fa19_0, len22, len24, fa26_0, fa26_1, fa26_2, len27, fa33_0, fa33_1, len35, fa77_0, fa77_1, fa88_0, fa88_1, fa88_2, fa88_3, fa88_4, fa88_5, fa114_0, fa114_1, fa114_2, fa124_0, fa124_1, len134, len136, len154, fa156_0, fa156_1, fa156_2, fa156_3, fa156_4, fa156_5, fa156_6, fa184_0, fa184_1, fa200_0, fa200_1, fa200_2, fa200_3, fa215_0, fa215_1, fa215_2, fa215_3, fa215_4, len218, len271, fa274_0, fa274_1, fa274_2, fa303_0, fa303_1, fa303_2, fa303_3, fa314_0, fa314_1, fa314_2, fa314_3, fa314_4, fa314_5, fa314_6, fa314_7, fa314_8, fa314_9, fa314_10]
  refine pick_c H 0 rfl hC (by omega) (by omega) fun w3 a _ ha H => ?_
  simp only [List.set_cons_zero, bin_add, bin_sub, bin_mul, bin_eql, bin_neq, bin_lss, bin_leq, bin_gtr, bin_geq, un_not, un_neg, zq4, zq3, zq1, zq2, zq0, cond_true', cond_false', zq14, zq15, zq16, zq17, zq13, zq10, zq12, zq11, zq7, zq5, zq6, zq9, zq8, resK_nil, resK_tmp, ite_T, ite_F, upd_at, add_plain, add_zero', Nat.reduceEqDiff, fa8_0, fa8_1, fa8_2, fa8_3, fa14_0, fa14_1, fa19_0, len22, len24, fa26_0, fa26_1, fa26_2, len27, fa33_0, fa33_1, len35, fa77_0, fa77_1, fa88_0, fa88_1, fa88_2, fa88_3, fa88_4, fa88_5, fa114_0, fa114_1, fa114_2, fa124_0, fa124_1, len134, len136, len154, fa156_0, fa156_1, fa156_2, fa156_3, fa156_4, fa156_5, fa156_6, fa184_0, fa184_1, fa200_0, fa200_1, fa200_2, fa200_3, fa215_0, fa215_1, fa215_2, fa215_3, fa215_4, len218, len271, fa274_0, fa274_1, fa274_2, fa303_0, fa303_1, fa303_2, fa303_3, fa314_0, fa314_1, fa314_2, fa314_3, fa314_4, fa314_5, fa314_6, fa314_7, fa314_8, fa314_9, fa314_10] at H ⊢
  have ha := ha (by omega)
  refine pick_c H 0 rfl hC (by omega) (by omega) fun w4 t _ ht H => ?_
  simp only [List.set_cons_zero, bin_add, bin_sub, bin_mul, bin_eql, bin_neq, bin_lss, bin_leq, bin_gtr, bin_geq, un_not, un_neg, zq4, zq3, zq1, zq2, zq0, cond_true', cond_false', zq14, zq15, zq16, zq17, zq13, zq10, zq12, zq11, zq7, zq5, zq6, zq9, zq8, resK_nil, resK_tmp, ite_T, ite_F, upd_at, add_plain, add_zero', Nat.reduceEqDiff, fa8_0, fa8_1, fa8_2, fa8_3, fa14_0, fa14_1, fa19_0, len22, len24, fa26_0, fa26_1, fa26_2, len27, fa33_0, fa33_1, len35, fa77_0, fa77_1, fa88_0, fa88_1, fa88_2, fa88_3, fa88_4, fa88_5, fa114_0, fa114_1, fa114_2, fa124_0, fa124_1, len134, len136, len154, fa156_0, fa156_1, fa156_2, fa156_3, fa156_4, fa156_5, fa156_6, fa184_0, fa184_1, fa200_0, fa200_1, fa200_2, fa200_3, fa215_0, fa215_1, fa215_2, fa215_3, fa215_4, len218, len271, fa274_0, fa274_1, fa274_2, fa303_0, fa303_1, fa303_2, fa303_3, fa314_0, fa314_1, fa314_2, fa314_3, fa314_4, fa314_5, fa314_6, fa314_7, fa314_8, fa314_9, fa314_10] at H ⊢
  have ht := ht (by omega)
  rw [i64_of (n := 1 + (a : Int)) (by omega) (by omega), i64_of (n := 1 + (t : Int)) (by omega) (by omega)]
  rw [bd26 (cells := #[.int .i64 (1 + (a : Int)), .int .i64 (1 + (t : Int)), .slice none 0 0]) rfl]
  refine allocH H inf26 fun b2 w5 H => ?_
  have H := H.insert 1
  simp only [List.take_succ_cons, List.take_zero, List.drop_succ_cons, List.drop_zero, List.nil_append, List.cons_append] at H
  refine storeH H 1 rfl sz26 rfl rfl rfl fun w6 H => ?_
  simp only [List.set_cons_zero, List.set_cons_succ] at H
  refine pick_c H 0 rfl hC (by omega) (by omega) fun w7 n0 _ hn0 H => ?_
  simp only [List.set_cons_zero, bin_add, bin_sub, bin_mul, bin_eql, bin_neq, bin_lss, bin_leq, bin_gtr, bin_geq, un_not, un_neg, zq4, zq3, zq1, zq2, zq0, cond_true', cond_false', zq14, zq15, zq16, zq17, zq13, zq10, zq12, zq11, zq7, zq5, zq6, zq9, zq8, resK_nil, resK_tmp, ite_T, ite_F, upd_at, add_plain, add_zero', Nat.reduceEqDiff, fa8_0, fa8_1, fa8_2, fa8_3, fa14_0, fa14_1, fa19_0, len22, len24, fa26_0, fa26_1, fa26_2, len27, fa33_0, fa33_1, len35, fa77_0, fa77_1, fa88_0, fa88_1, fa88_2, fa88_3, fa88_4, fa88_5, fa114_0, fa114_1, fa114_2, fa124_0, fa124_1, len134, len136, len154, fa156_0, fa156_1, fa156_2, fa156_3, fa156_4, fa156_5, fa156_6, fa184_0, fa184_1, fa200_0, fa200_1, fa200_2, fa200_3, fa215_0, fa215_1, fa215_2, fa215_3, fa215_4, len218, len271, fa274_0, fa274_1, fa274_2, fa303_0, fa303_1, fa303_2, fa303_3, fa314_0, fa314_1, fa314_2, fa314_3, fa314_4, fa314_5, fa314_6, fa314_7, fa314_8, fa314_9, fa314_10] at H ⊢
  have hn0 := hn0 (by omega)
  rw [i64_of (n := 1 + (n0 : Int)) (by omega) (by omega)]
  have H := (nilGow (e := 33) H).insert 1
  simp only [List.take_succ_cons, List.take_zero, List.drop_succ_cons, List.drop_zero, List.nil_append, List.cons_append] at H
  refine loop_ghost (fun m f w' => m ≤ 1 + n0 ∧ f 4 = .int .i64 (m : Int) ∧ ∃ N' ft X c, ∃ rs : List RuleL, N' ≤ N + 20 + (1 + n0 - m) * 40 ∧ rs.length ≤ 1 + n0 - m ∧ (m < 1 + n0 → 0 < rs.length) ∧ Apt w0 w' (cur bc (.slice C bs.length cap) N' :: gth ft X c rs :: bx b2 [.int .i64 (1 + (a : Int)), .int .i64 (1 + (t : Int)), .slice X rs.length c] 26 :: bx b1 [.int .i64 0, .int .i64 0, .slice none 0 0] 26 :: E)) (fun m => m) (1 + n0)
    ⟨Nat.le_refl _, rfl, _, _, none, 0, [], by omega, by simp, fun h => by omega, H⟩ ?_
  clear H
  rintro m f w8 NN hag ⟨hm, f4, N', ft, X, c, rs, hN', hrs, hpos, H⟩ hN2
  have f0 : f 0 = ptrv bc := hag 0 (by decide)
  have f2 : f 2 = ptrv b1 := hag 2 (by decide)
  have f3 : f 3 = ptrv b2 := hag 3 (by decide)
  simp only [f0, f3, f4, bin_add, bin_sub, bin_mul, bin_eql, bin_neq, bin_lss, bin_leq, bin_gtr, bin_geq, un_not, un_neg, zq4, zq3, zq1, zq2, zq0, cond_true', cond_false', zq14, zq15, zq16, zq17, zq13, zq10, zq12, zq11, zq7, zq5, zq6, zq9, zq8, resK_nil, resK_tmp, ite_T, ite_F, upd_at, add_plain, add_zero', Nat.reduceEqDiff, fa8_0, fa8_1, fa8_2, fa8_3, fa14_0, fa14_1, fa19_0, len22, len24, fa26_0, fa26_1, fa26_2, len27, fa33_0, fa33_1, len35, fa77_0, fa77_1, fa88_0, fa88_1, fa88_2, fa88_3, fa88_4, fa88_5, fa114_0, fa114_1, fa114_2, fa124_0, fa124_1, len134, len136, len154, fa156_0, fa156_1, fa156_2, fa156_3, fa156_4, fa156_5, fa156_6, fa184_0, fa184_1, fa200_0, fa200_1, fa200_2, fa200_3, fa215_0, fa215_1, fa215_2, fa215_3, fa215_4, len218, len271, fa274_0, fa274_1, fa274_2, fa303_0, fa303_1, fa303_2, fa303_3, fa314_0, fa314_1, fa314_2, fa314_3, fa314_4, fa314_5, fa314_6, fa314_7, fa314_8, fa314_9, fa314_10]
  by_cases hm0 : 0 < m
  case neg =>
    simp only [show ¬ ((0 : Int) < (m : Int)) from by omega, decide_false, bin_add, bin_sub, bin_mul, bin_eql, bin_neq, bin_lss, bin_leq, bin_gtr, bin_geq, un_not, un_neg, zq4, zq3, zq1, zq2, zq0, cond_true', cond_false', zq14, zq15, zq16, zq17, zq13, zq10, zq12, zq11, zq7, zq5, zq6, zq9, zq8, resK_nil, resK_tmp, ite_T, ite_F, upd_at, add_plain, add_zero', Nat.reduceEqDiff, fa8_0, fa8_1, fa8_2, fa8_3, fa14_0, fa14_1, fa19_0, len22, len24, fa26_0, fa26_1, fa26_2, len27, fa33_0, fa33_1, len35, fa77_0, fa77_1, fa88_0, fa88_1, fa88_2, fa88_3, fa88_4, fa88_5, fa114_0, fa114_1, fa114_2, fa124_0, fa124_1, len134, len136, len154, fa156_0, fa156_1, fa156_2, fa156_3, fa156_4, fa156_5, fa156_6, fa184_0, fa184_1, fa200_0, fa200_1, fa200_2, fa200_3, fa215_0, fa215_1, fa215_2, fa215_3, fa215_4, len218, len271, fa274_0, fa274_1, fa274_2, fa303_0, fa303_1, fa303_2, fa303_3, fa314_0, fa314_1, fa314_2, fa314_3, fa314_4, fa314_5, fa314_6, fa314_7, fa314_8, fa314_9, fa314_10]
    simp only [f2, f3, bin_add, bin_sub, bin_mul, bin_eql, bin_neq, bin_lss, bin_leq, bin_gtr, bin_geq, un_not, un_neg, zq4, zq3, zq1, zq2, zq0, cond_true', cond_false', zq14, zq15, zq16, zq17, zq13, zq10, zq12, zq11, zq7, zq5, zq6, zq9, zq8, resK_nil, resK_tmp, ite_T, ite_F, upd_at, add_plain, add_zero', Nat.reduceEqDiff, fa8_0, fa8_1, fa8_2, fa8_3, fa14_0, fa14_1, fa19_0, len22, len24, fa26_0, fa26_1, fa26_2, len27, fa33_0, fa33_1, len35, fa77_0, fa77_1, fa88_0, fa88_1, fa88_2, fa88_3, fa88_4, fa88_5, fa114_0, fa114_1, fa114_2, fa124_0, fa124_1, len134, len136, len154, fa156_0, fa156_1, fa156_2, fa156_3, fa156_4, fa156_5, fa156_6, fa184_0, fa184_1, fa200_0, fa200_1, fa200_2, fa200_3, fa215_0, fa215_1, fa215_2, fa215_3, fa215_4, len218, len271, fa274_0, fa274_1, fa274_2, fa303_0, fa303_1, fa303_2, fa303_3, fa314_0, fa314_1, fa314_2, fa314_3, fa314_4, fa314_5, fa314_6, fa314_7, fa314_8, fa314_9, fa314_10]
    rw [ldB_agg agg26 sz26 rfl (H.box 2 rfl)]
    refine storeH H 3 rfl sz26 rfl rfl rfl fun w9 H => ?_
    simp only [List.set_cons_zero, List.set_cons_succ] at H
    rw [rd_loadVar, ldB_agg agg26 sz26 rfl (H.box 3 rfl)]
    have H := (H.erase 3).erase 2
    simp only [List.eraseIdx_cons_zero, List.eraseIdx_cons_succ] at H
    exact hk w9 ⟨1 + (a : Int), 1 + (t : Int), rs⟩ ft X c ⟨⟨by show 0 ≤ 1 + (a : Int); omega, by show 1 + (a : Int) ≤ 1000; omega⟩, ⟨by show 0 ≤ 1 + (t : Int); omega, by show 1 + (t : Int) ≤ 1000; omega⟩, hpos (by omega), by show rs.length ≤ 100; omega⟩ (curMore H (by omega))
  simp only [show ((0 : Int) < (m : Int)) from by omega, decide_true, bin_add, bin_sub, bin_mul, bin_eql, bin_neq, bin_lss, bin_leq, bin_gtr, bin_geq, un_not, un_neg, zq4, zq3, zq1, zq2, zq0, cond_true', cond_false', zq14, zq15, zq16, zq17, zq13, zq10, zq12, zq11, zq7, zq5, zq6, zq9, zq8, resK_nil, resK_tmp, ite_T, ite_F, upd_at, add_plain, add_zero', Nat.reduceEqDiff, fa8_0, fa8_1, fa8_2, fa8_3, fa14_0, fa14_1, fa19_0, len22, len24, fa26_0, fa26_1, fa26_2, len27, fa33_0, fa33_1, len35, fa77_0, fa77_1, fa88_0, fa88_1, fa88_2, fa88_3, fa88_4, fa88_5, fa114_0, fa114_1, fa114_2, fa124_0, fa124_1, len134, len136, len154, fa156_0, fa156_1, fa156_2, fa156_3, fa156_4, fa156_5, fa156_6, fa184_0, fa184_1, fa200_0, fa200_1, fa200_2, fa200_3, fa215_0, fa215_1, fa215_2, fa215_3, fa215_4, len218, len271, fa274_0, fa274_1, fa274_2, fa303_0, fa303_1, fa303_2, fa303_3, fa314_0, fa314_1, fa314_2, fa314_3, fa314_4, fa314_5, fa314_6, fa314_7, fa314_8, fa314_9, fa314_10]
  rw [ldB3 (H.box 2 rfl) rfl]
  refine pick_c H 0 rfl hC (by omega) (by omega) fun w9 l _ hl H => ?_
  simp only [List.set_cons_zero] at H
  rw [bd33 (cells := #[.int .i64 (l : Int), .slice none 0 0]) rfl]
  refine allocH H inf33 fun b3 w10 H => ?_
  have H := H.insert 2
  simp only [List.take_succ_cons, List.take_zero, List.drop_succ_cons, List.drop_zero, List.nil_append, List.cons_append] at H
  refine storeH H 2 rfl sz33 rfl rfl rfl fun w11 H => ?_
  simp only [List.set_cons_zero, List.set_cons_succ] at H
  refine pick_c H 0 rfl hC (by omega) (by omega) fun w12 kk _ hkk H => ?_
  simp only [List.set_cons_zero] at H
  have hkk := hkk (by omega)
  have H := (H.addOwn (Gr.refl _) (show Own 3 w12 w12.heap.size none 0 [] from Row.nil _ _ _ _)).insert 3
  simp only [List.take_succ_cons, List.take_zero, List.drop_succ_cons, List.drop_zero, List.nil_append, List.cons_append] at H
  refine loop_ghost (fun o f w' => o ≤ kk ∧ f 6 = .int .i64 (o : Int) ∧ f 4 = .int .i64 (m : Int) ∧ ∃ N2 Z d, ∃ xs : List Int, N2 ≤ N' + 4 + (kk - o) * 6 ∧ xs.length ≤ kk - o ∧ Apt w0 w' (cur bc (.slice C bs.length cap) N2 :: gth ft X c rs :: bx b3 [.int .i64 (l : Int), .slice Z xs.length d] 33 :: ows Z d xs :: bx b2 [.int .i64 (1 + (a : Int)), .int .i64 (1 + (t : Int)), .slice X rs.length c] 26 :: bx b1 [.int .i64 0, .int .i64 0, .slice none 0 0] 26 :: E)) (fun o => o) kk
    ⟨Nat.le_refl _, rfl, f4, _, none, 0, [], by omega, by simp, H⟩ ?_
  clear H
  rintro o g w13 N3 hag2 ⟨ho, g6, g4, N2, Z, d, xs, hN2', hxs, H⟩ hN4
  have g0 : g 0 = ptrv bc := (hag2 0 (by decide)).trans f0
  have g3 : g 3 = ptrv b2 := (hag2 3 (by decide)).trans f3
  have g5 : g 5 = ptrv b3 := hag2 5 (by decide)
  simp only [g0, g3, g6, bin_add, bin_sub, bin_mul, bin_eql, bin_neq, bin_lss, bin_leq, bin_gtr, bin_geq, un_not, un_neg, zq4, zq3, zq1, zq2, zq0, cond_true', cond_false', zq14, zq15, zq16, zq17, zq13, zq10, zq12, zq11, zq7, zq5, zq6, zq9, zq8, resK_nil, resK_tmp, ite_T, ite_F, upd_at, add_plain, add_zero', Nat.reduceEqDiff, fa8_0, fa8_1, fa8_2, fa8_3, fa14_0, fa14_1, fa19_0, len22, len24, fa26_0, fa26_1, fa26_2, len27, fa33_0, fa33_1, len35, fa77_0, fa77_1, fa88_0, fa88_1, fa88_2, fa88_3, fa88_4, fa88_5, fa114_0, fa114_1, fa114_2, fa124_0, fa124_1, len134, len136, len154, fa156_0, fa156_1, fa156_2, fa156_3, fa156_4, fa156_5, fa156_6, fa184_0, fa184_1, fa200_0, fa200_1, fa200_2, fa200_3, fa215_0, fa215_1, fa215_2, fa215_3, fa215_4, len218, len271, fa274_0, fa274_1, fa274_2, fa303_0, fa303_1, fa303_2, fa303_3, fa314_0, fa314_1, fa314_2, fa314_3, fa314_4, fa314_5, fa314_6, fa314_7, fa314_8, fa314_9, fa314_10]
  by_cases ho0 : 0 < o
  case neg =>
    simp only [show ¬ ((0 : Int) < (o : Int)) from by omega, decide_false, bin_add, bin_sub, bin_mul, bin_eql, bin_neq, bin_lss, bin_leq, bin_gtr, bin_geq, un_not, un_neg, zq4, zq3, zq1, zq2, zq0, cond_true', cond_false', zq14, zq15, zq16, zq17, zq13, zq10, zq12, zq11, zq7, zq5, zq6, zq9, zq8, resK_nil, resK_tmp, ite_T, ite_F, upd_at, add_plain, add_zero', Nat.reduceEqDiff, fa8_0, fa8_1, fa8_2, fa8_3, fa14_0, fa14_1, fa19_0, len22, len24, fa26_0, fa26_1, fa26_2, len27, fa33_0, fa33_1, len35, fa77_0, fa77_1, fa88_0, fa88_1, fa88_2, fa88_3, fa88_4, fa88_5, fa114_0, fa114_1, fa114_2, fa124_0, fa124_1, len134, len136, len154, fa156_0, fa156_1, fa156_2, fa156_3, fa156_4, fa156_5, fa156_6, fa184_0, fa184_1, fa200_0, fa200_1, fa200_2, fa200_3, fa215_0, fa215_1, fa215_2, fa215_3, fa215_4, len218, len271, fa274_0, fa274_1, fa274_2, fa303_0, fa303_1, fa303_2, fa303_3, fa314_0, fa314_1, fa314_2, fa314_3, fa314_4, fa314_5, fa314_6, fa314_7, fa314_8, fa314_9, fa314_10]
    simp only [g3, g4, g5, bin_add, bin_sub, bin_mul, bin_eql, bin_neq, bin_lss, bin_leq, bin_gtr, bin_geq, un_not, un_neg, zq4, zq3, zq1, zq2, zq0, cond_true', cond_false', zq14, zq15, zq16, zq17, zq13, zq10, zq12, zq11, zq7, zq5, zq6, zq9, zq8, resK_nil, resK_tmp, ite_T, ite_F, upd_at, add_plain, add_zero', Nat.reduceEqDiff, fa8_0, fa8_1, fa8_2, fa8_3, fa14_0, fa14_1, fa19_0, len22, len24, fa26_0, fa26_1, fa26_2, len27, fa33_0, fa33_1, len35, fa77_0, fa77_1, fa88_0, fa88_1, fa88_2, fa88_3, fa88_4, fa88_5, fa114_0, fa114_1, fa114_2, fa124_0, fa124_1, len134, len136, len154, fa156_0, fa156_1, fa156_2, fa156_3, fa156_4, fa156_5, fa156_6, fa184_0, fa184_1, fa200_0, fa200_1, fa200_2, fa200_3, fa215_0, fa215_1, fa215_2, fa215_3, fa215_4, len218, len271, fa274_0, fa274_1, fa274_2, fa303_0, fa303_1, fa303_2, fa303_3, fa314_0, fa314_1, fa314_2, fa314_3, fa314_4, fa314_5, fa314_6, fa314_7, fa314_8, fa314_9, fa314_10]
    rw [ldB24 (H.box 4 rfl) rfl, ldB_agg agg33 sz33 rfl (H.box 2 rfl)]
    refine put2_c (r := ((l : Int), xs)) H 1 3 (by decide) rfl rfl (by omega) fun w14 ft' X' c' rs' hrs' H => ?_
    simp only [List.set_cons_zero, List.set_cons_succ] at H
    refine storeH H 4 rfl sz24 rfl rfl rfl fun w15 H => ?_
    simp only [List.set_cons_zero, List.set_cons_succ] at H
    have H := (H.erase 3).erase 2
    simp only [List.eraseIdx_cons_zero, List.eraseIdx_cons_succ] at H
    rw [i64_of (by omega) (by omega), show (m : Int) - 1 = ((m - 1 : Nat) : Int) from by omega]
    have hl' : rs'.length ≤ rs.length + 1 ∧ 0 < rs'.length := by
      rcases hrs' with ⟨e, h0⟩ | e
      · rw [e]
        exact ⟨by omega, h0⟩
      · rw [e, List.length_append, List.length_singleton]
        omega
    exact hN2 (m - 1) _ _ ⟨by omega, rfl, N2, ft', X', c', rs', by omega, by omega, fun _ => hl'.2, H⟩ (by omega)
  simp only [show ((0 : Int) < (o : Int)) from by omega, decide_true, bin_add, bin_sub, bin_mul, bin_eql, bin_neq, bin_lss, bin_leq, bin_gtr, bin_geq, un_not, un_neg, zq4, zq3, zq1, zq2, zq0, cond_true', cond_false', zq14, zq15, zq16, zq17, zq13, zq10, zq12, zq11, zq7, zq5, zq6, zq9, zq8, resK_nil, resK_tmp, ite_T, ite_F, upd_at, add_plain, add_zero', Nat.reduceEqDiff, fa8_0, fa8_1, fa8_2, fa8_3, fa14_0, fa14_1, fa19_0, len22, len24, fa26_0, fa26_1, fa26_2, len27, fa33_0, fa33_1, len35, fa77_0, fa77_1, fa88_0, fa88_1, fa88_2, fa88_3, fa88_4, fa88_5, fa114_0, fa114_1, fa114_2, fa124_0, fa124_1, len134, len136, len154, fa156_0, fa156_1, fa156_2, fa156_3, fa156_4, fa156_5, fa156_6, fa184_0, fa184_1, fa200_0, fa200_1, fa200_2, fa200_3, fa215_0, fa215_1, fa215_2, fa215_3, fa215_4, len218, len271, fa274_0, fa274_1, fa274_2, fa303_0, fa303_1, fa303_2, fa303_3, fa314_0, fa314_1, fa314_2, fa314_3, fa314_4, fa314_5, fa314_6, fa314_7, fa314_8, fa314_9, fa314_10]
  refine join_as (fun g w' => g 6 = .int .i64 (o : Int) ∧ g 4 = .int .i64 (m : Int) ∧ ∃ N2 Z d, ∃ xs : List Int, N2 ≤ N' + 4 + (kk - o) * 6 + 6 ∧ xs.length ≤ kk - o + 1 ∧ Apt w0 w' (cur bc (.slice C bs.length cap) N2 :: gth ft X c rs :: bx b3 [.int .i64 (l : Int), .slice Z xs.length d] 33 :: ows Z d xs :: bx b2 [.int .i64 (1 + (a : Int)), .int .i64 (1 + (t : Int)), .slice X rs.length c] 26 :: bx b1 [.int .i64 0, .int .i64 0, .slice none 0 0] 26 :: E)) (fun K1 hK1 => ?_) ?_
  case refine_2 =>
    rintro g w' ⟨g6, g4, N2, Z, d, xs, h1, h2, H⟩
    simp only [g6, bin_add, bin_sub, bin_mul, bin_eql, bin_neq, bin_lss, bin_leq, bin_gtr, bin_geq, un_not, un_neg, zq4, zq3, zq1, zq2, zq0, cond_true', cond_false', zq14, zq15, zq16, zq17, zq13, zq10, zq12, zq11, zq7, zq5, zq6, zq9, zq8, resK_nil, resK_tmp, ite_T, ite_F, upd_at, add_plain, add_zero', Nat.reduceEqDiff, fa8_0, fa8_1, fa8_2, fa8_3, fa14_0, fa14_1, fa19_0, len22, len24, fa26_0, fa26_1, fa26_2, len27, fa33_0, fa33_1, len35, fa77_0, fa77_1, fa88_0, fa88_1, fa88_2, fa88_3, fa88_4, fa88_5, fa114_0, fa114_1, fa114_2, fa124_0, fa124_1, len134, len136, len154, fa156_0, fa156_1, fa156_2, fa156_3, fa156_4, fa156_5, fa156_6, fa184_0, fa184_1, fa200_0, fa200_1, fa200_2, fa200_3, fa215_0, fa215_1, fa215_2, fa215_3, fa215_4, len218, len271, fa274_0, fa274_1, fa274_2, fa303_0, fa303_1, fa303_2, fa303_3, fa314_0, fa314_1, fa314_2, fa314_3, fa314_4, fa314_5, fa314_6, fa314_7, fa314_8, fa314_9, fa314_10]
    rw [i64_of (by omega) (by omega), show (o : Int) - 1 = ((o - 1 : Nat) : Int) from by omega]
    exact hN4 (o - 1) _ _ ⟨by omega, rfl, g4, N2, Z, d, xs, by omega, by omega, H⟩ (by omega)
  rw [ldB3 (H.box 4 rfl) rfl]
  refine pick_c H 0 rfl hC (by omega) (by omega) fun w14 x _ hx H => ?_
  simp only [List.set_cons_zero] at H
  refine join_as (fun g w' => g 6 = .int .i64 (o : Int) ∧ g 4 = .int .i64 (m : Int) ∧ g 5 = ptrv b3 ∧ (∃ x : Int, g 7 = .int .i64 x) ∧ ∃ N2, N2 ≤ N' + 4 + (kk - o) * 6 + 6 ∧ Apt w0 w' (cur bc (.slice C bs.length cap) N2 :: gth ft X c rs :: bx b3 [.int .i64 (l : Int), .slice Z xs.length d] 33 :: ows Z d xs :: bx b2 [.int .i64 (1 + (a : Int)), .int .i64 (1 + (t : Int)), .slice X rs.length c] 26 :: bx b1 [.int .i64 0, .int .i64 0, .slice none 0 0] 26 :: E)) (fun K2 hK2 => ?_) ?_
  · refine one_c H 0 rfl hC (by omega) (by omega) fun w15 b H => ?_
    simp only [List.set_cons_zero] at H
    cases b
    · simp only [bin_add, bin_sub, bin_mul, bin_eql, bin_neq, bin_lss, bin_leq, bin_gtr, bin_geq, un_not, un_neg, zq4, zq3, zq1, zq2, zq0, cond_true', cond_false', zq14, zq15, zq16, zq17, zq13, zq10, zq12, zq11, zq7, zq5, zq6, zq9, zq8, resK_nil, resK_tmp, ite_T, ite_F, upd_at, add_plain, add_zero', Nat.reduceEqDiff, fa8_0, fa8_1, fa8_2, fa8_3, fa14_0, fa14_1, fa19_0, len22, len24, fa26_0, fa26_1, fa26_2, len27, fa33_0, fa33_1, len35, fa77_0, fa77_1, fa88_0, fa88_1, fa88_2, fa88_3, fa88_4, fa88_5, fa114_0, fa114_1, fa114_2, fa124_0, fa124_1, len134, len136, len154, fa156_0, fa156_1, fa156_2, fa156_3, fa156_4, fa156_5, fa156_6, fa184_0, fa184_1, fa200_0, fa200_1, fa200_2, fa200_3, fa215_0, fa215_1, fa215_2, fa215_3, fa215_4, len218, len271, fa274_0, fa274_1, fa274_2, fa303_0, fa303_1, fa303_2, fa303_3, fa314_0, fa314_1, fa314_2, fa314_3, fa314_4, fa314_5, fa314_6, fa314_7, fa314_8, fa314_9, fa314_10]
      exact hK2 _ _ ⟨g6, g4, g5, ⟨_, rfl⟩, _, by omega, H⟩
    · simp only [bin_add, bin_sub, bin_mul, bin_eql, bin_neq, bin_lss, bin_leq, bin_gtr, bin_geq, un_not, un_neg, zq4, zq3, zq1, zq2, zq0, cond_true', cond_false', zq14, zq15, zq16, zq17, zq13, zq10, zq12, zq11, zq7, zq5, zq6, zq9, zq8, resK_nil, resK_tmp, ite_T, ite_F, upd_at, add_plain, add_zero', Nat.reduceEqDiff, fa8_0, fa8_1, fa8_2, fa8_3, fa14_0, fa14_1, fa19_0, len22, len24, fa26_0, fa26_1, fa26_2, len27, fa33_0, fa33_1, len35, fa77_0, fa77_1, fa88_0, fa88_1, fa88_2, fa88_3, fa88_4, fa88_5, fa114_0, fa114_1, fa114_2, fa124_0, fa124_1, len134, len136, len154, fa156_0, fa156_1, fa156_2, fa156_3, fa156_4, fa156_5, fa156_6, fa184_0, fa184_1, fa200_0, fa200_1, fa200_2, fa200_3, fa215_0, fa215_1, fa215_2, fa215_3, fa215_4, len218, len271, fa274_0, fa274_1, fa274_2, fa303_0, fa303_1, fa303_2, fa303_3, fa314_0, fa314_1, fa314_2, fa314_3, fa314_4, fa314_5, fa314_6, fa314_7, fa314_8, fa314_9, fa314_10]
      rw [ldB3 (H.box 4 rfl) rfl]
      refine pick_c H 0 rfl hC (by omega) (by omega) fun w16 y _ hy H => ?_
      simp only [List.set_cons_zero, bin_add, bin_sub, bin_mul, bin_eql, bin_neq, bin_lss, bin_leq, bin_gtr, bin_geq, un_not, un_neg, zq4, zq3, zq1, zq2, zq0, cond_true', cond_false', zq14, zq15, zq16, zq17, zq13, zq10, zq12, zq11, zq7, zq5, zq6, zq9, zq8, resK_nil, resK_tmp, ite_T, ite_F, upd_at, add_plain, add_zero', Nat.reduceEqDiff, fa8_0, fa8_1, fa8_2, fa8_3, fa14_0, fa14_1, fa19_0, len22, len24, fa26_0, fa26_1, fa26_2, len27, fa33_0, fa33_1, len35, fa77_0, fa77_1, fa88_0, fa88_1, fa88_2, fa88_3, fa88_4, fa88_5, fa114_0, fa114_1, fa114_2, fa124_0, fa124_1, len134, len136, len154, fa156_0, fa156_1, fa156_2, fa156_3, fa156_4, fa156_5, fa156_6, fa184_0, fa184_1, fa200_0, fa200_1, fa200_2, fa200_3, fa215_0, fa215_1, fa215_2, fa215_3, fa215_4, len218, len271, fa274_0, fa274_1, fa274_2, fa303_0, fa303_1, fa303_2, fa303_3, fa314_0, fa314_1, fa314_2, fa314_3, fa314_4, fa314_5, fa314_6, fa314_7, fa314_8, fa314_9, fa314_10] at H ⊢
      exact hK2 _ _ ⟨g6, g4, g5, ⟨_, rfl⟩, _, by omega, H⟩
  · clear H
    rintro g w15 ⟨g6, g4, g5, ⟨y, g7⟩, N5, hN5, H⟩
    simp only [g5, g7, bin_add, bin_sub, bin_mul, bin_eql, bin_neq, bin_lss, bin_leq, bin_gtr, bin_geq, un_not, un_neg, zq4, zq3, zq1, zq2, zq0, cond_true', cond_false', zq14, zq15, zq16, zq17, zq13, zq10, zq12, zq11, zq7, zq5, zq6, zq9, zq8, resK_nil, resK_tmp, ite_T, ite_F, upd_at, add_plain, add_zero', Nat.reduceEqDiff, fa8_0, fa8_1, fa8_2, fa8_3, fa14_0, fa14_1, fa19_0, len22, len24, fa26_0, fa26_1, fa26_2, len27, fa33_0, fa33_1, len35, fa77_0, fa77_1, fa88_0, fa88_1, fa88_2, fa88_3, fa88_4, fa88_5, fa114_0, fa114_1, fa114_2, fa124_0, fa124_1, len134, len136, len154, fa156_0, fa156_1, fa156_2, fa156_3, fa156_4, fa156_5, fa156_6, fa184_0, fa184_1, fa200_0, fa200_1, fa200_2, fa200_3, fa215_0, fa215_1, fa215_2, fa215_3, fa215_4, len218, len271, fa274_0, fa274_1, fa274_2, fa303_0, fa303_1, fa303_2, fa303_3, fa314_0, fa314_1, fa314_2, fa314_3, fa314_4, fa314_5, fa314_6, fa314_7, fa314_8, fa314_9, fa314_10]
    rw [ldB27 (H.box 2 rfl) rfl]
    refine pushH H 3 rfl rfl (by omega) fun t1 Z2 d2 w16 H => ?_
    simp only [List.set_cons_zero, List.set_cons_succ, bin_add, bin_sub, bin_mul, bin_eql, bin_neq, bin_lss, bin_leq, bin_gtr, bin_geq, un_not, un_neg, zq4, zq3, zq1, zq2, zq0, cond_true', cond_false', zq14, zq15, zq16, zq17, zq13, zq10, zq12, zq11, zq7, zq5, zq6, zq9, zq8, resK_nil, resK_tmp, ite_T, ite_F, upd_at, add_plain, add_zero', Nat.reduceEqDiff, fa8_0, fa8_1, fa8_2, fa8_3, fa14_0, fa14_1, fa19_0, len22, len24, fa26_0, fa26_1, fa26_2, len27, fa33_0, fa33_1, len35, fa77_0, fa77_1, fa88_0, fa88_1, fa88_2, fa88_3, fa88_4, fa88_5, fa114_0, fa114_1, fa114_2, fa124_0, fa124_1, len134, len136, len154, fa156_0, fa156_1, fa156_2, fa156_3, fa156_4, fa156_5, fa156_6, fa184_0, fa184_1, fa200_0, fa200_1, fa200_2, fa200_3, fa215_0, fa215_1, fa215_2, fa215_3, fa215_4, len218, len271, fa274_0, fa274_1, fa274_2, fa303_0, fa303_1, fa303_2, fa303_3, fa314_0, fa314_1, fa314_2, fa314_3, fa314_4, fa314_5, fa314_6, fa314_7, fa314_8, fa314_9, fa314_10] at H ⊢
    refine storeH H 2 rfl sz27 rfl rfl rfl fun w17 H => ?_
    simp only [List.set_cons_zero, List.set_cons_succ, List.take_succ_cons, List.take_zero, List.drop_succ_cons, List.drop_zero, List.nil_append, List.cons_append, List.drop_nil, Value.cells] at H
    exact hK1 _ _ ⟨g6, g4, N5, Z2, d2, xs ++ [y], hN5, by rw [List.length_append, List.length_singleton]; omega, H⟩
end
end Go.Proofs.Ytegcjkhebecgbaa

/- Slices of slices of values that are owned. -/
set_option linter.unusedVariables false
set_option linter.unusedSimpArgs false
set_option maxRecDepth 100000
namespace Go.Sh
open Go
def vls (ls : List (List Value)) (j : Nat) : List Value := ls.getD j []
theorem vls_eq {ls : List (List Value)} {j : Nat} (h : j < ls.length) : vls ls j = ls[j] := by simp [vls, List.getD_eq_getElem?_getD, h]
theorem vls_set {ls : List (List Value)} {i j : Nat} {l : List Value} (hi : i < ls.length) : vls (ls.set i l) j = if j = i then l else vls ls j := by
  simp only [vls, List.getD_eq_getElem?_getD, List.getElem?_set]
  by_cases hij : i = j
  · subst hij
    simp [hi]
  · rw [if_neg hij, if_neg (fun e => hij e.symm)]
/-- Slices of values of the call's own: the row, and a slice of its own for each. -/
structure OwnV (e1 e2 : Nat) (w : World) (B : Nat) (X : Option Addr) (c : Nat) (ls : List (List Value)) (ps : Nat → Option Addr × Nat) : Prop where
  row : ∃ cells, Row w B e1 1 X ls.length c cells ∧ ∀ j, j < ls.length → cells[j]? = some (.slice (ps j).1 (vls ls j).length (ps j).2)
  own : ∀ j, j < ls.length → Row w B e2 1 (ps j).1 (vls ls j).length (ps j).2 (vls ls j)
  two : ∀ i j, i < ls.length → j < ls.length → i ≠ j → blk (ps i).1 = none ∨ blk (ps i).1 ≠ blk (ps j).1
section
variable {e1 e2 : Nat} {w w' : World} {B B' : Nat} {X : Option Addr} {c : Nat} {ls : List (List Value)} {ps : Nat → Option Addr × Nat}
theorem OwnV.same (h : OwnV e1 e2 w B X c ls ps) (hs : ∀ q, Foot X ps ls.length q → w'.heap[q]? = w.heap[q]?) : OwnV e1 e2 w' B X c ls ps := by
  obtain ⟨⟨cells, hr, hc⟩, ho, ht⟩ := h
  exact ⟨⟨cells, hr.same fun q hq => hs q (.inl hq), hc⟩, fun j hj => Row.same (ho j hj) fun q hq => hs q (.inr ⟨j, hj, hq⟩), ht⟩
theorem OwnV.up (h : OwnV e1 e2 w B X c ls ps) (hs : ∀ q, Foot X ps ls.length q → B' ≤ q) : OwnV e1 e2 w B' X c ls ps := by
  obtain ⟨⟨cells, hr, hc⟩, ho, ht⟩ := h
  exact ⟨⟨cells, hr.up fun q hq => hs q (.inl hq), hc⟩, fun j hj => Row.up (ho j hj) fun q hq => hs q (.inr ⟨j, hj, hq⟩), ht⟩
theorem OwnV.mono (h : OwnV e1 e2 w B X c ls ps) (hb : B' ≤ B) : OwnV e1 e2 w B' X c ls ps := by
  obtain ⟨⟨cells, hr, hc⟩, ho, ht⟩ := h
  exact ⟨⟨cells, Row.mono hr hb, hc⟩, fun j hj => Row.mono (ho j hj) hb, ht⟩
theorem OwnV.foot (h : OwnV e1 e2 w B X c ls ps) {q : Nat} (hq : Foot X ps ls.length q) : B ≤ q ∧ q < w.heap.size := by
  obtain ⟨⟨cells, hr, hc⟩, ho, ht⟩ := h
  rcases hq with hq | ⟨l, hl, hq⟩
  · exact hr.ge hq
  · exact Row.ge (ho l hl) hq
theorem OwnV.ptr (h : OwnV e1 e2 w B X c ls ps) (hl : 0 < ls.length) : X = some (ad X) := by
  obtain ⟨⟨cells, hr, hc⟩, _⟩ := h
  exact hr.ptr hl
theorem OwnV.cell (h : OwnV e1 e2 w B X c ls ps) {j : Nat} (hj : j < ls.length) : w.cell? ((ad X).add j) = some (.slice (ps j).1 (vls ls j).length (ps j).2) := by
  obtain ⟨⟨cells, hr, hc⟩, _⟩ := h
  exact hr.src.cell _ _ (hc j hj)
/-- One value of one slice is written. -/
theorem OwnV.put {i m : Nat} {v : Value} (h : OwnV e1 e2 w B X c ls ps) (he : e1 ≠ e2) (hi : i < ls.length) (hr : Row w' B e2 1 (ps i).1 (vls ls i).length (ps i).2 ((vls ls i).set m v)) (g : w.grownBy w' (blk (ps i).1)) : OwnV e1 e2 w' B X c (ls.set i ((vls ls i).set m v)) ps := by
  obtain ⟨⟨cells, hr0, hc⟩, ho, ht⟩ := h
  refine ⟨⟨cells, by rw [List.length_set]; exact Row.kept hr0 g (row_ne hr0 (ho i hi) he), fun j hj => ?_⟩, fun j hj => ?_, fun a b ha hb hab => ?_⟩
  · rw [List.length_set] at hj
    rw [hc j hj, vls_set hi]
    by_cases hij : j = i
    · subst hij
      rw [if_pos rfl, List.length_set]
    · rw [if_neg hij]
  · rw [List.length_set] at hj
    rw [vls_set hi]
    by_cases hij : j = i
    · subst hij
      rw [if_pos rfl, List.length_set]
      exact hr
    · rw [if_neg hij]
      exact Row.kept (ho j hj) g (ht j i hj hi hij)
  · rw [List.length_set] at ha hb
    exact ht a b ha hb hab
/-- One slice comes to a place. -/
theorem OwnV.setRow {i d B2 : Nat} {Y : Option Addr} {l cells : List Value} (h : OwnV e1 e2 w B X c ls ps) (he : e1 ≠ e2) (hi : i < ls.length) (ho : Row w B2 e2 1 Y l.length d l) (hne : ∀ j, j < ls.length → blk (ps j).1 = none ∨ blk (ps j).1 ≠ blk Y)
    (hr0 : Row w B e1 1 X ls.length c cells) (hc : ∀ j, j < ls.length → cells[j]? = some (.slice (ps j).1 (vls ls j).length (ps j).2)) (hr : Row w' B e1 1 X ls.length c (cells.set i (.slice Y l.length d))) (g : w.grownBy w' (blk X)) : OwnV e1 e2 w' 0 X c (ls.set i l) (fun j => if j = i then (Y, d) else ps j) := by
  have hlen := hr0.len
  refine ⟨⟨_, by rw [List.length_set]; exact Row.mono hr (Nat.zero_le _), fun j hj => ?_⟩, fun j hj => ?_, fun a b ha hb hab => ?_⟩
  · rw [List.length_set] at hj
    rw [vls_set hi]
    by_cases hij : j = i
    · subst hij
      simp only [if_true]
      rw [List.getElem?_set_self (by omega)]
    · simp only [hij, if_false]
      rw [List.getElem?_set_ne (fun e => hij e.symm)]
      exact hc j hj
  · rw [List.length_set] at hj
    rw [vls_set hi]
    by_cases hij : j = i
    · subst hij
      simp only [if_true]
      exact Row.mono (Row.kept ho g (row_ne ho hr0 fun e => he e.symm)) (Nat.zero_le _)
    · simp only [hij, if_false]
      exact Row.mono (Row.kept (h.own j hj) g (row_ne (h.own j hj) hr0 fun e => he e.symm)) (Nat.zero_le _)
  · rw [List.length_set] at ha hb
    by_cases hai : a = i <;> by_cases hbi : b = i
    · omega
    · simp only [hai, hbi, if_true, if_false]
      exact blk_sym (hne b hb)
    · simp only [hai, hbi, if_true, if_false]
      exact hne a ha
    · simp only [hai, hbi, if_false]
      exact h.two a b ha hb hab
end
def vvi (e1 e2 : Nat) (X : Option Addr) (c : Nat) (ls : List (List Value)) (ps : Nat → Option Addr × Nat) : Thing := ⟨fun w => OwnV e1 e2 w 0 X c ls ps, Foot X ps ls.length⟩
theorem vvi_kept {w : World} {B e1 e2 c : Nat} {X : Option Addr} {ls : List (List Value)} {ps : Nat → Option Addr × Nat} (h : OwnV e1 e2 w B X c ls ps) : ∀ w', (∀ q, (vvi e1 e2 X c ls ps).ft q → w'.heap[q]? = w.heap[q]?) → (vvi e1 e2 X c ls ps).P w' := fun w' hq => (h.mono (Nat.zero_le B)).same hq
theorem Apt.vv {w0 w : World} {L : List Thing} (H : Apt w0 w L) (i : Nat) {e1 e2 c : Nat} {X : Option Addr} {ls : List (List Value)} {ps : Nat → Option Addr × Nat} (hi : L[i]? = some (vvi e1 e2 X c ls ps)) : OwnV e1 e2 w w0.heap.size X c ls ps := OwnV.up (H.get i hi) (H.ok i _ hi).lo
/-- A row of nil slices. -/
theorem Apt.nilVV {w0 w : World} {L : List Thing} (H : Apt w0 w L) (i : Nat) {e1 c n : Nat} (e2 : Nat) {X : Option Addr} (hi : L[i]? = some (rwi e1 1 X n c (List.replicate n (.slice none 0 0)))) : Apt w0 w (L.set i (vvi e1 e2 X c (List.replicate n []) fun _ => (none, 0))) := by
  have hr := H.row i hi
  have hv : ∀ j, vls (List.replicate n []) j = [] := fun j => by
    simp only [vls, List.getD_eq_getElem?_getD, List.getElem?_replicate]
    split <;> rfl
  have o : OwnV e1 e2 w w0.heap.size X c (List.replicate n []) fun _ => (none, 0) := by
    refine ⟨⟨_, by rw [List.length_replicate]; exact hr, fun j hj => ?_⟩, fun j hj => ?_, fun i j hi hj hij => .inl rfl⟩
    · rw [List.length_replicate] at hj
      rw [hv]
      simp [hj]
    · rw [hv]
      exact Row.nil _ _ _ _
  refine H.set hi (Gx.refl _ w) (fun q hq => ?_) (fun q hq => (o.foot hq).2) (vvi_kept o)
  rcases hq with hq | ⟨l, hl, hq⟩
  · exact .inl hq
  · cases hq
section
variable {P : Program} {k : Value → World → Prop} {w0 w : World} {L : List Thing}
/-- A store of one value into one slice among slices. -/
theorem storeVV (H : Apt w0 w L) (i j : Nat) {t e1 e2 m c : Nat} {X : Option Addr} {ls : List (List Value)} {ps : Nat → Option Addr × Nat} {v : Value} (hi : L[i]? = some (vvi e1 e2 X c ls ps)) (he : e1 ≠ e2) (hs : szOf P t 1) (hv : v.cells.toList = [v]) (h1 : v.oneCell' = true) (hj : j < ls.length) (hm : m < (vls ls j).length)
    (h : ∀ w', Apt w0 w' (L.set i (vvi e1 e2 X c (ls.set j ((vls ls j).set m v)) ps)) → k undef w') : Do P (sStore t (.pointer (some ((ad (ps j).1).add m))) v) k w := by
  have o := H.vv i hi
  refine do_store_row hs hv h1 (o.own j hj) (by omega) fun w' g hsz hr => ?_
  have o' := o.put he hj hr g
  refine h w' (H.set hi (gx_of g fun q hq => .inr ⟨j, hj, hq⟩) (fun q hq => .inl ?_) (fun q hq => (o'.foot hq).2) (vvi_kept o'))
  rcases hq with hq | ⟨l, hl, hq⟩
  · exact .inl hq
  · rw [List.length_set] at hl
    exact .inr ⟨l, hl, hq⟩
/-- A store of an owned slice into a row of slices. -/
theorem setRowVV (H : Apt w0 w L) (i j x : Nat) (hij : i ≠ j) {t e1 e2 c d n : Nat} {X Y : Option Addr} {ls : List (List Value)} {l : List Value} {ps : Nat → Option Addr × Nat} (hi : L[i]? = some (vvi e1 e2 X c ls ps)) (hj : L[j]? = some (rwi e2 1 Y n d l)) (hn : n = l.length) (he : e1 ≠ e2) (hs : szOf P t 1) (hx : x < ls.length)
    (h : ∀ w' ps', Apt w0 w' ((L.set i (vvi e1 e2 X c (ls.set x l) ps')).set j emp) → k undef w') : Do P (sStore t (.pointer (some ((ad X).add x))) (.slice Y n d)) k w := by
  subst hn
  have o := H.vv i hi
  obtain ⟨⟨cells, hr0, hc⟩, _⟩ := id o
  refine do_store_row hs rfl rfl hr0 (by omega) fun w' g hsz hr => ?_
  have o' := o.setRow he hx (H.row j hj) (fun m hm => by
    cases hq : blk (ps m).1 with
    | none => exact .inl rfl
    | some q => exact .inr fun e => H.two i j _ _ hij hi hj q (.inr ⟨m, hm, hq⟩) (show blk Y = some q from e.symm)) hr0 hc hr g
  refine h w' _ (H.join hij hi hj (gx_of g fun q hq => .inl (.inl hq)) (fun q hq => ?_) (fun q hq => (o'.foot hq).2) (vvi_kept o'))
  rcases hq with hq | ⟨m, hm, hq⟩
  · exact .inl (.inl hq)
  · rw [List.length_set] at hm
    by_cases e : m = x
    · simp only [e, if_true] at hq
      exact .inr (.inl hq)
    · simp only [e, if_false] at hq
      exact .inl (.inr ⟨m, hm, hq⟩)
end
end Go.Sh

/- Plain: what derives what, by passes until nothing changes. -/
set_option linter.unusedVariables false
set_option linter.unusedSimpArgs false
namespace Go.Sh
/-! A table of what derives what: nonterminal, from, to. -/
abbrev Tab := Nat → Nat → Nat → Bool
def Tab.put (T : Tab) (x i j : Nat) : Tab := fun a b c => if a = x ∧ b = i ∧ c = j then true else T a b c
def symT (T : Tab) (w : List Int) (x : Int) (i j : Nat) : Bool := if x < 0 then decide (j = i + 1) && decide (w.getD i 0 = -1 - x) else T x.toNat i j
def fitsT (T : Tab) (w : List Int) : List Int → Nat → Nat → Bool
  | [], i, j => decide (i = j)
  | x :: xs, i, j => (List.range' i (j + 1 - i)).any fun m => symT T w x i m && fitsT T w xs m j
theorem fits_tok {T : Tab} {w : List Int} {x : Int} {xs : List Int} {i j : Nat} (hx : x < 0) : fitsT T w (x :: xs) i j = (decide (i < j) && (decide (w.getD i 0 = -1 - x) && fitsT T w xs (i + 1) j)) := by
  rw [Bool.eq_iff_iff]
  simp only [fitsT, symT, hx, if_true, List.any_eq_true, List.mem_range'_1, Bool.and_eq_true, decide_eq_true_eq]
  constructor
  · rintro ⟨m, ⟨h1, h2⟩, ⟨rfl, h4⟩, h5⟩
    exact ⟨by omega, h4, h5⟩
  · rintro ⟨h1, h2, h3⟩
    exact ⟨i + 1, ⟨by omega, by omega⟩, ⟨rfl, h2⟩, h3⟩
theorem fits_non {T : Tab} {w : List Int} {x : Int} {xs : List Int} {i j : Nat} (hx : ¬ x < 0) : fitsT T w (x :: xs) i j = (List.range' i (j + 1 - i)).any fun m => T x.toNat i m && fitsT T w xs m j := by
  simp only [fitsT, symT, hx, if_false]
/-- Whether a place ahead of one holds. -/
theorem any_upto {p : Nat → Bool} {i j : Nat} (h : ∀ m, i ≤ m → m ≤ j → p m = false) : (List.range' i (j + 1 - i)).any p = false := by
  rw [List.any_eq_false]
  intro m hm
  rw [List.mem_range'_1] at hm
  rw [h m hm.1 (by omega)]
  decide
theorem any_at {p : Nat → Bool} {i j m : Nat} (h1 : i ≤ m) (h2 : m ≤ j) (h : p m = true) : (List.range' i (j + 1 - i)).any p = true := by
  rw [List.any_eq_true]
  exact ⟨m, List.mem_range'_1.2 ⟨h1, by omega⟩, h⟩

/-! One pass over all rules and places. -/
abbrev TS := Tab × Bool
def stepT (w : List Int) (r : Int × List Int) (i : Nat) (s : TS) (j : Nat) : TS := if !s.1 r.1.toNat i j && fitsT s.1 w r.2 i j then (s.1.put r.1.toNat i j, true) else s
def rowT (w : List Int) (r : Int × List Int) (s : TS) (i : Nat) : TS := (List.range' i (w.length + 1 - i)).foldl (stepT w r i) s
def ruleT (w : List Int) (s : TS) (r : Int × List Int) : TS := (List.range (w.length + 1)).foldl (rowT w r) s
def passT (rs : List (Int × List Int)) (w : List Int) (s : TS) : TS := rs.foldl (ruleT w) s
def cellT (T : Tab) (p : Nat) : Bool := T (p / 121) (p / 11 % 11) (p % 11)
def openT (T : Tab) : Nat := (List.range 726).countP fun p => !cellT T p
theorem count_le {α : Type} {p q : α → Bool} {l : List α} (h : ∀ a ∈ l, p a = true → q a = true) : l.countP p ≤ l.countP q := List.countP_mono_left h
theorem count_lt {α : Type} {p q : α → Bool} {l : List α} (h : ∀ a ∈ l, p a = true → q a = true) {b : α} (hb : b ∈ l) (hq : q b = true) (hp : p b = false) : l.countP p < l.countP q := by
  induction l with
  | nil => cases hb
  | cons a l ih =>
    have ht : ∀ a ∈ l, p a = true → q a = true := fun x hx => h x (List.mem_cons_of_mem _ hx)
    rw [List.countP_cons, List.countP_cons]
    rcases List.mem_cons.1 hb with rfl | hb
    · have := count_le ht
      rw [hp, hq]
      simp
      omega
    · have := ih ht hb
      have ha := h a (List.mem_cons_self ..)
      by_cases hpa : p a = true
      · rw [if_pos hpa, if_pos (ha hpa)]
        omega
      · rw [if_neg hpa]
        split <;> omega
theorem open_put {T : Tab} {x i j : Nat} (hx : x < 6) (hi : i < 11) (hj : j < 11) (h : T x i j = false) : openT (T.put x i j) < openT T := by
  unfold openT
  refine count_lt (b := x * 121 + i * 11 + j) (fun p hp hh => ?_) (List.mem_range.2 (by omega)) ?_ ?_
  · simp only [cellT, Tab.put, Bool.not_eq_true'] at hh ⊢
    split at hh
    · cases hh
    · exact hh
  · have e1 : (x * 121 + i * 11 + j) / 121 = x := by omega
    have e2 : (x * 121 + i * 11 + j) / 11 % 11 = i := by omega
    have e3 : (x * 121 + i * 11 + j) % 11 = j := by omega
    simp [cellT, e1, e2, e3, h]
  · have e1 : (x * 121 + i * 11 + j) / 121 = x := by omega
    have e2 : (x * 121 + i * 11 + j) / 11 % 11 = i := by omega
    have e3 : (x * 121 + i * 11 + j) % 11 = j := by omega
    simp [cellT, Tab.put, e1, e2, e3]
def Inc (s s' : TS) : Prop := s' = s ∨ (s'.2 = true ∧ openT s'.1 < openT s.1)
theorem Inc.refl (s : TS) : Inc s s := .inl rfl
theorem Inc.trans {a b c : TS} (h : Inc a b) (g : Inc b c) : Inc a c := by
  rcases h with rfl | ⟨h1, h2⟩
  · exact g
  · rcases g with rfl | ⟨g1, g2⟩
    · exact .inr ⟨h1, h2⟩
    · exact .inr ⟨g1, by omega⟩
theorem Inc.fold {α : Type} {f : TS → α → TS} {l : List α} (h : ∀ a ∈ l, ∀ s, Inc s (f s a)) : ∀ s, Inc s (l.foldl f s) := by
  induction l with
  | nil => exact fun s => Inc.refl s
  | cons a l ih =>
    intro s
    exact (h a (List.mem_cons_self ..) s).trans (ih (fun b hb => h b (List.mem_cons_of_mem _ hb)) _)
theorem stepT_inc {w : List Int} {r : Int × List Int} {i j : Nat} {s : TS} (hr : r.1.toNat < 6) (hi : i < 11) (hj : j < 11) : Inc s (stepT w r i s j) := by
  unfold stepT
  split
  · rename_i h
    simp only [Bool.and_eq_true, Bool.not_eq_true'] at h
    exact .inr ⟨rfl, open_put hr hi hj h.1⟩
  · exact .inl rfl
theorem rowT_inc {w : List Int} {r : Int × List Int} {i : Nat} (hr : r.1.toNat < 6) (hw : w.length ≤ 10) (hi : i < 11) (s : TS) : Inc s (rowT w r s i) :=
  Inc.fold (fun j hj s => by
    rw [List.mem_range'_1] at hj
    exact stepT_inc hr hi (by omega)) s
theorem ruleT_inc {w : List Int} {r : Int × List Int} (hr : r.1.toNat < 6) (hw : w.length ≤ 10) (s : TS) : Inc s (ruleT w s r) :=
  Inc.fold (fun i hi s => rowT_inc hr hw (by have := List.mem_range.1 hi; omega) s) s
theorem passT_inc {rs : List (Int × List Int)} {w : List Int} (hr : ∀ r ∈ rs, r.1.toNat < 6) (hw : w.length ≤ 10) (s : TS) : Inc s (passT rs w s) :=
  Inc.fold (fun r h s => ruleT_inc (hr r h) hw s) s
/-- Passes until nothing changes. -/
inductive Span (rs : List (Int × List Int)) (w : List Int) : Tab → Tab → Prop
  | done {T : Tab} : (passT rs w (T, false)).2 = false → Span rs w T (passT rs w (T, false)).1
  | more {T U : Tab} : (passT rs w (T, false)).2 = true → Span rs w (passT rs w (T, false)).1 U → Span rs w T U
theorem Span.det {rs : List (Int × List Int)} {w : List Int} {T U V : Tab} (h : Span rs w T U) (g : Span rs w T V) : U = V := by
  induction h with
  | done h1 =>
    cases g with
    | done g1 => rfl
    | more g1 g2 => rw [h1] at g1; cases g1
  | more h1 h2 ih =>
    cases g with
    | done g1 => rw [h1] at g1; cases g1
    | more g1 g2 => exact ih g2
theorem Span.ex {rs : List (Int × List Int)} {w : List Int} (hr : ∀ r ∈ rs, r.1.toNat < 6) (hw : w.length ≤ 10) : ∀ (n : Nat) (T : Tab), openT T ≤ n → ∃ U, Span rs w T U := by
  intro n
  induction n with
  | zero =>
    intro T hT
    rcases passT_inc hr hw (T, false) with h | ⟨_, h⟩
    · exact ⟨_, .done (by rw [h])⟩
    · exact absurd h (by simp at hT ⊢; omega)
  | succ n ih =>
    intro T hT
    rcases passT_inc hr hw (T, false) with h | ⟨h1, h2⟩
    · exact ⟨_, .done (by rw [h])⟩
    · obtain ⟨U, hU⟩ := ih (passT rs w (T, false)).1 (by simp at h2; omega)
      exact ⟨U, .more h1 hU⟩
def noTab : Tab := fun _ _ _ => false
open Classical in
noncomputable def spanT (rs : List (Int × List Int)) (w : List Int) : Tab := if h : ∃ U, Span rs w noTab U then Classical.choose h else noTab
theorem Span.eq {rs : List (Int × List Int)} {w : List Int} {U : Tab} (h : Span rs w noTab U) : U = spanT rs w := by
  have hx : ∃ U, Span rs w noTab U := ⟨U, h⟩
  unfold spanT
  rw [dif_pos hx]
  exact h.det (Classical.choose_spec hx)
/-- Whether a word is of the language. -/
noncomputable def inL (rs : List (Int × List Int)) (w : List Int) : Bool := spanT rs w 0 0 w.length
end Go.Sh

/- Be: bodies of functions as terms of the frame calculus, printed by shgen.py of this repository. -/
set_option linter.unusedVariables false
set_option maxRecDepth 100000
namespace Go.Proofs.Ytegcjkhebecgbaa
open Go Go.Sh

/-! loop.example/g00758/spec.PumpOf -/
/-! loop.example/g00758/impl.PumpOf -/
/-! loop.example/g00758/spec.PathIn -/
/-! loop.example/g00758/impl.PathIn -/
/-! loop.example/g00758/spec.PumpTree -/
/-! loop.example/g00758/impl.PumpTree -/
/-! loop.example/g00758/spec.l18Asked -/
/-! loop.example/g00758/spec.l18Pump -/
/-! (loop.example/g00758/impl.Grammar).whole -/
/-! (*loop.example/g00758/impl.part).pump -/
/-! loop.example/g00758/spec.l18Parts -/
/-! (*loop.example/g00758/impl.part).parts -/
/-! loop.example/g00758/spec.l11Asked -/
/-! loop.example/g00758/spec.l11Is -/
/-! (loop.example/g00758/impl.Grammar).tree -/
/-! loop.example/g00758/spec.l11End -/
/-! (loop.example/g00758/impl.Grammar).tree$1 -/
/-! loop.example/g00758/impl.symbolOf -/
def pl254 : Plans := fun _ => ⟨false, [], .nil⟩
def S254 (v0 : Value) (k : Value → World → Prop) (w : World) : Prop :=
 Rd Try.prog (WS.at w) (sBin .sub 3 true (.int .i64 (-1)) v0) fun t1 =>
 k t1 w
theorem body254 : Try.f254.body = some (bodyOf Try.f254) := by kernel_rfl
theorem same254 (v0 : Value) (k : Value → World → Prop) (w : World) : wpF Try.prog pl254 (bodyOf Try.f254) (bodyQ Try.prog Try.f254.results.toList k) (initF [v0]) w = S254 v0 k w := by kernel_rfl
theorem enter254 {v0 : Value} {k : Value → World → Prop} {w : World} (h : S254 v0 k w) : CallK Try.prog 254 [v0] k w :=
  call_of_wpF (pl := pl254) mixed Try.func254 body254 (by kernel_rfl) (of_decide_eq_true (by kernel_rfl)) (by kernel_rfl) (by kernel_rfl) (Eq.mpr (same254 v0 k w) h)

end Go.Proofs.Ytegcjkhebecgbaa

/- Contracts: where a tree ends (the reference). -/
set_option linter.unusedVariables false
set_option linter.unusedSimpArgs false
set_option maxRecDepth 100000
namespace Go.Sh
open Go
end Go.Sh
namespace Go.Proofs.Ytegcjkhebecgbaa
open Go Go.Sh Go.RowKit

end Go.Proofs.Ytegcjkhebecgbaa

/- Contracts: whether a tree is one, its parts, by the reference. -/
set_option linter.unusedVariables false
set_option linter.unusedSimpArgs false
set_option maxRecDepth 100000
namespace Go.Sh
open Go
theorem good_nons {g : Gram} (hg : goodG g = true) : 1 ≤ g.nons ∧ g.nons ≤ 6 := by
  simp only [goodG, inB, Bool.and_eq_true, decide_eq_true_eq] at hg
  exact hg.1.1.1
theorem good_toks {g : Gram} (hg : goodG g = true) : 1 ≤ g.toks ∧ g.toks ≤ 4 := by
  simp only [goodG, inB, Bool.and_eq_true, decide_eq_true_eq] at hg
  exact hg.1.1.2
def isT (gm : Gram) (tree : List Int) : Bool := decide (0 < tree.length) && decide (endT gm.rules tree tree.length 0 0 = some tree.length)
def askedT (gm : Gram) (tree : List Int) : Bool := goodG gm && decide (tree.length ≤ 60) && isT gm tree
end Go.Sh
namespace Go.Proofs.Ytegcjkhebecgbaa
open Go Go.Sh Go.RowKit

end Go.Proofs.Ytegcjkhebecgbaa

/- Bf: bodies of functions as terms of the frame calculus, printed by shgen.py of this repository. -/
set_option linter.unusedVariables false
set_option maxRecDepth 100000
namespace Go.Proofs.Ytegcjkhebecgbaa
open Go Go.Sh

/-! loop.example/g00758/spec.IsPump -/
/-! loop.example/g00758/impl.IsPump -/
/-! loop.example/g00758/impl.isWord -/
def pl150 : Plans := fun _ => ⟨false, [], .nil⟩
def S150 (v0 v1 : Value) (k : Value → World → Prop) (w : World) : Prop :=
 Do Try.prog (sBox 3 v0) (fun t1 w2 =>
 Rd Try.prog (WS.at w2) (sBuiltin .len #[27] 3 [false] [v1]) fun t3 =>
 Rd Try.prog (WS.at w2) (sBin .leq 3 true t3 (.int .i64 10)) fun t4 =>
 GuardK t4 true (fun k w' => k v1 w') (fun t5 w6 =>
 GuardK t4 true (fun k w' => Rd Try.prog (WS.at w6) (sMakeFunc (.func 251) [] [t1]) fun v => k v w') (fun t7 w8 =>
 GuardK t4 true (fun k w' => CallK Try.prog 250 [t5, t7] k w') (fun t9 w10 =>
 GuardK t4 true (fun k w' => Rd Try.prog (WS.at w10) (sUn .not t9) fun v => k v w') (fun t11 w12 =>
 Rd Try.prog (WS.at w12) (sPick t4 t11 (.bool false)) fun t13 =>
 k t13 w12) w10) w8) w6) w2) w
theorem body150 : Try.f150.body = some (bodyOf Try.f150) := by kernel_rfl
theorem same150 (v0 v1 : Value) (k : Value → World → Prop) (w : World) : wpF Try.prog pl150 (bodyOf Try.f150) (bodyQ Try.prog Try.f150.results.toList k) (initF [v0, v1]) w = S150 v0 v1 k w := by kernel_rfl
theorem enter150 {v0 v1 : Value} {k : Value → World → Prop} {w : World} (h : S150 v0 v1 k w) : CallK Try.prog 150 [v0, v1] k w :=
  call_of_wpF (pl := pl150) mixed Try.func150 body150 (by kernel_rfl) (of_decide_eq_true (by kernel_rfl)) (by kernel_rfl) (by kernel_rfl) (Eq.mpr (same150 v0 v1 k w) h)

/-! loop.example/g00758/spec.GoodWord -/
/-! loop.example/g00758/spec.l4In -/
def pl153 : Plans := fun _ => ⟨false, [], .nil⟩
def S153 (v0 v1 v2 : Value) (k : Value → World → Prop) (w : World) : Prop :=
 Do Try.prog (sBox 26 v0) (fun t1 w2 =>
 Rd Try.prog (WS.at w2) (sLoad 26 t1) fun t3 =>
 CallK Try.prog 162 [t3, v2] (fun t4 w5 =>
 Rd Try.prog (WS.at w5) (sIndexAddr 134 t4 v1) fun t6 =>
 Rd Try.prog (WS.at w5) (sLoad 136 t6) fun t7 =>
 Rd Try.prog (WS.at w5) (sBuiltin .len #[27] 3 [false] [v2]) fun t8 =>
 Rd Try.prog (WS.at w5) (sIndexAddr 136 t7 t8) fun t9 =>
 Rd Try.prog (WS.at w5) (sLoad 4 t9) fun t10 =>
 k t10 w5) w2) w
theorem body153 : Try.f153.body = some (bodyOf Try.f153) := by kernel_rfl
theorem same153 (v0 v1 v2 : Value) (k : Value → World → Prop) (w : World) : wpF Try.prog pl153 (bodyOf Try.f153) (bodyQ Try.prog Try.f153.results.toList k) (initF [v0, v1, v2]) w = S153 v0 v1 v2 k w := by kernel_rfl
theorem enter153 {v0 v1 v2 : Value} {k : Value → World → Prop} {w : World} (h : S153 v0 v1 v2 k w) : CallK Try.prog 153 [v0, v1, v2] k w :=
  call_of_wpF (pl := pl153) mixed Try.func153 body153 (by kernel_rfl) (of_decide_eq_true (by kernel_rfl)) (by kernel_rfl) (by kernel_rfl) (Eq.mpr (same153 v0 v1 v2 k w) h)

/-! (loop.example/g00758/impl.Grammar).spans -/
def pl151 : Plans := fun i => match i with
  | 14 => ⟨false, [18], .step 0 .any (.step 1 .any (.step 2 .held (.step 3 .any (.step 4 .any (.step 5 .any (.step 6 .any (.step 7 .any (.step 8 .any (.step 9 .any (.step 10 .held (.step 11 .any (.step 12 .any (.step 13 .any (.step 14 .any (.step 15 .held (.step 16 .any (.step 17 .any (.step 18 .last (.step 19 .any (.nil))))))))))))))))))))⟩
  | 15 => ⟨false, [10], .step 0 .any (.step 1 .any (.step 2 .held (.step 3 .any (.step 4 .any (.step 5 .any (.step 6 .any (.step 7 .any (.step 8 .any (.step 9 .any (.step 10 .last (.nil)))))))))))⟩
  | _ => ⟨false, [], .nil⟩
def S151 (v0 v1 : Value) (k : Value → World → Prop) (w : World) : Prop :=
 Do Try.prog (sBox 26 v0) (fun t1 w2 =>
 Rd Try.prog (WS.at w2) (sBuild 124 [(0, v1)]) fun t3 =>
 Do Try.prog (sBox 124 t3) (fun t4 w5 =>
 LoopF [14, 6, 15, 16, 17, 18, 19, 20, 21, 8, 22, 23, 24, 25, 26, 27, 9, 28, 10, 29, 30, 31, 32, 35, 36, 37, 38, 39, 40, 41, 42, 43, 44, 45, 46, 47, 48, 49, 50, 51, 52, 53, 54, 55, 56, 57, 58, 59, 60, 61, 62, 63, 64, 6, 33, 34, 10, 65, 25, 66, 18] (fun Q6 f7 w8 =>
  CondK (f7 6)
   (Rd Try.prog (WS.at w8) (sFieldAddr 26 (f7 2) 2) fun t9 =>
   Rd Try.prog (WS.at w8) (sLoad 24 t9) fun t10 =>
   Rd Try.prog (WS.at w8) (sBuiltin .len #[24] 3 [false] [t10]) fun t11 =>
   LoopF [19, 20, 21, 8, 22, 23, 24, 25, 26, 27, 9, 28, 10, 29, 30, 31, 32, 35, 36, 37, 38, 39, 40, 41, 42, 43, 44, 45, 46, 47, 48, 49, 50, 51, 52, 53, 54, 55, 56, 57, 58, 59, 60, 61, 62, 63, 64, 6, 33, 34, 10, 65, 25, 66, 18] (fun Q12 f13 w14 =>
    Rd Try.prog (WS.at w14) (sBin .lss 3 false (f13 18) (f13 17)) fun t15 =>
    CondK t15
     (Rd Try.prog (WS.at w14) (sIndexAddr 24 (f13 16) (f13 18)) fun t16 =>
     Rd Try.prog (WS.at w14) (sLoad 33 t16) fun t17 =>
     Do Try.prog (sAlloc 33) (fun t18 w19 =>
     Do Try.prog (sStore 33 t18 t17) (fun _ w20 =>
     Rd Try.prog (WS.at w20) (sBuiltin .len #[27] 3 [false] [(f13 1)]) fun t21 =>
     Rd Try.prog (WS.at w20) (sBin .add 3 true t21 (.int .i64 1)) fun t22 =>
     LoopF [26, 27, 9, 28, 10, 29, 30, 31, 32, 35, 36, 37, 38, 39, 40, 41, 42, 43, 44, 45, 46, 47, 48, 49, 50, 51, 52, 53, 54, 55, 56, 57, 58, 59, 60, 61, 62, 63, 64, 6, 33, 34, 10, 65, 25] (fun Q23 f24 w25 =>
      Rd Try.prog (WS.at w25) (sBin .lss 3 false (f24 25) (f24 24)) fun t26 =>
      CondK t26
       (LoopF [29, 30, 31, 32, 35, 36, 37, 38, 39, 40, 41, 42, 43, 44, 45, 46, 47, 48, 49, 50, 51, 52, 53, 54, 55, 56, 57, 58, 59, 60, 61, 62, 63, 64, 6, 33, 34, 10] (fun Q27 f28 w29 =>
        Rd Try.prog (WS.at w29) (sBuiltin .len #[27] 3 [false] [(f28 1)]) fun t30 =>
        Rd Try.prog (WS.at w29) (sBin .leq 3 false (f28 10) t30) fun t31 =>
        CondK t31
         (Join (fun K32 =>
         Rd Try.prog WS.any (sFieldAddr 33 (f28 8) 0) fun t35 =>
         Rd Try.prog (WS.at w29.drew) (sLoad 3 t35) fun t36 =>
         Rd Try.prog WS.any (sNilCheck (f28 5)) fun t37 =>
         Rd Try.prog WS.any (sFieldAddr 124 t37 1) fun t38 =>
         Rd Try.prog WS.any (sIndexAddr 122 t38 t36) fun t39 =>
         Rd Try.prog WS.any (sIndexAddr 121 t39 (f28 9)) fun t40 =>
         Rd Try.prog WS.any (sIndexAddr 120 t40 (f28 10)) fun t41 =>
         Rd Try.prog (WS.at w29.drew) (sLoad 4 t41) fun t42 =>
         Rd Try.prog WS.any (sUn .not t42) fun t43 =>
         GuardK t43 true (fun k w' => k (f28 5) w') (fun t44 w45 =>
         GuardK t43 true (fun k w' => Rd Try.prog WS.any (sFieldAddr 33 (f28 8) 1) fun v => k v w') (fun t46 w47 =>
         GuardK t43 true (fun k w' => Rd Try.prog (WS.at w29.drew) (sLoad 27 t46) fun v => k v w') (fun t48 w49 =>
         GuardK t43 true (fun k w' => k (f28 9) w') (fun t50 w51 =>
         GuardK t43 true (fun k w' => k (f28 10) w') (fun t52 w53 =>
         GuardK t43 true (fun k w' => CallK Try.prog 155 [t44, t48, t50, t52] k w') (fun t54 w55 =>
         Rd Try.prog WS.any (sPick t43 t54 (.bool false)) fun t56 =>
         CondK t56
          (Rd Try.prog WS.any (sFieldAddr 33 (f28 8) 0) fun t57 =>
          Rd Try.prog (WS.at w55.drew) (sLoad 3 t57) fun t58 =>
          Rd Try.prog WS.any (sNilCheck (f28 5)) fun t59 =>
          Rd Try.prog WS.any (sFieldAddr 124 t59 1) fun t60 =>
          Rd Try.prog WS.any (sIndexAddr 122 t60 t58) fun t61 =>
          Rd Try.prog WS.any (sIndexAddr 121 t61 (f28 9)) fun t62 =>
          Rd Try.prog WS.any (sIndexAddr 120 t62 (f28 10)) fun t63 =>
          Do Try.prog (sStore 4 t63 (.bool true)) (fun _ w64 =>
          K32 (F.upd (F.upd (F.upd (F.upd (F.upd (F.upd (F.upd (F.upd (F.upd (F.upd (F.upd (F.upd (F.upd (F.upd (F.upd (F.upd (F.upd (F.upd (F.upd (F.upd (F.upd (F.upd (F.upd (F.upd (F.upd (F.upd (F.upd (F.upd (F.upd (F.upd (F.upd (F.upd (F.upd (F.upd (F.upd f28 29 (f28 10)) 30 (f28 1)) 31 t30) 32 t31) 35 (f28 5)) 36 t35) 37 t36) 38 (f28 9)) 39 (f28 10)) 40 t37) 41 t38) 42 t39) 43 t40) 44 t41) 45 t42) 46 t43) 47 t43) 48 t44) 49 t46) 50 t48) 51 t50) 52 t52) 53 t54) 54 t56) 55 (f28 5)) 56 t57) 57 t58) 58 (f28 9)) 59 (f28 10)) 60 t59) 61 t60) 62 t61) 63 t62) 64 t63) 6 (.bool true)) w64) w55.drew)
          (K32 (F.upd (F.upd (F.upd (F.upd (F.upd (F.upd (F.upd (F.upd (F.upd (F.upd (F.upd (F.upd (F.upd (F.upd (F.upd (F.upd (F.upd (F.upd (F.upd (F.upd (F.upd (F.upd (F.upd (F.upd f28 29 (f28 10)) 30 (f28 1)) 31 t30) 32 t31) 35 (f28 5)) 36 t35) 37 t36) 38 (f28 9)) 39 (f28 10)) 40 t37) 41 t38) 42 t39) 43 t40) 44 t41) 45 t42) 46 t43) 47 t43) 48 t44) 49 t46) 50 t48) 51 t50) 52 t52) 53 t54) 54 t56) w55)) w53) w51) w49) w47) w45) w29.drew) (fun f33 w34 =>
         Rd Try.prog (WS.at w34) (sBin .add 3 true (f33 10) (.int .i64 1)) fun t65 =>
         Q27 .normal (F.upd (F.upd (F.upd f33 33 (f33 10)) 34 t65) 10 t65) w34))
         (Q27 (.exit 6) (F.upd (F.upd (F.upd (F.upd f28 29 (f28 10)) 30 (f28 1)) 31 t30) 32 t31) w29))
        (blockQ 6 (blockQ 5 (seqQ (fun f66 w67 =>
       Rd Try.prog (WS.at w67) (sBin .add 3 true (f66 25) (.int .i64 1)) fun t68 =>
       Q23 .normal (F.upd (F.upd f66 65 t68) 25 t68) w67) Q23)))
        (F.upd (F.upd (F.upd (F.upd (F.upd f24 26 t26) 27 (f24 25)) 9 (f24 25)) 28 (f24 25)) 10 (f24 25)) w25)
       (Q23 (.exit 4) (F.upd f24 26 t26) w25))
      (blockQ 4 (blockQ 3 (seqQ (fun f69 w70 =>
     Rd Try.prog (WS.at w70) (sBin .add 3 true (f69 18) (.int .i64 1)) fun t71 =>
     Q12 .normal (F.upd (F.upd f69 66 t71) 18 t71) w70) Q12)))
      (F.upd (F.upd (F.upd (F.upd (F.upd (F.upd (F.upd (F.upd f13 19 t15) 20 t16) 21 t17) 8 t18) 22 (f13 1)) 23 t21) 24 t22) 25 (.int .i64 0)) w20) w19) w14)
     (Q12 (.exit 2) (F.upd f13 19 t15) w14))
    (blockQ 2 (blockQ 1 Q6))
    (F.upd (F.upd (F.upd (F.upd (F.upd (F.upd f7 14 (f7 6)) 6 (.bool false)) 15 t9) 16 t10) 17 t11) 18 (.int .i64 0)) w8)
   (Q6 (.exit 0) (F.upd f7 14 (f7 6)) w8))
  (blockQ 0 (seqQ (fun f72 w73 =>
 k (f72 5) w73) (bodyQ Try.prog [.tmp 4] k)))
  (F.upd (F.upd (F.upd (F.upd (F.upd (F.upd (F.upd (initF [v0, v1]) 2 t1) 4 (.pointer none)) 11 v1) 12 t3) 13 t4) 5 t4) 6 (.bool true)) w5) w2) w
theorem body151 : Try.f151.body = some (bodyOf Try.f151) := by kernel_rfl
theorem same151 (v0 v1 : Value) (k : Value → World → Prop) (w : World) : wpF Try.prog pl151 (bodyOf Try.f151) (bodyQ Try.prog Try.f151.results.toList k) (initF [v0, v1]) w = S151 v0 v1 k w := by kernel_rfl
theorem enter151 {v0 v1 : Value} {k : Value → World → Prop} {w : World} (h : S151 v0 v1 k w) : CallK Try.prog 151 [v0, v1] k w :=
  call_of_wpF (pl := pl151) mixed Try.func151 body151 (by kernel_rfl) (of_decide_eq_true (by kernel_rfl)) (by kernel_rfl) (by kernel_rfl) (Eq.mpr (same151 v0 v1 k w) h)

/-! loop.example/g00758/spec.l1Word -/
/-! loop.example/g00758/impl.isWord$1 -/
def pl251 : Plans := fun _ => ⟨false, [], .nil⟩
def S251 (v0 v1 : Value) (k : Value → World → Prop) (w : World) : Prop :=
 Rd Try.prog (WS.at w) (sLoad 3 v1) fun t1 =>
 Rd Try.prog (WS.at w) (sBin .sub 3 true t1 (.int .i64 1)) fun t2 =>
 CallK Try.prog 149 [v0, (.int .i64 0), t2] (fun t3 w4 =>
 Rd Try.prog (WS.at w4) (sUn .not t3) fun t5 =>
 k t5 w4) w
theorem body251 : Try.f251.body = some (bodyOf Try.f251) := by kernel_rfl
theorem same251 (v0 v1 : Value) (k : Value → World → Prop) (w : World) : wpF Try.prog pl251 (bodyOf Try.f251) (bodyQ Try.prog Try.f251.results.toList k) (initF [v0, v1]) w = S251 v0 v1 k w := by kernel_rfl
theorem enter251 {v0 v1 : Value} {k : Value → World → Prop} {w : World} (h : S251 v0 v1 k w) : CallK Try.prog 251 [v0, v1] k w :=
  call_of_wpF (pl := pl251) mixed Try.func251 body251 (by kernel_rfl) (of_decide_eq_true (by kernel_rfl)) (by kernel_rfl) (by kernel_rfl) (Eq.mpr (same251 v0 v1 k w) h)

/-! loop.example/g00758/spec.l4Table -/
def pl162 : Plans := fun _ => ⟨false, [], .nil⟩
def S162 (v0 v1 : Value) (k : Value → World → Prop) (w : World) : Prop :=
 Do Try.prog (sBox 26 v0) (fun t1 w2 =>
 Rd Try.prog (WS.at w2) (sBuiltin .len #[27] 3 [false] [v1]) fun t3 =>
 Rd Try.prog (WS.at w2) (sBin .add 3 true t3 (.int .i64 1)) fun t4 =>
 Rd Try.prog (WS.at w2) (sFieldAddr 26 t1 0) fun t5 =>
 Rd Try.prog (WS.at w2) (sLoad 3 t5) fun t6 =>
 Do Try.prog (sMakeSlice 134 t6 t6) (fun t7 w8 =>
 Rd Try.prog (WS.at w8) (sBuiltin .len #[134] 3 [false] [t7]) fun t9 =>
 LoopF [22, 23, 7, 24, 25, 26, 27, 28, 29, 30, 31, 21] (fun Q10 f11 w12 =>
  Rd Try.prog (WS.at w12) (sBin .lss 3 false (f11 21) (f11 20)) fun t13 =>
  CondK t13
   (Rd Try.prog (WS.at w12) (sBin .mul 3 false (f11 5) (f11 5)) fun t14 =>
   Do Try.prog (sMakeSlice 136 t14 t14) (fun t15 w16 =>
   Rd Try.prog (WS.at w16) (sIndexAddr 134 (f11 6) (f11 21)) fun t17 =>
   Do Try.prog (sStore 136 t17 t15) (fun _ w18 =>
   Rd Try.prog (WS.at w18) (sBin .add 3 true (f11 21) (.int .i64 1)) fun t19 =>
   Q10 .normal (F.upd (F.upd (F.upd (F.upd (F.upd (F.upd (F.upd (F.upd (F.upd (F.upd (F.upd (F.upd f11 22 t13) 23 (f11 21)) 7 (f11 21)) 24 (f11 6)) 25 (f11 21)) 26 (f11 5)) 27 (f11 5)) 28 t14) 29 t15) 30 t17) 31 t19) 21 t19) w18) w16) w12)
   (Q10 (.exit 0) (F.upd f11 22 t13) w12))
  (blockQ 0 (seqQ (fun f20 w21 =>
 LoopF [32, 8, 33, 34, 35, 36, 37, 38, 39, 10, 11, 40, 41, 42, 45, 12, 46, 47, 48, 51, 52, 53, 54, 55, 56, 57, 58, 59, 60, 61, 62, 63, 64, 65, 66, 67, 68, 69, 70, 71, 72, 73, 74, 75, 76, 77, 78, 79, 80, 81, 82, 83, 8, 49, 50, 12, 43, 44, 11, 84, 36] (fun Q22 f23 w24 =>
  CondK (f23 8)
   (Rd Try.prog (WS.at w24) (sFieldAddr 26 (f23 2) 2) fun t25 =>
   Rd Try.prog (WS.at w24) (sLoad 24 t25) fun t26 =>
   Rd Try.prog (WS.at w24) (sBuiltin .len #[24] 3 [false] [t26]) fun t27 =>
   LoopF [37, 38, 39, 10, 11, 40, 41, 42, 45, 12, 46, 47, 48, 51, 52, 53, 54, 55, 56, 57, 58, 59, 60, 61, 62, 63, 64, 65, 66, 67, 68, 69, 70, 71, 72, 73, 74, 75, 76, 77, 78, 79, 80, 81, 82, 83, 8, 49, 50, 12, 43, 44, 11, 84, 36] (fun Q28 f29 w30 =>
    Rd Try.prog (WS.at w30) (sBin .lss 3 false (f29 36) (f29 35)) fun t31 =>
    CondK t31
     (Rd Try.prog (WS.at w30) (sIndexAddr 24 (f29 34) (f29 36)) fun t32 =>
     Rd Try.prog (WS.at w30) (sLoad 33 t32) fun t33 =>
     Do Try.prog (sAlloc 33) (fun t34 w35 =>
     Do Try.prog (sStore 33 t34 t33) (fun _ w36 =>
     LoopF [40, 41, 42, 45, 12, 46, 47, 48, 51, 52, 53, 54, 55, 56, 57, 58, 59, 60, 61, 62, 63, 64, 65, 66, 67, 68, 69, 70, 71, 72, 73, 74, 75, 76, 77, 78, 79, 80, 81, 82, 83, 8, 49, 50, 12, 43, 44, 11] (fun Q37 f38 w39 =>
      Rd Try.prog (WS.at w39) (sBin .lss 3 false (f38 11) (f38 5)) fun t40 =>
      CondK t40
       (LoopF [46, 47, 48, 51, 52, 53, 54, 55, 56, 57, 58, 59, 60, 61, 62, 63, 64, 65, 66, 67, 68, 69, 70, 71, 72, 73, 74, 75, 76, 77, 78, 79, 80, 81, 82, 83, 8, 49, 50, 12] (fun Q41 f42 w43 =>
        Rd Try.prog (WS.at w43) (sBin .lss 3 false (f42 12) (f42 5)) fun t44 =>
        CondK t44
         (Join (fun K45 =>
         Rd Try.prog (WS.at w43) (sFieldAddr 33 (f42 10) 0) fun t48 =>
         Rd Try.prog (WS.at w43) (sLoad 3 t48) fun t49 =>
         Rd Try.prog (WS.at w43) (sIndexAddr 134 (f42 6) t49) fun t50 =>
         Rd Try.prog (WS.at w43) (sLoad 136 t50) fun t51 =>
         Rd Try.prog (WS.at w43) (sBin .mul 3 false (f42 11) (f42 5)) fun t52 =>
         Rd Try.prog (WS.at w43) (sBin .add 3 false t52 (f42 12)) fun t53 =>
         Rd Try.prog (WS.at w43) (sIndexAddr 136 t51 t53) fun t54 =>
         Rd Try.prog (WS.at w43) (sLoad 4 t54) fun t55 =>
         Rd Try.prog (WS.at w43) (sUn .not t55) fun t56 =>
         GuardK t56 true (fun k w' => k (f42 6) w') (fun t57 w58 =>
         GuardK t56 true (fun k w' => k (f42 1) w') (fun t59 w60 =>
         GuardK t56 true (fun k w' => Rd Try.prog (WS.at w60) (sFieldAddr 33 (f42 10) 1) fun v => k v w') (fun t61 w62 =>
         GuardK t56 true (fun k w' => Rd Try.prog (WS.at w62) (sLoad 27 t61) fun v => k v w') (fun t63 w64 =>
         GuardK t56 true (fun k w' => k (f42 11) w') (fun t65 w66 =>
         GuardK t56 true (fun k w' => k (f42 12) w') (fun t67 w68 =>
         GuardK t56 true (fun k w' => CallK Try.prog 161 [t57, t59, t63, t65, t67] k w') (fun t69 w70 =>
         Rd Try.prog (WS.at w70) (sPick t56 t69 (.bool false)) fun t71 =>
         CondK t71
          (Rd Try.prog (WS.at w70) (sFieldAddr 33 (f42 10) 0) fun t72 =>
          Rd Try.prog (WS.at w70) (sLoad 3 t72) fun t73 =>
          Rd Try.prog (WS.at w70) (sIndexAddr 134 (f42 6) t73) fun t74 =>
          Rd Try.prog (WS.at w70) (sLoad 136 t74) fun t75 =>
          Rd Try.prog (WS.at w70) (sBin .mul 3 false (f42 11) (f42 5)) fun t76 =>
          Rd Try.prog (WS.at w70) (sBin .add 3 false t76 (f42 12)) fun t77 =>
          Rd Try.prog (WS.at w70) (sIndexAddr 136 t75 t77) fun t78 =>
          Do Try.prog (sStore 4 t78 (.bool true)) (fun _ w79 =>
          K45 (F.upd (F.upd (F.upd (F.upd (F.upd (F.upd (F.upd (F.upd (F.upd (F.upd (F.upd (F.upd (F.upd (F.upd (F.upd (F.upd (F.upd (F.upd (F.upd (F.upd (F.upd (F.upd (F.upd (F.upd (F.upd (F.upd (F.upd (F.upd (F.upd (F.upd (F.upd (F.upd (F.upd (F.upd (F.upd (F.upd (F.upd f42 46 (f42 12)) 47 (f42 5)) 48 t44) 51 (f42 6)) 52 t48) 53 t49) 54 t50) 55 t51) 56 (f42 11)) 57 (f42 5)) 58 t52) 59 (f42 12)) 60 t53) 61 t54) 62 t55) 63 t56) 64 t56) 65 t57) 66 t59) 67 t61) 68 t63) 69 t65) 70 t67) 71 t69) 72 t71) 73 (f42 6)) 74 t72) 75 t73) 76 t74) 77 t75) 78 (f42 11)) 79 (f42 5)) 80 t76) 81 (f42 12)) 82 t77) 83 t78) 8 (.bool true)) w79) w70)
          (K45 (F.upd (F.upd (F.upd (F.upd (F.upd (F.upd (F.upd (F.upd (F.upd (F.upd (F.upd (F.upd (F.upd (F.upd (F.upd (F.upd (F.upd (F.upd (F.upd (F.upd (F.upd (F.upd (F.upd (F.upd (F.upd f42 46 (f42 12)) 47 (f42 5)) 48 t44) 51 (f42 6)) 52 t48) 53 t49) 54 t50) 55 t51) 56 (f42 11)) 57 (f42 5)) 58 t52) 59 (f42 12)) 60 t53) 61 t54) 62 t55) 63 t56) 64 t56) 65 t57) 66 t59) 67 t61) 68 t63) 69 t65) 70 t67) 71 t69) 72 t71) w70)) w68) w66) w64) w62) w60) w58) w43) (fun f46 w47 =>
         Rd Try.prog (WS.at w47) (sBin .add 3 true (f46 12) (.int .i64 1)) fun t80 =>
         Q41 .normal (F.upd (F.upd (F.upd f46 49 (f46 12)) 50 t80) 12 t80) w47))
         (Q41 (.exit 8) (F.upd (F.upd (F.upd f42 46 (f42 12)) 47 (f42 5)) 48 t44) w43))
        (blockQ 8 (blockQ 7 (seqQ (fun f81 w82 =>
       Rd Try.prog (WS.at w82) (sBin .add 3 true (f81 11) (.int .i64 1)) fun t83 =>
       Q37 .normal (F.upd (F.upd (F.upd f81 43 (f81 11)) 44 t83) 11 t83) w82) Q37)))
        (F.upd (F.upd (F.upd (F.upd (F.upd f38 40 (f38 11)) 41 (f38 5)) 42 t40) 45 (f38 11)) 12 (f38 11)) w39)
       (Q37 (.exit 6) (F.upd (F.upd (F.upd f38 40 (f38 11)) 41 (f38 5)) 42 t40) w39))
      (blockQ 6 (blockQ 5 (seqQ (fun f84 w85 =>
     Rd Try.prog (WS.at w85) (sBin .add 3 true (f84 36) (.int .i64 1)) fun t86 =>
     Q28 .normal (F.upd (F.upd f84 84 t86) 36 t86) w85) Q28)))
      (F.upd (F.upd (F.upd (F.upd (F.upd f29 37 t31) 38 t32) 39 t33) 10 t34) 11 (.int .i64 0)) w36) w35) w30)
     (Q28 (.exit 4) (F.upd f29 37 t31) w30))
    (blockQ 4 (blockQ 3 Q22))
    (F.upd (F.upd (F.upd (F.upd (F.upd (F.upd f23 32 (f23 8)) 8 (.bool false)) 33 t25) 34 t26) 35 t27) 36 (.int .i64 0)) w24)
   (Q22 (.exit 2) (F.upd f23 32 (f23 8)) w24))
  (blockQ 2 (seqQ (fun f87 w88 =>
 k (f87 6) w88) (bodyQ Try.prog [.tmp 4] k)))
  (F.upd f20 8 (.bool true)) w21) (bodyQ Try.prog [.tmp 4] k)))
  (F.upd (F.upd (F.upd (F.upd (F.upd (F.upd (F.upd (F.upd (F.upd (F.upd (F.upd (F.upd (F.upd (initF [v0, v1]) 2 t1) 4 (.slice none 0 0)) 13 v1) 14 t3) 15 t4) 5 t4) 16 t5) 17 t6) 18 t7) 6 t7) 19 t7) 20 t9) 21 (.int .i64 0)) w8) w2) w
theorem body162 : Try.f162.body = some (bodyOf Try.f162) := by kernel_rfl
theorem same162 (v0 v1 : Value) (k : Value → World → Prop) (w : World) : wpF Try.prog pl162 (bodyOf Try.f162) (bodyQ Try.prog Try.f162.results.toList k) (initF [v0, v1]) w = S162 v0 v1 k w := by kernel_rfl
theorem enter162 {v0 v1 : Value} {k : Value → World → Prop} {w : World} (h : S162 v0 v1 k w) : CallK Try.prog 162 [v0, v1] k w :=
  call_of_wpF (pl := pl162) mixed Try.func162 body162 (by kernel_rfl) (of_decide_eq_true (by kernel_rfl)) (by kernel_rfl) (by kernel_rfl) (Eq.mpr (same162 v0 v1 k w) h)

/-! (*loop.example/g00758/impl.table).sequence -/
def pl155 : Plans := fun _ => ⟨false, [], .nil⟩
def S155 (v0 v1 v2 v3 : Value) (k : Value → World → Prop) (w : World) : Prop :=
 Rd Try.prog (WS.at w) (sBuiltin .len #[27] 3 [false] [v1]) fun t1 =>
 Rd Try.prog (WS.at w) (sBin .eql 3 true t1 (.int .i64 0)) fun t2 =>
 CondK t2
  (Rd Try.prog (WS.at w) (sBin .eql 3 false v2 v3) fun t3 =>
  k t3 w)
  (Rd Try.prog (WS.at w) (sIndexAddr 27 v1 (.int .i64 0)) fun t4 =>
  Rd Try.prog (WS.at w) (sLoad 3 t4) fun t5 =>
  Rd Try.prog (WS.at w) (sBin .lss 3 true t5 (.int .i64 0)) fun t6 =>
  CondK t6
   (Rd Try.prog (WS.at w) (sBin .lss 3 false v2 v3) fun t7 =>
   GuardK t7 true (fun k w' => k v0 w') (fun t8 w9 =>
   GuardK t7 true (fun k w' => Rd Try.prog (WS.at w9) (sNilCheck t8) fun v => k v w') (fun t10 w11 =>
   GuardK t7 true (fun k w' => Rd Try.prog (WS.at w11) (sFieldAddr 124 t10 0) fun v => k v w') (fun t12 w13 =>
   GuardK t7 true (fun k w' => Rd Try.prog (WS.at w13) (sLoad 27 t12) fun v => k v w') (fun t14 w15 =>
   GuardK t7 true (fun k w' => k v2 w') (fun t16 w17 =>
   GuardK t7 true (fun k w' => Rd Try.prog (WS.at w17) (sIndexAddr 27 t14 t16) fun v => k v w') (fun t18 w19 =>
   GuardK t7 true (fun k w' => Rd Try.prog (WS.at w19) (sLoad 3 t18) fun v => k v w') (fun t20 w21 =>
   GuardK t7 true (fun k w' => CallK Try.prog 254 [t20] k w') (fun t22 w23 =>
   GuardK t7 true (fun k w' => k t5 w') (fun t24 w25 =>
   GuardK t7 true (fun k w' => Rd Try.prog (WS.at w25) (sBin .eql 3 false t22 t24) fun v => k v w') (fun t26 w27 =>
   Rd Try.prog (WS.at w27) (sPick t7 t26 (.bool false)) fun t28 =>
   GuardK t28 true (fun k w' => k v0 w') (fun t29 w30 =>
   GuardK t28 true (fun k w' => k v1 w') (fun t31 w32 =>
   GuardK t28 true (fun k w' => Rd Try.prog (WS.at w32) (sSlice 27 t31 (some (.int .i64 1)) none none) fun v => k v w') (fun t33 w34 =>
   GuardK t28 true (fun k w' => k v2 w') (fun t35 w36 =>
   GuardK t28 true (fun k w' => Rd Try.prog (WS.at w36) (sBin .add 3 true t35 (.int .i64 1)) fun v => k v w') (fun t37 w38 =>
   GuardK t28 true (fun k w' => k v3 w') (fun t39 w40 =>
   GuardK t28 true (fun k w' => CallK Try.prog 155 [t29, t33, t37, t39] k w') (fun t41 w42 =>
   Rd Try.prog (WS.at w42) (sPick t28 t41 (.bool false)) fun t43 =>
   k t43 w42) w40) w38) w36) w34) w32) w30) w27) w25) w23) w21) w19) w17) w15) w13) w11) w9) w)
   (LoopF [47, 48, 49, 52, 53, 54, 55, 56, 57, 58, 59, 60, 61, 62, 63, 64, 65, 66, 67, 68, 69, 8, 50, 51, 10] (fun Q44 f45 w46 =>
    Rd Try.prog (WS.at w46) (sBin .leq 3 false (f45 10) (f45 3)) fun t47 =>
    CondK t47
     (Rd Try.prog (WS.at w46) (sNilCheck (f45 0)) fun t48 =>
     Rd Try.prog (WS.at w46) (sFieldAddr 124 t48 1) fun t49 =>
     Rd Try.prog (WS.at w46) (sIndexAddr 122 t49 (f45 9)) fun t50 =>
     Rd Try.prog (WS.at w46) (sIndexAddr 121 t50 (f45 2)) fun t51 =>
     Rd Try.prog (WS.at w46) (sIndexAddr 120 t51 (f45 10)) fun t52 =>
     Rd Try.prog (WS.at w46) (sLoad 4 t52) fun t53 =>
     GuardK t53 true (fun k w' => k (f45 0) w') (fun t54 w55 =>
     GuardK t53 true (fun k w' => k (f45 1) w') (fun t56 w57 =>
     GuardK t53 true (fun k w' => Rd Try.prog (WS.at w57) (sSlice 27 t56 (some (.int .i64 1)) none none) fun v => k v w') (fun t58 w59 =>
     GuardK t53 true (fun k w' => k (f45 10) w') (fun t60 w61 =>
     GuardK t53 true (fun k w' => k (f45 3) w') (fun t62 w63 =>
     GuardK t53 true (fun k w' => CallK Try.prog 155 [t54, t58, t60, t62] k w') (fun t64 w65 =>
     Rd Try.prog (WS.at w65) (sPick t53 t64 (.bool false)) fun t66 =>
     CondK t66
      (Q44 .ret (F.upd (F.upd (F.upd (F.upd (F.upd (F.upd (F.upd (F.upd (F.upd (F.upd (F.upd (F.upd (F.upd (F.upd (F.upd (F.upd (F.upd (F.upd (F.upd (F.upd (F.upd (F.upd f45 47 (f45 10)) 48 (f45 3)) 49 t47) 52 (f45 0)) 53 (f45 9)) 54 (f45 2)) 55 (f45 10)) 56 t48) 57 t49) 58 t50) 59 t51) 60 t52) 61 t53) 62 t53) 63 t54) 64 t56) 65 t58) 66 t60) 67 t62) 68 t64) 69 t66) 8 (.bool true)) w65)
      (Rd Try.prog (WS.at w65) (sBin .add 3 true (f45 10) (.int .i64 1)) fun t67 =>
      Q44 .normal (F.upd (F.upd (F.upd (F.upd (F.upd (F.upd (F.upd (F.upd (F.upd (F.upd (F.upd (F.upd (F.upd (F.upd (F.upd (F.upd (F.upd (F.upd (F.upd (F.upd (F.upd (F.upd (F.upd (F.upd f45 47 (f45 10)) 48 (f45 3)) 49 t47) 52 (f45 0)) 53 (f45 9)) 54 (f45 2)) 55 (f45 10)) 56 t48) 57 t49) 58 t50) 59 t51) 60 t52) 61 t53) 62 t53) 63 t54) 64 t56) 65 t58) 66 t60) 67 t62) 68 t64) 69 t66) 50 (f45 10)) 51 t67) 10 t67) w65)) w63) w61) w59) w57) w55) w46)
     (Q44 (.exit 0) (F.upd (F.upd (F.upd f45 47 (f45 10)) 48 (f45 3)) 49 t47) w46))
    (blockQ 0 (seqQ (fun f68 w69 =>
   k (.bool false) w69) (bodyQ Try.prog [.tmp 8] k)))
    (F.upd (F.upd (F.upd (F.upd (F.upd (F.upd (F.upd (F.upd (F.upd (F.upd (F.upd (F.upd (initF [v0, v1, v2, v3]) 8 (.bool false)) 11 v1) 12 t1) 13 t2) 17 v1) 18 t4) 19 t5) 9 t5) 20 t5) 21 t6) 46 v2) 10 v2) w))
theorem body155 : Try.f155.body = some (bodyOf Try.f155) := by kernel_rfl
theorem same155 (v0 v1 v2 v3 : Value) (k : Value → World → Prop) (w : World) : wpF Try.prog pl155 (bodyOf Try.f155) (bodyQ Try.prog Try.f155.results.toList k) (initF [v0, v1, v2, v3]) w = S155 v0 v1 v2 v3 k w := by kernel_rfl
theorem enter155 {v0 v1 v2 v3 : Value} {k : Value → World → Prop} {w : World} (h : S155 v0 v1 v2 v3 k w) : CallK Try.prog 155 [v0, v1, v2, v3] k w :=
  call_of_wpF (pl := pl155) mixed Try.func155 body155 (by kernel_rfl) (of_decide_eq_true (by kernel_rfl)) (by kernel_rfl) (by kernel_rfl) (Eq.mpr (same155 v0 v1 v2 v3 k w) h)

/-! loop.example/g00758/spec.l4Fits -/
def pl161 : Plans := fun _ => ⟨false, [], .nil⟩
def S161 (v0 v1 v2 v3 v4 : Value) (k : Value → World → Prop) (w : World) : Prop :=
 Rd Try.prog (WS.at w) (sBuiltin .len #[27] 3 [false] [v2]) fun t1 =>
 Rd Try.prog (WS.at w) (sBin .eql 3 true t1 (.int .i64 0)) fun t2 =>
 CondK t2
  (Rd Try.prog (WS.at w) (sBin .eql 3 false v3 v4) fun t3 =>
  k t3 w)
  (LoopF [19, 20, 21, 24, 25, 26, 27, 28, 29, 30, 31, 32, 33, 34, 35, 36, 37, 38, 39, 40, 10, 22, 23, 11] (fun Q4 f5 w6 =>
   Rd Try.prog (WS.at w6) (sBin .leq 3 false (f5 11) (f5 4)) fun t7 =>
   CondK t7
    (Rd Try.prog (WS.at w6) (sIndexAddr 27 (f5 2) (.int .i64 0)) fun t8 =>
    Rd Try.prog (WS.at w6) (sLoad 3 t8) fun t9 =>
    CallK Try.prog 255 [(f5 0), (f5 1), t9, (f5 3), (f5 11)] (fun t10 w11 =>
    GuardK t10 true (fun k w' => k (f5 0) w') (fun t12 w13 =>
    GuardK t10 true (fun k w' => k (f5 1) w') (fun t14 w15 =>
    GuardK t10 true (fun k w' => k (f5 2) w') (fun t16 w17 =>
    GuardK t10 true (fun k w' => Rd Try.prog (WS.at w17) (sSlice 27 t16 (some (.int .i64 1)) none none) fun v => k v w') (fun t18 w19 =>
    GuardK t10 true (fun k w' => k (f5 11) w') (fun t20 w21 =>
    GuardK t10 true (fun k w' => k (f5 4) w') (fun t22 w23 =>
    GuardK t10 true (fun k w' => CallK Try.prog 161 [t12, t14, t18, t20, t22] k w') (fun t24 w25 =>
    Rd Try.prog (WS.at w25) (sPick t10 t24 (.bool false)) fun t26 =>
    CondK t26
     (Q4 .ret (F.upd (F.upd (F.upd (F.upd (F.upd (F.upd (F.upd (F.upd (F.upd (F.upd (F.upd (F.upd (F.upd (F.upd (F.upd (F.upd (F.upd (F.upd (F.upd (F.upd (F.upd f5 19 (f5 11)) 20 (f5 4)) 21 t7) 24 (f5 0)) 25 (f5 1)) 26 (f5 2)) 27 t8) 28 t9) 29 (f5 3)) 30 (f5 11)) 31 t10) 32 t10) 33 t12) 34 t14) 35 t16) 36 t18) 37 t20) 38 t22) 39 t24) 40 t26) 10 (.bool true)) w25)
     (Rd Try.prog (WS.at w25) (sBin .add 3 true (f5 11) (.int .i64 1)) fun t27 =>
     Q4 .normal (F.upd (F.upd (F.upd (F.upd (F.upd (F.upd (F.upd (F.upd (F.upd (F.upd (F.upd (F.upd (F.upd (F.upd (F.upd (F.upd (F.upd (F.upd (F.upd (F.upd (F.upd (F.upd (F.upd f5 19 (f5 11)) 20 (f5 4)) 21 t7) 24 (f5 0)) 25 (f5 1)) 26 (f5 2)) 27 t8) 28 t9) 29 (f5 3)) 30 (f5 11)) 31 t10) 32 t10) 33 t12) 34 t14) 35 t16) 36 t18) 37 t20) 38 t22) 39 t24) 40 t26) 22 (f5 11)) 23 t27) 11 t27) w25)) w23) w21) w19) w17) w15) w13) w11) w6)
    (Q4 (.exit 0) (F.upd (F.upd (F.upd f5 19 (f5 11)) 20 (f5 4)) 21 t7) w6))
   (blockQ 0 (seqQ (fun f28 w29 =>
  k (.bool false) w29) (bodyQ Try.prog [.tmp 10] k)))
   (F.upd (F.upd (F.upd (F.upd (F.upd (F.upd (initF [v0, v1, v2, v3, v4]) 10 (.bool false)) 12 v2) 13 t1) 14 t2) 18 v3) 11 v3) w)
theorem body161 : Try.f161.body = some (bodyOf Try.f161) := by kernel_rfl
theorem same161 (v0 v1 v2 v3 v4 : Value) (k : Value → World → Prop) (w : World) : wpF Try.prog pl161 (bodyOf Try.f161) (bodyQ Try.prog Try.f161.results.toList k) (initF [v0, v1, v2, v3, v4]) w = S161 v0 v1 v2 v3 v4 k w := by kernel_rfl
theorem enter161 {v0 v1 v2 v3 v4 : Value} {k : Value → World → Prop} {w : World} (h : S161 v0 v1 v2 v3 v4 k w) : CallK Try.prog 161 [v0, v1, v2, v3, v4] k w :=
  call_of_wpF (pl := pl161) mixed Try.func161 body161 (by kernel_rfl) (of_decide_eq_true (by kernel_rfl)) (by kernel_rfl) (by kernel_rfl) (Eq.mpr (same161 v0 v1 v2 v3 v4 k w) h)

/-! loop.example/g00758/spec.l4Symbol -/
def pl255 : Plans := fun _ => ⟨false, [], .nil⟩
def S255 (v0 v1 v2 v3 v4 : Value) (k : Value → World → Prop) (w : World) : Prop :=
 Rd Try.prog (WS.at w) (sBin .lss 3 true v2 (.int .i64 0)) fun t1 =>
 CondK t1
  (Rd Try.prog (WS.at w) (sBin .add 3 true v3 (.int .i64 1)) fun t2 =>
  Rd Try.prog (WS.at w) (sBin .eql 3 false v4 t2) fun t3 =>
  GuardK t3 true (fun k w' => k v1 w') (fun t4 w5 =>
  GuardK t3 true (fun k w' => k v3 w') (fun t6 w7 =>
  GuardK t3 true (fun k w' => Rd Try.prog (WS.at w7) (sIndexAddr 27 t4 t6) fun v => k v w') (fun t8 w9 =>
  GuardK t3 true (fun k w' => Rd Try.prog (WS.at w9) (sLoad 3 t8) fun v => k v w') (fun t10 w11 =>
  GuardK t3 true (fun k w' => k v2 w') (fun t12 w13 =>
  GuardK t3 true (fun k w' => Rd Try.prog (WS.at w13) (sBin .sub 3 true (.int .i64 (-1)) t12) fun v => k v w') (fun t14 w15 =>
  GuardK t3 true (fun k w' => Rd Try.prog (WS.at w15) (sBin .eql 3 false t10 t14) fun v => k v w') (fun t16 w17 =>
  Rd Try.prog (WS.at w17) (sPick t3 t16 (.bool false)) fun t18 =>
  k t18 w17) w15) w13) w11) w9) w7) w5) w)
  (Rd Try.prog (WS.at w) (sIndexAddr 134 v0 v2) fun t19 =>
  Rd Try.prog (WS.at w) (sLoad 136 t19) fun t20 =>
  Rd Try.prog (WS.at w) (sBuiltin .len #[27] 3 [false] [v1]) fun t21 =>
  Rd Try.prog (WS.at w) (sBin .add 3 true t21 (.int .i64 1)) fun t22 =>
  Rd Try.prog (WS.at w) (sBin .mul 3 false v3 t22) fun t23 =>
  Rd Try.prog (WS.at w) (sBin .add 3 false t23 v4) fun t24 =>
  Rd Try.prog (WS.at w) (sIndexAddr 136 t20 t24) fun t25 =>
  Rd Try.prog (WS.at w) (sLoad 4 t25) fun t26 =>
  k t26 w)
theorem body255 : Try.f255.body = some (bodyOf Try.f255) := by kernel_rfl
theorem same255 (v0 v1 v2 v3 v4 : Value) (k : Value → World → Prop) (w : World) : wpF Try.prog pl255 (bodyOf Try.f255) (bodyQ Try.prog Try.f255.results.toList k) (initF [v0, v1, v2, v3, v4]) w = S255 v0 v1 v2 v3 v4 k w := by kernel_rfl
theorem enter255 {v0 v1 v2 v3 v4 : Value} {k : Value → World → Prop} {w : World} (h : S255 v0 v1 v2 v3 v4 k w) : CallK Try.prog 255 [v0, v1, v2, v3, v4] k w :=
  call_of_wpF (pl := pl255) mixed Try.func255 body255 (by kernel_rfl) (of_decide_eq_true (by kernel_rfl)) (by kernel_rfl) (by kernel_rfl) (Eq.mpr (same255 v0 v1 v2 v3 v4 k w) h)

end Go.Proofs.Ytegcjkhebecgbaa

/- Contracts: what derives a part of a word, by the reference. -/
set_option linter.unusedVariables false
set_option linter.unusedSimpArgs false
set_option maxRecDepth 100000
namespace Go.Sh
open Go
/-- The reference's table in memory. -/
structure TabS (w : World) (U : Option Addr) (nons n : Nat) (T : Tab) : Prop where
  ptr : 0 < nons → U = some (ad U)
  row : ∀ x, x < nons → ∃ R c, w.cell? ((ad U).add x) = some (.slice R (n * n) c) ∧ R = some (ad R) ∧ ∀ i j, i < n → j < n → w.cell? ((ad R).add (i * n + j)) = some (.bool (T x i j))
theorem TabS.gr {w w' : World} {U : Option Addr} {nons n : Nat} {T : Tab} (h : TabS w U nons n T) (g : Gr w w') : TabS w' U nons n T := ⟨h.ptr, fun x hx => by
  obtain ⟨R, c, h1, h2, h3⟩ := h.row x hx
  exact ⟨R, c, g.cell h1, h2, fun i j hi hj => g.cell (h3 i j hi hj)⟩⟩
/-- The rows of a table. -/
def rowB (T : Tab) (n x : Nat) : List Value := (List.range (n * n)).map fun p => .bool (T x (p / n) (p % n))
def rowsB (T : Tab) (nons n : Nat) : List (List Value) := (List.range nons).map (rowB T n)
theorem rowB_length (T : Tab) (n x : Nat) : (rowB T n x).length = n * n := by simp [rowB]
theorem rowsB_length (T : Tab) (nons n : Nat) : (rowsB T nons n).length = nons := by simp [rowsB]
theorem vls_rowsB {T : Tab} {nons n x : Nat} (h : x < nons) : vls (rowsB T nons n) x = rowB T n x := by
  rw [vls_eq (by rw [rowsB_length]; exact h)]
  simp [rowsB]
theorem place_lt {n i j : Nat} (hi : i < n) (hj : j < n) : i * n + j < n * n := by
  have : (i + 1) * n ≤ n * n := Nat.mul_le_mul_right n hi
  rw [Nat.add_mul] at this
  omega
theorem rowB_at {T : Tab} {n x i j : Nat} (hi : i < n) (hj : j < n) : (rowB T n x)[i * n + j]? = some (.bool (T x i j)) := by
  have hn : 0 < n := by omega
  have e1 : (i * n + j) / n = i := by rw [Nat.mul_comm, Nat.mul_add_div hn, Nat.div_eq_of_lt hj, Nat.add_zero]
  have e2 : (i * n + j) % n = j := by rw [Nat.mul_comm, Nat.mul_add_mod, Nat.mod_eq_of_lt hj]
  simp [rowB, place_lt hi hj, e1, e2]
theorem rowB_put {T : Tab} {n x i j : Nat} (hi : i < n) (hj : j < n) : (rowB T n x).set (i * n + j) (.bool true) = rowB (T.put x i j) n x := by
  have hn : 0 < n := by omega
  refine List.ext_getElem? fun p => ?_
  rw [List.getElem?_set]
  by_cases hp : i * n + j = p
  · subst hp
    rw [if_pos rfl, if_pos (by rw [rowB_length]; exact place_lt hi hj), rowB_at hi hj]
    simp [Tab.put]
  · rw [if_neg hp]
    simp only [rowB, List.getElem?_map, List.getElem?_range']
    by_cases hlt : p < n * n
    · simp only [List.getElem?_range hlt, Option.map_some, Tab.put]
      have : ¬ (x = x ∧ p / n = i ∧ p % n = j) := by
        rintro ⟨_, h1, h2⟩
        apply hp
        have := Nat.div_add_mod p n
        rw [h1, h2, Nat.mul_comm] at this
        exact this
      rw [if_neg (fun h => this ⟨rfl, h.2⟩)]
    · rw [List.getElem?_eq_none (by simp; omega)]
      rfl
theorem rowB_other {T : Tab} {n x y i j : Nat} (h : y ≠ x) : rowB (T.put x i j) n y = rowB T n y := by
  simp [rowB, Tab.put, h]
theorem rowsB_put {T : Tab} {nons n x i j : Nat} (hx : x < nons) (hi : i < n) (hj : j < n) : (rowsB T nons n).set x ((vls (rowsB T nons n) x).set (i * n + j) (.bool true)) = rowsB (T.put x i j) nons n := by
  rw [vls_rowsB hx, rowB_put hi hj]
  refine List.ext_getElem? fun p => ?_
  rw [List.getElem?_set]
  by_cases hp : x = p
  · subst hp
    rw [if_pos rfl, if_pos (by rw [rowsB_length]; exact hx)]
    simp [rowsB, hx]
  · rw [if_neg hp]
    by_cases hlt : p < nons
    · simp [rowsB, hlt, rowB_other (fun e => hp e.symm)]
    · rw [List.getElem?_eq_none (by rw [rowsB_length]; omega), List.getElem?_eq_none (by rw [rowsB_length]; omega)]
theorem OwnV.tab {e1 e2 : Nat} {w : World} {B c nons n : Nat} {X : Option Addr} {T : Tab} {ps : Nat → Option Addr × Nat} (h : OwnV e1 e2 w B X c (rowsB T nons n) ps) (hn : 0 < n) : TabS w X nons n T := by
  refine ⟨fun hp => h.ptr (by rw [rowsB_length]; exact hp), fun x hx => ?_⟩
  have hx' : x < (rowsB T nons n).length := by rw [rowsB_length]; exact hx
  have hc := h.cell hx'
  have ho := h.own x hx'
  rw [vls_rowsB hx, rowB_length] at hc ho
  refine ⟨_, _, hc, ho.ptr (Nat.mul_pos hn hn), fun i j hi hj => ho.src.cell _ _ (rowB_at hi hj)⟩
theorem foldl_range {α : Type} (f : α → Nat → α) (s : α) (n : Nat) : (List.range (n + 1)).foldl f s = f ((List.range n).foldl f s) n := by
  rw [List.range_succ, List.foldl_append]
  rfl
theorem foldl_range' {α : Type} (f : α → Nat → α) (s : α) (a n : Nat) : (List.range' a (n + 1)).foldl f s = f ((List.range' a n).foldl f s) (a + n) := by
  rw [List.range'_concat, List.foldl_append]
  simp
theorem foldl_take {α : Type} (f : α → RuleL → α) (s : α) (rs : List RuleL) {n : Nat} (h : n < rs.length) : (rs.take (n + 1)).foldl f s = f ((rs.take n).foldl f s) (rul rs n) := by
  rw [List.take_succ_eq_append_getElem h, List.foldl_append, rul_eq h]
  rfl
end Go.Sh
namespace Go.Proofs.Ytegcjkhebecgbaa
open Go Go.Sh Go.RowKit

theorem l4Symbol_c {w : World} {U X : Option Addr} {cu cx nons : Nat} {T : Tab} {ws : List Int} {x : Int} {i j : Nat} (hT : TabS w U nons (ws.length + 1) T) (hX : Ints w X ws) (hl : ws.length ≤ 10) (hx : x < nons) (hx0 : -100 ≤ x) (hi : i ≤ j) (hj : j ≤ ws.length) {k : Value → World → Prop} (hk : k (.bool (symT T ws x i j)) w) :
    CallK Try.prog 255 [.slice U nons cu, .slice X ws.length cx, .int .i64 x, .int .i64 i, .int .i64 j] k w := by
  refine enter255 ?_
  unfold S255
  simp only [go_sem, Nat.reduceEqDiff]
  by_cases hneg : x < 0
  · simp only [hneg, decide_true, go_sem, Nat.reduceEqDiff]
    rw [i64_of (n := (i : Int) + 1) (by omega) (by omega)]
    unfold symT at hk
    rw [if_pos hneg] at hk
    by_cases he : j = i + 1
    · subst he
      simp only [show (((i + 1 : Nat) : Int) = (i : Int) + 1) from rfl, decide_true, go_sem, Nat.reduceEqDiff]
      rw [ixn27 hX.ptr (by omega), ld3 (hX.cell i (by omega))]
      simp only [go_sem, Nat.reduceEqDiff]
      rw [i64_of (by omega) (by omega)]
      simpa only [decide_true, Bool.true_and] using hk
    · simp only [show ¬ ((j : Int) = (i : Int) + 1) from by omega, decide_false, go_sem, Nat.reduceEqDiff]
      simpa only [he, decide_false, Bool.false_and] using hk
  · simp only [hneg, decide_false, go_sem, Nat.reduceEqDiff]
    unfold symT at hk
    rw [if_neg hneg] at hk
    obtain ⟨x, rfl⟩ : ∃ x' : Nat, x = x' := ⟨x.toNat, by omega⟩
    rw [Int.toNat_natCast] at hk
    obtain ⟨R, c, h1, h2, h3⟩ := hT.row x (by omega)
    have hm : (i : Int) * ((ws.length : Int) + 1) = ((i * (ws.length + 1) : Nat) : Int) := by push_cast; rfl
    have hb := place_lt (n := ws.length + 1) (show i < ws.length + 1 by omega) (show j < ws.length + 1 by omega)
    have hnn : (ws.length + 1) * (ws.length + 1) ≤ 11 * 11 := Nat.mul_le_mul (by omega) (by omega)
    rw [ixn134 (fun h => hT.ptr h) (by omega), ld136 h1, i64_of (n := (ws.length : Int) + 1) (by omega) (by omega), hm, i64_of (n := ((i * (ws.length + 1) : Nat) : Int)) (by omega) (by omega), i64_of (by omega) (by omega)]
    rw [show (((i * (ws.length + 1) : Nat) : Int) + (j : Int)) = ((i * (ws.length + 1) + j : Nat) : Int) from by push_cast; rfl]
    rw [ixn136 (fun _ => h2) hb, ld4 (h3 i j (by omega) (by omega))]
    exact hk
theorem l4Fits_c {ws : List Int} (hl : ws.length ≤ 10) {nons : Nat} : ∀ (right : List Int) {w : World} {U X Y : Option Addr} {cu cx cy : Nat} {T : Tab} {i j : Nat} {k : Value → World → Prop}, TabS w U nons (ws.length + 1) T → Ints w X ws → Ints w Y right → right.length ≤ cy → (∀ x ∈ right, x < nons ∧ -100 ≤ x) → i ≤ j → j ≤ ws.length → k (.bool (fitsT T ws right i j)) w →
    CallK Try.prog 161 [.slice U nons cu, .slice X ws.length cx, .slice Y right.length cy, .int .i64 i, .int .i64 j] k w := by
  intro right
  induction right with
  | nil =>
    intro w U X Y cu cx cy T i j k hT hX hY hcy hr hi hj hk
    refine enter161 ?_
    unfold S161
    simp only [go_sem, List.length_nil]
    simp only [Int.natCast_zero, decide_true, go_sem, Nat.reduceEqDiff, Int.natCast_inj]
    exact hk
  | cons x right ih =>
    intro w U X Y cu cx cy T i j k hT hX hY hcy hr hi hj hk
    refine enter161 ?_
    unfold S161
    simp only [go_sem, List.length_cons]
    simp only [show ¬ (((right.length + 1 : Nat) : Int) = 0) from by omega, decide_false, go_sem, Nat.reduceEqDiff]
    have hfs : fitsT T ws (x :: right) i j = (List.range' i (j + 1 - i)).any fun m => symT T ws x i m && fitsT T ws right m j := rfl
    rw [hfs] at hk
    have hx := hr x (List.mem_cons_self ..)
    have hr' : ∀ y ∈ right, y < nons ∧ -100 ≤ y := fun y hy => hr y (List.mem_cons_of_mem _ hy)
    have hYl := hY.le
    simp only [List.length_cons] at hYl hcy
    have hY' : Ints w (sub Y 1 cy 1) right := by
      have := hY.sub (l := 1) (c := cy) (by simp) (by simp; omega) (right.length)
      simpa using this
    refine loop_to (j + 1) i (fun m f w' => i ≤ m ∧ m ≤ j + 1 ∧ f 11 = .int .i64 m ∧ (∀ m', i ≤ m' → m' < m → (symT T ws x i m' && fitsT T ws right m' j) = false) ∧ w' = w) ⟨Nat.le_refl _, by omega, rfl, fun m' h1 h2 => by omega, rfl⟩ ?_
    rintro m f w' N hag ⟨hm1, hm2, h11, hno, rfl⟩ hN
    have f0 : f 0 = .slice U nons cu := hag 0 (by decide)
    have f1 : f 1 = .slice X ws.length cx := hag 1 (by decide)
    have f2 : f 2 = .slice Y (right.length + 1) cy := hag 2 (by decide)
    have f3 : f 3 = .int .i64 i := hag 3 (by decide)
    have f4 : f 4 = .int .i64 j := hag 4 (by decide)
    simp only [f0, f1, f2, f3, f4, h11, go_sem, Nat.reduceEqDiff]
    by_cases hle : m ≤ j
    case neg =>
      simp only [show ¬ ((m : Int) ≤ j) from by omega, decide_false, go_sem, Nat.reduceEqDiff]
      rw [any_upto (fun m' h1 h2 => hno m' h1 (by omega))] at hk
      exact hk
    simp only [show ((m : Int) ≤ j) from by omega, decide_true, go_sem, Nat.reduceEqDiff]
    rw [ix27_0 (fun _ => hY.ptr (by simp)) (by omega), ld3 (hY.cell 0 (by simp))]
    simp only [List.getD_cons_zero]
    refine l4Symbol_c hT hX hl hx.1 hx.2 hm1 (by omega) ?_
    cases hs : symT T ws x i m
    · simp only [go_sem, Nat.reduceEqDiff]
      rw [i64_of (by omega) (by omega)]
      exact hN _ _ (by omega) ⟨by omega, by omega, rfl, fun m' h1 h2 => by
        by_cases e : m' = m
        · rw [e, hs, Bool.false_and]
        · exact hno m' h1 (by omega), rfl⟩
    · simp only [go_sem, Nat.reduceEqDiff]
      rw [sll27 (by decide) (by omega)]
      rw [show (1 : Int).toNat = 1 from rfl, Nat.add_sub_cancel]
      refine ih hT hX hY' (by omega) hr' (by omega) hj ?_
      cases hf : fitsT T ws right m j
      · simp only [go_sem, Nat.reduceEqDiff]
        rw [i64_of (by omega) (by omega)]
        exact hN _ _ (by omega) ⟨by omega, by omega, rfl, fun m' h1 h2 => by
          by_cases e : m' = m
          · rw [e, hf, Bool.and_false]
          · exact hno m' h1 (by omega), rfl⟩
      · simp only [go_sem, Nat.reduceEqDiff]
        rw [any_at hm1 hle (by rw [hs, hf]; rfl)] at hk
        exact hk
end Go.Proofs.Ytegcjkhebecgbaa

/- Contract: the parts of a tree, told by the reference. -/
set_option linter.unusedVariables false
set_option linter.unusedSimpArgs false
set_option maxRecDepth 100000
namespace Go.Sh
open Go
end Go.Sh
namespace Go.Proofs.Ytegcjkhebecgbaa
open Go Go.Sh Go.RowKit

end Go.Proofs.Ytegcjkhebecgbaa

/- Contracts: the parts of a tree in memory, and the two that can be pumped, by the program. -/
set_option linter.unusedVariables false
set_option linter.unusedSimpArgs false
set_option maxRecDepth 100000
namespace Go.Sh
open Go
end Go.Sh
namespace Go.Proofs.Ytegcjkhebecgbaa
open Go Go.Sh Go.RowKit

end Go.Proofs.Ytegcjkhebecgbaa

/- Contracts: what of a tree can be pumped, by the reference. -/
set_option linter.unusedVariables false
set_option linter.unusedSimpArgs false
set_option maxRecDepth 100000
namespace Go.Sh
open Go
/-- The whole tree that a list of rules is. -/
structure Whole (gm : Gram) (tree : List Int) (p : PT) (ws : List Int) : Prop where
  good : goodG gm = true
  le : tree.length ≤ 60
  read : readT gm.rules tree tree.length 0 0 [] = some (p, ws)
  fin : p.fin = tree.length
theorem Whole.laid {gm : Gram} {tree : List Int} {p : PT} {ws : List Int} (h : Whole gm tree p ws) : Laid p.parts 0 := (readT_laid _ _ _ _ _ _ _ _ h.read).1
theorem Whole.len {gm : Gram} {tree : List Int} {p : PT} {ws : List Int} (h : Whole gm tree p ws) : p.parts.length = tree.length := by
  have := (readT_laid _ _ _ _ _ _ _ _ h.read).2.1
  have := h.fin
  omega
theorem Whole.words {gm : Gram} {tree : List Int} {p : PT} {ws : List Int} (h : Whole gm tree p ws) : ws.length ≤ 240 := by
  have := (readT_words (good_rule h.good) _ _ _ _ _ _ h.read).2
  have := h.len
  have := h.le
  simp at *
  omega
theorem asked_whole {gm : Gram} {tree : List Int} : (askedT gm tree = true → ∃ p ws, Whole gm tree p ws) ∧ (askedT gm tree = false → ∀ p ws, ¬ Whole gm tree p ws) := by
  have he := endT_eq gm.rules tree tree.length 0 0 []
  constructor
  · intro h
    simp only [askedT, isT, Bool.and_eq_true, decide_eq_true_eq] at h
    rw [h.2.2] at he
    cases hz : readT gm.rules tree tree.length 0 0 [] with
    | none => rw [hz] at he; cases he
    | some z =>
      rw [hz] at he
      exact ⟨z.1, z.2, h.1.1, h.1.2, hz, by simpa using he.symm⟩
  · intro h p ws hw
    have h1 : askedT gm tree = true := by
      simp only [askedT, isT, Bool.and_eq_true, decide_eq_true_eq]
      refine ⟨⟨hw.good, hw.le⟩, ?_, ?_⟩
      · have := hw.len
        rw [parts_cons] at this
        simp at this
        omega
      · rw [he, hw.read]
        simp [hw.fin]
    rw [h] at h1
    cases h1
end Go.Sh
namespace Go.Proofs.Ytegcjkhebecgbaa
open Go Go.Sh Go.RowKit

end Go.Proofs.Ytegcjkhebecgbaa

/- Contracts: PumpOf, PathIn, PumpTree of the reference. -/
set_option linter.unusedVariables false
set_option linter.unusedSimpArgs false
set_option maxRecDepth 100000
namespace Go.Sh
open Go
def wholeP (gm : Gram) (tree : List Int) : Option PT := if askedT gm tree = true then (readT gm.rules tree tree.length 0 0 []).map fun z => z.1 else none
theorem Whole.eq {gm : Gram} {tree : List Int} {p : PT} {ws : List Int} (h : Whole gm tree p ws) : wholeP gm tree = some p := by
  have ha : askedT gm tree = true := by
    cases e : askedT gm tree with
    | true => rfl
    | false => exact absurd h (asked_whole.2 e p ws)
  unfold wholeP
  rw [if_pos ha, h.read]
  rfl
end Go.Sh
namespace Go.Proofs.Ytegcjkhebecgbaa
open Go Go.Sh Go.RowKit

end Go.Proofs.Ytegcjkhebecgbaa

/- Contract: the first two parts that can be pumped, by the program. -/
set_option linter.unusedVariables false
set_option linter.unusedSimpArgs false
set_option maxRecDepth 100000
namespace Go.Proofs.Ytegcjkhebecgbaa
open Go Go.Sh Go.RowKit

end Go.Proofs.Ytegcjkhebecgbaa

/- Contract: the tree that a list of rules begins with, read by the program. -/
set_option linter.unusedVariables false
set_option linter.unusedSimpArgs false
set_option maxRecDepth 100000
namespace Go.Sh
open Go
theorem AllPt.same {F : Nat → Prop} {w w' : World} {ps : List PT} {bs : List Nat} (h : AllPt F w ps bs) (hs : ∀ q, F q → w'.heap[q]? = w.heap[q]?) : AllPt F w' ps bs := ⟨h.1, fun i hi => PartAt.same hs _ _ (h.2 i hi)⟩
theorem AllPt.mono {F E : Nat → Prop} {w : World} {ps : List PT} {bs : List Nat} (h : AllPt F w ps bs) (he : ∀ q, F q → E q) : AllPt E w ps bs := ⟨h.1, fun i hi => PartAt.mono he _ _ (h.2 i hi)⟩
theorem good_symb {g : Gram} (hg : goodG g = true) {q : Nat} (hq : q < g.rules.length) {i : Nat} (hi : i < (rul g.rules q).2.length) : -4 ≤ (rul g.rules q).2.getD i 0 ∧ (rul g.rules q).2.getD i 0 ≤ 5 ∧ -g.toks ≤ (rul g.rules q).2.getD i 0 ∧ (rul g.rules q).2.getD i 0 ≤ g.nons - 1 := by
  have hn := good_nons hg
  have ht := good_toks hg
  simp only [goodG, Bool.and_eq_true, List.all_eq_true] at hg
  have h1 := hg.2 q (List.mem_range.2 hq)
  simp only [goodR, Bool.and_eq_true, List.all_eq_true] at h1
  have h2 := h1.1.2 _ (getD_mem hi)
  simp only [symB, inB, Bool.and_eq_true, decide_eq_true_eq] at h2
  omega
end Go.Sh
namespace Go.Proofs.Ytegcjkhebecgbaa
open Go Go.Sh Go.RowKit
theorem symbolOf_c {x : Int} {w : World} {k : Value → World → Prop} (hk : k (.int .i64 (IntKind.i64.wrap (-1 - x))) w) : CallK Try.prog 254 [.int .i64 x] k w := by
  refine enter254 ?_
  unfold S254
  simp only [go_sem, Nat.reduceEqDiff]
  exact hk
abbrev readF (bR bG bW bF : Nat) : Value := .func (.func 260) #[] #[ptrv bR, ptrv bG, ptrv bW, ptrv bF]
end Go.Proofs.Ytegcjkhebecgbaa

/- Contracts: what derives a part of a word, by the program. -/
set_option linter.unusedVariables false
set_option linter.unusedSimpArgs false
set_option maxRecDepth 100000
namespace Go.Sh
open Go
def cellsT (T : Tab) : List Value := (List.range 726).map fun p => .bool (cellT T p)
theorem cellsT_length (T : Tab) : (cellsT T).length = 726 := by simp [cellsT]
theorem cellT_at {T : Tab} {x i j : Nat} (hi : i < 11) (hj : j < 11) : cellT T (x * 121 + i * 11 + j) = T x i j := by
  have e1 : (x * 121 + i * 11 + j) / 121 = x := by omega
  have e2 : (x * 121 + i * 11 + j) / 11 % 11 = i := by omega
  have e3 : (x * 121 + i * 11 + j) % 11 = j := by omega
  simp [cellT, e1, e2, e3]
theorem cellsT_at {T : Tab} {v : Value} {x i j : Nat} (hx : x < 6) (hi : i < 11) (hj : j < 11) : (v :: cellsT T)[x * 121 + i * 11 + j + 1]? = some (.bool (T x i j)) := by
  rw [List.getElem?_cons_succ]
  simp only [cellsT, List.getElem?_map]
  rw [List.getElem?_range (by omega)]
  simp only [Option.map_some, cellT_at hi hj]
theorem cellsT_put {T : Tab} {v : Value} {x i j : Nat} (hx : x < 6) (hi : i < 11) (hj : j < 11) : (v :: cellsT T).set (x * 121 + i * 11 + j + 1) (.bool true) = v :: cellsT (T.put x i j) := by
  rw [List.set_cons_succ]
  congr 1
  refine List.ext_getElem? fun p => ?_
  rw [List.getElem?_set]
  by_cases hp : x * 121 + i * 11 + j = p
  · subst hp
    rw [if_pos rfl, if_pos (by rw [cellsT_length]; omega)]
    simp only [cellsT, List.getElem?_map]
    rw [List.getElem?_range (by omega)]
    simp only [Option.map_some, cellT_at hi hj]
    simp [Tab.put]
  · rw [if_neg hp]
    simp only [cellsT, List.getElem?_map]
    by_cases hlt : p < 726
    · rw [List.getElem?_range hlt]
      simp only [Option.map_some, cellT, Tab.put]
      have : ¬ (p / 121 = x ∧ p / 11 % 11 = i ∧ p % 11 = j) := by omega
      rw [if_neg this]
    · rw [List.getElem?_eq_none (by simp; omega)]
      rfl
theorem take_put_drop {l : List Value} {m : Nat} {v : Value} (h : m < l.length) : l.take m ++ [v] ++ l.drop (m + 1) = l.set m v := by
  rw [List.set_eq_take_append_cons_drop, if_pos h]
  simp
end Go.Sh
namespace Go.Proofs.Ytegcjkhebecgbaa
open Go Go.Sh Go.RowKit

theorem sequence_c {ws : List Int} (hl : ws.length ≤ 10) (hw : ∀ t ∈ ws, 0 ≤ t ∧ t ≤ 100) : ∀ (right : List Int) {w : World} {b : Nat} {X Y : Option Addr} {cx cy : Nat} {T : Tab} {i j : Nat} {k : Value → World → Prop}, Box w b (.slice X ws.length cx :: cellsT T) 124 → Ints w X ws → Ints w Y right → right.length ≤ cy → (∀ x ∈ right, x < 6 ∧ -100 ≤ x) → i ≤ j → j ≤ ws.length → k (.bool (fitsT T ws right i j)) w →
    CallK Try.prog 155 [ptrv b, .slice Y right.length cy, .int .i64 i, .int .i64 j] k w := by
  intro right
  induction right with
  | nil =>
    intro w b X Y cx cy T i j k hB hX hY hcy hr hi hj hk
    refine enter155 ?_
    unfold S155
    simp only [go_sem, List.length_nil]
    simp only [Int.natCast_zero, decide_true, go_sem, Nat.reduceEqDiff, Int.natCast_inj]
    exact hk
  | cons x right ih =>
    intro w b X Y cx cy T i j k hB hX hY hcy hr hi hj hk
    refine enter155 ?_
    unfold S155
    simp only [go_sem, List.length_cons]
    simp only [show ¬ (((right.length + 1 : Nat) : Int) = 0) from by omega, decide_false, go_sem, Nat.reduceEqDiff]
    have hx := hr x (List.mem_cons_self ..)
    have hr' : ∀ y ∈ right, y < 6 ∧ -100 ≤ y := fun y hy => hr y (List.mem_cons_of_mem _ hy)
    simp only [List.length_cons] at hcy
    have hY' : Ints w (sub Y 1 cy 1) right := by
      have := hY.sub (l := 1) (c := cy) (by simp) (by simp; omega) (right.length)
      simpa using this
    rw [ix27_0 (fun _ => hY.ptr (by simp)) (by omega), ld3 (hY.cell 0 (by simp))]
    simp only [List.getD_cons_zero, go_sem, Nat.reduceEqDiff]
    by_cases hneg : x < 0
    · simp only [hneg, decide_true, go_sem, Nat.reduceEqDiff]
      rw [fits_tok hneg] at hk
      by_cases hij : i < j
      case neg =>
        simp only [show ¬ ((i : Int) < j) from by omega, decide_false, go_sem, Nat.reduceEqDiff]
        simpa only [hij, decide_false, Bool.false_and] using hk
      simp only [show ((i : Int) < j) from by omega, decide_true, go_sem, Nat.reduceEqDiff]
      rw [decide_eq_true hij, Bool.true_and] at hk
      rw [ldB27 hB rfl, ixn27 hX.ptr (by omega), ld3 (hX.cell i (by omega))]
      refine symbolOf_c ?_
      have hwi := hw _ (getD_mem (show i < ws.length by omega))
      rw [i64_of (by omega) (by omega)]
      simp only [go_sem, Nat.reduceEqDiff]
      by_cases he : ws.getD i 0 = -1 - x
      case neg =>
        simp only [show ¬ (-1 - ws.getD i 0 = x) from by omega, decide_false, go_sem, Nat.reduceEqDiff]
        simpa only [he, decide_false, Bool.false_and] using hk
      simp only [show (-1 - ws.getD i 0 = x) from by omega, decide_true, go_sem, Nat.reduceEqDiff]
      rw [decide_eq_true he, Bool.true_and] at hk
      rw [sll27 (by decide) (by omega), i64_of (by omega) (by omega)]
      rw [show (1 : Int).toNat = 1 from rfl, Nat.add_sub_cancel]
      refine ih (i := i + 1) hB hX hY' (by omega) hr' (by omega) hj ?_
      exact hk
    · simp only [hneg, decide_false, go_sem, Nat.reduceEqDiff]
      rw [fits_non hneg] at hk
      obtain ⟨x, rfl⟩ : ∃ x' : Nat, x = x' := ⟨x.toNat, by omega⟩
      rw [Int.toNat_natCast] at hk
      refine loop_to (j + 1) i (fun m f w' => i ≤ m ∧ m ≤ j + 1 ∧ f 10 = .int .i64 m ∧ (∀ m', i ≤ m' → m' < m → (T x i m' && fitsT T ws right m' j) = false) ∧ w' = w) ⟨Nat.le_refl _, by omega, rfl, fun m' h1 h2 => by omega, rfl⟩ ?_
      rintro m f w' N hag ⟨hm1, hm2, h10, hno, rfl⟩ hN
      have f0 : f 0 = ptrv b := hag 0 (by decide)
      have f1 : f 1 = .slice Y (right.length + 1) cy := hag 1 (by decide)
      have f2 : f 2 = .int .i64 i := hag 2 (by decide)
      have f3 : f 3 = .int .i64 j := hag 3 (by decide)
      have f9 : f 9 = .int .i64 (x : Nat) := hag 9 (by decide)
      simp only [f0, f1, f2, f3, f9, h10, go_sem, Nat.reduceEqDiff]
      by_cases hle : m ≤ j
      case neg =>
        simp only [show ¬ ((m : Int) ≤ j) from by omega, decide_false, go_sem, Nat.reduceEqDiff]
        rw [any_upto (fun m' h1 h2 => hno m' h1 (by omega))] at hk
        exact hk
      simp only [show ((m : Int) ≤ j) from by omega, decide_true, go_sem, Nat.reduceEqDiff]
      rw [ixa122 (by omega) (by omega), ixa121 (by omega) (by omega), ixa120 (by omega) (by omega)]
      simp only [Int.toNat_natCast, go_sem, Nat.reduceEqDiff]
      rw [ldB4 (off := 0 + 1 + x * 121 + i * 11 + m) hB (by rw [show 0 + 1 + x * 121 + i * 11 + m = x * 121 + i * 11 + m + 1 from by omega]; exact cellsT_at (by omega) (by omega) (by omega))]
      cases hs : T x i m
      · simp only [go_sem, Nat.reduceEqDiff]
        rw [i64_of (by omega) (by omega)]
        exact hN _ _ (by omega) ⟨by omega, by omega, rfl, fun m' h1 h2 => by
          by_cases e : m' = m
          · rw [e, hs, Bool.false_and]
          · exact hno m' h1 (by omega), rfl⟩
      · simp only [go_sem, Nat.reduceEqDiff]
        rw [sll27 (by decide) (by omega)]
        rw [show (1 : Int).toNat = 1 from rfl, Nat.add_sub_cancel]
        refine ih hB hX hY' (by omega) hr' (by omega) hj ?_
        cases hf : fitsT T ws right m j
        · simp only [go_sem, Nat.reduceEqDiff]
          rw [i64_of (by omega) (by omega)]
          exact hN _ _ (by omega) ⟨by omega, by omega, rfl, fun m' h1 h2 => by
            by_cases e : m' = m
            · rw [e, hf, Bool.and_false]
            · exact hno m' h1 (by omega), rfl⟩
        · simp only [go_sem, Nat.reduceEqDiff]
          rw [any_at hm1 hle (by rw [hs, hf]; rfl)] at hk
          exact hk
end Go.Proofs.Ytegcjkhebecgbaa

/- Contracts: the reference's table of what derives what. -/
set_option linter.unusedVariables false
set_option linter.unusedSimpArgs false
set_option maxRecDepth 100000
namespace Go.Sh
open Go
theorem madeCells_one (v : Value) (n : Nat) : (madeCells #[v] (n * 1)).toList = List.replicate n v := by
  rw [Nat.mul_one]
  refine List.ext_getElem? fun i => ?_
  unfold madeCells
  by_cases h : i < n
  · simp [h, Nat.mod_one]
  · rw [List.getElem?_eq_none (by simp; omega), List.getElem?_eq_none (by simp; omega)]
theorem rowB_none (n x : Nat) : rowB noTab n x = List.replicate (n * n) (.bool false) := by
  refine List.ext_getElem? fun i => ?_
  by_cases h : i < n * n
  · simp [rowB, h, noTab]
  · rw [List.getElem?_eq_none (by rw [rowB_length]; omega), List.getElem?_eq_none (by simp; omega)]
theorem set_td {α : Type} {xs ys : List α} {i : Nat} {a : α} (h : i < ys.length) (hl : xs.length = ys.length) (ha : xs[i]? = some a) : (xs.take i ++ ys.drop i).set i a = xs.take (i + 1) ++ ys.drop (i + 1) := by
  have hi : i < xs.length := by omega
  obtain rfl : xs[i] = a := by simpa [hi] using ha
  rw [List.take_succ_eq_append_getElem hi, List.set_append_right _ _ (by simp; omega)]
  rw [show i - (xs.take i).length = 0 from by simp; omega, List.drop_eq_getElem_cons h, List.set_cons_zero, List.append_assoc]
  rfl
def tabSt (rs : List RuleL) (ws : List Int) (s : Tab × Bool) : Prop := if s.2 = true then ∀ U, Span rs ws s.1 U → Span rs ws noTab U else Span rs ws noTab s.1
theorem tabSt_next {rs : List RuleL} {ws : List Int} {T : Tab} (h : tabSt rs ws (T, true)) : tabSt rs ws (passT rs ws (T, false)) := by
  unfold tabSt at h ⊢
  rw [if_pos rfl] at h
  cases hc : (passT rs ws (T, false)).2
  · rw [if_neg (by decide)]
    exact h _ (.done hc)
  · rw [if_pos rfl]
    exact fun U hU => h U (.more hc hU)
theorem good_right {g : Gram} (hg : goodG g = true) {q : Nat} (hq : q < g.rules.length) : ∀ x ∈ (rul g.rules q).2, x < g.nons ∧ -100 ≤ x := fun x hx => by
  obtain ⟨i, hi, rfl⟩ := List.getElem_of_mem hx
  have := good_symb hg hq hi
  rw [List.getD_eq_getElem?_getD, List.getElem?_eq_getElem hi] at this
  simp only [Option.getD_some] at this
  omega
theorem good_left {g : Gram} (hg : goodG g = true) {q : Nat} (hq : q < g.rules.length) : 0 ≤ (rul g.rules q).1 ∧ (rul g.rules q).1 ≤ g.nons - 1 := by
  simp only [goodG, Bool.and_eq_true, List.all_eq_true] at hg
  have h1 := hg.2 q (List.mem_range.2 hq)
  simp only [goodR, Bool.and_eq_true, inB, decide_eq_true_eq] at h1
  exact h1.1.1.1
theorem good_left6 {g : Gram} (hg : goodG g = true) : ∀ r ∈ g.rules, r.1.toNat < 6 := fun r hr => by
  obtain ⟨i, hi, rfl⟩ := List.getElem_of_mem hr
  have := good_left hg hi
  have := good_nons hg
  rw [rul_eq hi] at *
  omega
end Go.Sh
namespace Go.Proofs.Ytegcjkhebecgbaa
open Go Go.Sh Go.RowKit
theorem inf4' : Inf Try.prog 4 (.bool false) 1 1 := inf_of (by kernel_rfl)

theorem l4Table_c {F : Nat → Prop} {w : World} {v : Value} {gm : Gram} {X : Option Addr} {cx n0 : Nat} {ws : List Int} (hv : GramV F w v gm) (hg : goodG gm = true) (hX : Ints w X ws) (hn : n0 = ws.length) (hl : ws.length ≤ 10) {k : Value → World → Prop}
    (hk : ∀ w' U c nons, Gr w w' → gm.nons = (nons : Nat) → TabS w' U nons (ws.length + 1) (spanT gm.rules ws) → k (.slice U nons c) w') :
    CallK Try.prog 162 [v, .slice X n0 cx] k w := by
  subst hn
  obtain ⟨Y, cy, rfl, hc, hy⟩ := hv
  have hn6 := good_nons hg
  have hr16 := good_len hg
  have hleft6 := good_left6 hg
  obtain ⟨nons, hnn⟩ : ∃ n : Nat, gm.nons = n := ⟨gm.nons.toNat, by omega⟩
  refine enter162 ?_
  unfold S162
  have H := Apt.nil w
  refine boxH H fun b1 w1 H => ?_
  rw [hnn] at H
  simp only [go_sem, Nat.reduceEqDiff]
  rw [ldB3 (H.box 0 rfl) rfl]
  rw [i64_of (by omega) (by omega)]
  refine makeH H u134 inf136 (by omega) (by omega) fun b2 w2 H => ?_
  rw [show (Value.slice none 0 0).cells = #[.slice none 0 0] from rfl, madeCells_one] at H
  have H := H.nilVV 1 4 rfl
  simp only [List.nil_append, List.cons_append, List.set_cons_zero, List.set_cons_succ] at H
  simp only [go_sem, Nat.reduceEqDiff]
  generalize hN : ws.length + 1 = n at *
  have hNi : ((ws.length : Int) + 1) = (n : Int) := by omega
  rw [hNi]
  have hnn11 : n * n ≤ 11 * 11 := Nat.mul_le_mul (by omega) (by omega)
  have hrl : (rowsB noTab nons n).length = nons := rowsB_length _ _ _
  refine loop_to nons 0 (fun i f w' => i ≤ nons ∧ f 21 = .int .i64 i ∧ ∃ (ps : Nat → Option Addr × Nat), Apt w w' [bx b1 [.int .i64 nons, .int .i64 gm.toks, .slice Y gm.rules.length cy] 26, vvi 136 4 (some ⟨b2, 0, none⟩) nons ((rowsB noTab nons n).take i ++ (List.replicate nons []).drop i) ps])
    ⟨Nat.zero_le _, rfl, _, by rw [List.take_zero, List.drop_zero, List.nil_append]; exact H⟩ ?_
  rintro i f w3 N hag ⟨hi, h21, ps, H⟩ hN'
  have f20 : f 20 = .int .i64 nons := hag 20 (by decide)
  have f5 : f 5 = .int .i64 n := hag 5 (by decide)
  have f6 : f 6 = .slice (some ⟨b2, 0, none⟩) nons nons := hag 6 (by decide)
  have f2 : f 2 = ptrv b1 := hag 2 (by decide)
  have f1 : f 1 = .slice X ws.length cx := hag 1 (by decide)
  simp only [f20, f5, f6, h21, go_sem, Nat.reduceEqDiff]
  by_cases hlt : i < nons
  · simp only [show (i : Int) < nons from by omega, decide_true, go_sem, Nat.reduceEqDiff]
    rw [show (n : Int) * (n : Int) = ((n * n : Nat) : Int) from by push_cast; rfl, i64_of (by omega) (by omega)]
    refine makeH H (n := n * n) u136 inf4' (by omega) (by omega) fun b3 w4 H => ?_
    rw [show (Value.bool false).cells = #[.bool false] from rfl, madeCells_one, ← rowB_none n i] at H
    rw [ixn134 (fun _ => rfl) hlt]
    refine setRowVV H 1 2 i (by decide) rfl rfl (by rw [rowB_length]) (by decide) sz136 (by simp; omega) fun w5 ps' H => ?_
    have H := H.erase 2
    rw [set_td (by simp; omega) (by simp [hrl]) (by simp [rowsB, hlt])] at H
    rw [i64_of (by omega) (by omega)]
    exact hN' _ _ hlt ⟨hlt, rfl, ps', H⟩
  have hin : i = nons := by omega
  simp only [show ¬ ((i : Int) < nons) from by omega, decide_false, go_sem, Nat.reduceEqDiff]
  rw [hin, List.drop_eq_nil_of_le (by simp), List.append_nil, List.take_of_length_le (by rw [hrl]; exact Nat.le_refl _)] at H
  clear hN' hin h21 hi hlt
  refine loop_ghost (fun (s : Tab × Bool) f w' => tabSt gm.rules ws s ∧ f 8 = .bool s.2 ∧ ∃ (ps : Nat → Option Addr × Nat), Apt w w' [bx b1 [.int .i64 nons, .int .i64 gm.toks, .slice Y gm.rules.length cy] 26, vvi 136 4 (some ⟨b2, 0, none⟩) nons (rowsB s.1 nons n) ps]) (fun s => if s.2 = true then openT s.1 + 1 else 0) (noTab, true)
    ⟨by unfold tabSt; rw [if_pos rfl]; exact fun U h => h, rfl, ps, H⟩ ?_
  rintro ⟨T, more⟩ f7 w6 N2 hag2 ⟨hst, h8, ps, H⟩ hN2
  have f2' : f7 2 = ptrv b1 := (hag2 2 (by decide)).trans f2
  have f6' : f7 6 = .slice (some ⟨b2, 0, none⟩) nons nons := (hag2 6 (by decide)).trans f6
  have f5' : f7 5 = .int .i64 n := (hag2 5 (by decide)).trans f5
  have f1' : f7 1 = .slice X ws.length cx := (hag2 1 (by decide)).trans f1
  simp only [h8, f2', go_sem, Nat.reduceEqDiff]
  cases more
  · simp only [go_sem, Nat.reduceEqDiff]
    rw [f6']
    have hsp : T = spanT gm.rules ws := by
      unfold tabSt at hst
      rw [if_neg Bool.false_ne_true] at hst
      exact hst.eq
    rw [← hsp] at hk
    exact hk _ _ nons _ H.gr hnn ((H.vv 1 rfl).tab (by omega))
  simp only [go_sem, Nat.reduceEqDiff]
  rw [ldB24 (H.box 0 rfl) rfl]
  simp only [go_sem, Nat.reduceEqDiff]
  refine loop_to gm.rules.length 0 (fun q f w' => q ≤ gm.rules.length ∧ f 36 = .int .i64 q ∧ f 8 = .bool ((gm.rules.take q).foldl (ruleT ws) (T, false)).2 ∧ ∃ (ps : Nat → Option Addr × Nat), Apt w w' [bx b1 [.int .i64 nons, .int .i64 gm.toks, .slice Y gm.rules.length cy] 26, vvi 136 4 (some ⟨b2, 0, none⟩) nons (rowsB ((gm.rules.take q).foldl (ruleT ws) (T, false)).1 nons n) ps])
    ⟨Nat.zero_le _, rfl, rfl, ps, H⟩ ?_
  rintro q g1 w7 N3 hag3 ⟨hq, h36, h8', ps, H⟩ hN3
  have e34 : g1 34 = .slice Y gm.rules.length cy := hag3 34 (by decide)
  have e35 : g1 35 = .int .i64 gm.rules.length := hag3 35 (by decide)
  have e5 : g1 5 = .int .i64 n := (hag3 5 (by decide)).trans f5'
  have e6 : g1 6 = .slice (some ⟨b2, 0, none⟩) nons nons := (hag3 6 (by decide)).trans f6'
  have e1 : g1 1 = .slice X ws.length cx := (hag3 1 (by decide)).trans f1'
  simp only [e34, e35, h36, go_sem, Nat.reduceEqDiff]
  by_cases hlq : q < gm.rules.length
  case neg =>
    simp only [show ¬ ((q : Int) < gm.rules.length) from by omega, decide_false, go_sem, Nat.reduceEqDiff]
    rw [List.take_of_length_le (by omega)] at h8' H
    have hinc := passT_inc hleft6 hl (T, false)
    refine hN2 (passT gm.rules ws (T, false)) _ _ ⟨tabSt_next hst, h8', ps, H⟩ ?_
    rw [if_pos rfl]
    rcases hinc with he | ⟨h1, h2⟩
    · rw [he, if_neg Bool.false_ne_true]
      omega
    · rw [if_pos h1]
      dsimp only at h2 ⊢
      omega
  simp only [show ((q : Int) < gm.rules.length) from by omega, decide_true, go_sem, Nat.reduceEqDiff]
  obtain ⟨Z, cz, t1, t2, t3, t4⟩ := hy.row q hlq
  have hleft := good_left hg hlq
  have hright := good_right hg hlq
  have hR4 := good_rule hg q hlq
  generalize hr : rul gm.rules q = r at *
  obtain ⟨xl, hxl⟩ : ∃ x : Nat, r.1 = x := ⟨r.1.toNat, by omega⟩
  rw [hxl] at t1 hleft
  rw [ixn24 hy.ptr hlq, ld_agg agg33 sz33 (cs := [.int .i64 xl, .slice Z r.2.length cz]) rfl (fun j hj => by
    match j, hj with
    | 0, _ => rw [add_add, Nat.add_zero]; exact H.gr.cell t1
    | 1, _ => rw [add_add]; exact H.gr.cell t2)]
  refine allocH H inf33 fun b3 w8 H => ?_
  refine storeH H 2 rfl sz33 rfl rfl rfl fun w9 H => ?_
  simp only [List.nil_append, List.cons_append, List.set_cons_zero, List.set_cons_succ] at H
  generalize hs0 : (gm.rules.take q).foldl (ruleT ws) (T, false) = s0 at *
  refine loop_to n 0 (fun a f w' => a ≤ n ∧ f 11 = .int .i64 a ∧ f 8 = .bool ((List.range a).foldl (rowT ws r) s0).2 ∧ ∃ (ps : Nat → Option Addr × Nat), Apt w w' [bx b1 [.int .i64 nons, .int .i64 gm.toks, .slice Y gm.rules.length cy] 26, vvi 136 4 (some ⟨b2, 0, none⟩) nons (rowsB ((List.range a).foldl (rowT ws r) s0).1 nons n) ps, bx b3 [.int .i64 xl, .slice Z r.2.length cz] 33])
    ⟨Nat.zero_le _, rfl, h8', ps, H⟩ ?_
  rintro a g2 w10 N4 hag4 ⟨ha, h11, h8a, ps, H⟩ hN4
  have k5 : g2 5 = .int .i64 n := (hag4 5 (by decide)).trans e5
  have k6 : g2 6 = .slice (some ⟨b2, 0, none⟩) nons nons := (hag4 6 (by decide)).trans e6
  have k1 : g2 1 = .slice X ws.length cx := (hag4 1 (by decide)).trans e1
  have k10 : g2 10 = ptrv b3 := hag4 10 (by decide)
  have k36 : g2 36 = .int .i64 q := (hag4 36 (by decide)).trans h36
  simp only [k5, h11, k36, go_sem, Nat.reduceEqDiff]
  by_cases hla : a < n
  case neg =>
    simp only [show ¬ ((a : Int) < n) from by omega, decide_false, go_sem, Nat.reduceEqDiff]
    rw [i64_of (by omega) (by omega)]
    have han : a = n := by omega
    rw [han] at h8a H
    have hstep : (gm.rules.take (q + 1)).foldl (ruleT ws) (T, false) = (List.range n).foldl (rowT ws r) s0 := by
      rw [foldl_take _ _ _ hlq, hs0, hr, ← hN]
      rfl
    refine hN3 _ _ hlq ⟨hlq, rfl, ?_, ps, ?_⟩
    · rw [hstep]
      exact h8a
    · rw [hstep]
      exact H.take 2
  simp only [show ((a : Int) < n) from by omega, decide_true, go_sem, Nat.reduceEqDiff]
  generalize hs1 : (List.range a).foldl (rowT ws r) s0 = s1 at *
  refine loop_to n a (fun b f w' => a ≤ b ∧ b ≤ n ∧ f 12 = .int .i64 b ∧ f 8 = .bool ((List.range' a (b - a)).foldl (Sh.stepT ws r a) s1).2 ∧ ∃ (ps : Nat → Option Addr × Nat), Apt w w' [bx b1 [.int .i64 nons, .int .i64 gm.toks, .slice Y gm.rules.length cy] 26, vvi 136 4 (some ⟨b2, 0, none⟩) nons (rowsB ((List.range' a (b - a)).foldl (Sh.stepT ws r a) s1).1 nons n) ps, bx b3 [.int .i64 xl, .slice Z r.2.length cz] 33])
    ⟨Nat.le_refl _, by omega, rfl, by rw [Nat.sub_self]; exact h8a, ps, by rw [Nat.sub_self]; exact H⟩ ?_
  rintro b g3 w11 N5 hag5 ⟨hb1, hb2, h12, h8b, ps, H⟩ hN5
  have m5 : g3 5 = .int .i64 n := (hag5 5 (by decide)).trans k5
  have m6 : g3 6 = .slice (some ⟨b2, 0, none⟩) nons nons := (hag5 6 (by decide)).trans k6
  have m1 : g3 1 = .slice X ws.length cx := (hag5 1 (by decide)).trans k1
  have m10 : g3 10 = ptrv b3 := (hag5 10 (by decide)).trans k10
  have m11 : g3 11 = .int .i64 a := (hag5 11 (by decide)).trans h11
  simp only [m5, m6, m1, m10, m11, h12, go_sem, Nat.reduceEqDiff]
  by_cases hlb : b < n
  case neg =>
    simp only [show ¬ ((b : Int) < n) from by omega, decide_false, go_sem, Nat.reduceEqDiff]
    rw [i64_of (by omega) (by omega)]
    have hbn : b = n := by omega
    rw [hbn] at h8b H
    have hstep : (List.range (a + 1)).foldl (rowT ws r) s0 = (List.range' a (n - a)).foldl (Sh.stepT ws r a) s1 := by
      rw [foldl_range, hs1, ← hN]
      rfl
    refine hN4 _ _ hla ⟨hla, rfl, ?_, ps, ?_⟩
    · rw [hstep]
      exact h8b
    · rw [hstep]
      exact H
  simp only [show ((b : Int) < n) from by omega, decide_true, go_sem, Nat.reduceEqDiff]
  have hstep : (List.range' a (b + 1 - a)).foldl (Sh.stepT ws r a) s1 = Sh.stepT ws r a ((List.range' a (b - a)).foldl (Sh.stepT ws r a) s1) b := by
    rw [show b + 1 - a = b - a + 1 from by omega, foldl_range', show a + (b - a) = b from by omega]
  generalize hs2 : (List.range' a (b - a)).foldl (Sh.stepT ws r a) s1 = s2 at *
  have hxn : xl < nons := by omega
  have hab := place_lt (n := n) (show a < n by omega) hlb
  have hT := (H.vv 1 rfl).tab (by omega)
  have hxr : xl < (rowsB s2.1 nons n).length := by rw [rowsB_length]; exact hxn
  have hcell := (H.vv 1 rfl).cell hxr
  have hown := (H.vv 1 rfl).own xl hxr
  rw [vls_rowsB hxn, rowB_length] at hcell hown
  have hR0 : (ps xl).1 = some (ad (ps xl).1) := hown.ptr (by omega)
  have hab' : (a : Int) * (n : Int) = ((a * n : Nat) : Int) := by push_cast; rfl
  have hidx : IntKind.i64.wrap (IntKind.i64.wrap ((a : Int) * (n : Int)) + (b : Int)) = ((a * n + b : Nat) : Int) := by
    rw [hab', i64_of (n := ((a * n : Nat) : Int)) (by omega) (by omega), i64_of (by omega) (by omega)]
    rfl
  rw [hidx, ldB3 (H.box 2 rfl) rfl]
  refine rdi (ixn134 (fun _ => rfl) hxn) (rdi (ld136 hcell) (rdi (ixn136 (fun _ => hR0) hab) (rdi (ld4 (hown.src.cell _ _ (rowB_at hla hlb))) ?_)))
  simp only [go_sem, Nat.reduceEqDiff]
  have hstepT : Sh.stepT ws r a s2 b = if (!s2.1 xl a b && fitsT s2.1 ws r.2 a b) = true then (s2.1.put xl a b, true) else s2 := by
    unfold Sh.stepT
    rw [hxl, Int.toNat_natCast]
  have stay : Sh.stepT ws r a s2 b = s2 → ∀ f', f' 12 = .int .i64 (b + 1 : Nat) → f' 8 = .bool s2.2 → N5 f' w11 := fun he f' q12 q8 => hN5 f' w11 hlb ⟨by omega, hlb, q12, by rw [hstep, he]; exact q8, ps, by rw [hstep, he]; exact H⟩
  cases hc0 : s2.1 xl a b
  case true =>
    simp only [Bool.not_true, go_sem, Nat.reduceEqDiff]
    rw [i64_of (n := (b : Int) + 1) (by omega) (by omega)]
    exact stay (by rw [hstepT, hc0]; rfl) _ rfl h8b
  simp only [Bool.not_false, go_sem, Nat.reduceEqDiff]
  rw [ldB27 (H.box 2 rfl) rfl]
  rw [← hN] at hT
  refine l4Fits_c hl r.2 hT (hX.gr H.gr) (t4.is.gr H.gr) t3 (fun x hx => by have := hright x hx; omega) hb1 (by omega) ?_
  cases hft : fitsT s2.1 ws r.2 a b
  · simp only [go_sem, Nat.reduceEqDiff]
    rw [i64_of (n := (b : Int) + 1) (by omega) (by omega)]
    exact stay (by rw [hstepT, hc0, hft]; rfl) _ rfl h8b
  simp only [go_sem, Nat.reduceEqDiff]
  rw [ldB3 (H.box 2 rfl) rfl]
  refine rdi (ixn134 (fun _ => rfl) hxn) (rdi (ld136 hcell) (rdi (ixn136 (fun _ => hR0) hab) ?_))
  refine storeVV H 1 xl (m := a * n + b) rfl (by decide) sz4 rfl rfl hxr (by rw [vls_rowsB hxn, rowB_length]; exact hab) fun w12 H => ?_
  rw [rowsB_put hxn hla hlb] at H
  rw [i64_of (n := (b : Int) + 1) (by omega) (by omega)]
  refine hN5 _ _ hlb ⟨by omega, hlb, rfl, ?_, ps, ?_⟩
  · rw [hstep, hstepT, hc0, hft]
    rfl
  · rw [hstep, hstepT, hc0, hft]
    exact H
theorem l4In_c {F : Nat → Prop} {w : World} {v : Value} {gm : Gram} {X : Option Addr} {cx n0 : Nat} {ws : List Int} (hv : GramV F w v gm) (hg : goodG gm = true) (hX : Ints w X ws) (hn : n0 = ws.length) (hl : ws.length ≤ 10) {k : Value → World → Prop}
    (hk : ∀ w', Gr w w' → k (.bool (inL gm.rules ws)) w') : CallK Try.prog 153 [v, .int .i64 0, .slice X n0 cx] k w := by
  subst hn
  obtain ⟨Y, cy, rfl, hc, hy⟩ := hv
  have hn6 := good_nons hg
  refine enter153 ?_
  unfold S153
  have H := Apt.nil w
  refine boxH H fun b1 w1 H => ?_
  rw [ldB_agg agg26 sz26 rfl (H.box 0 rfl)]
  refine l4Table_c (gm := gm) ⟨Y, cy, rfl, hc, hy.gr H.gr⟩ hg (hX.gr H.gr) rfl hl fun w2 U c nons g2 hnn hT => ?_
  have hns : 0 < nons := by omega
  obtain ⟨R, cr, h1, h2, h3⟩ := hT.row 0 hns
  have := h3 0 ws.length (by omega) (by omega)
  rw [Nat.zero_mul, Nat.zero_add] at this
  rw [ix134_0 hT.ptr hns, ld136 h1]
  simp only [go_sem, Nat.reduceEqDiff]
  rw [ixn136 (fun _ => h2) (Nat.lt_of_lt_of_le (Nat.lt_succ_self _) (Nat.le_mul_of_pos_left _ (by omega))), ld4 this]
  exact hk _ (gr_trans H.gr g2)
end Go.Proofs.Ytegcjkhebecgbaa

/- Contract: the program's table of what derives what. -/
set_option linter.unusedVariables false
set_option linter.unusedSimpArgs false
set_option maxRecDepth 100000
namespace Go.Sh
open Go
theorem map_const_range (n : Nat) (v : Value) : (List.range n).map (fun _ => v) = List.replicate n v := by
  rw [List.map_const', List.length_range]
theorem cellsT_none : cellsT noTab = List.replicate 726 (.bool false) := map_const_range 726 (.bool false)
theorem fill_one {place : Nat → Option (Nat × Nat)} {cells : Array Value} {v : Value} (hp : place 0 = some (0, 1)) (hv : v.cells = #[v]) (h0 : 0 < cells.size) : Instr.fill place cells [(0, v)] = some (cells.setIfInBounds 0 v) := by
  simp only [Instr.fill, hp, hv]
  have e : (decide ((#[v] : Array Value).size ≠ 1) || decide (0 + (#[v] : Array Value).size > cells.size)) = false := by
    rw [Bool.or_eq_false_iff]
    exact ⟨by simp, decide_eq_false (by show ¬ (0 + 1 > cells.size); omega)⟩
  rw [if_neg (by rw [e]; exact Bool.false_ne_true)]
  simp
theorem set_head {a v : Value} {R : Array Value} : (#[a] ++ R).setIfInBounds 0 v = #[v] ++ R := by
  apply Array.ext'
  simp
theorem agg_pos (v : Value) (R : Array Value) : 0 < (Value.agg (#[v] ++ R)).cells.size := by
  show 0 < (#[v] ++ R).size
  simp
  omega
theorem agg_list (v : Value) (R : Array Value) : (Value.agg (#[v] ++ R)).cells.toList = v :: R.toList := by
  show (#[v] ++ R).toList = _
  simp
theorem rep_list (n : Nat) (v : Value) : (Array.replicate n v).toList = List.replicate n v := Array.toList_replicate
end Go.Sh
namespace Go.Proofs.Ytegcjkhebecgbaa
open Go Go.Sh Go.RowKit
theorem inf124' : Inf Try.prog 124 (.agg (#[.slice none 0 0] ++ Array.replicate 726 (.bool false))) 727 752 := inf_of (by kernel_rfl)
theorem sz122' : szOf Try.prog 122 726 := szOf_of (by kernel_rfl)
theorem bd124 (X : Option Addr) (n c : Nat) : ∃ z : Value, (∀ (S : WS) (k : Value → Prop), Rd Try.prog S (sBuild 124 [(0, .slice X n c)]) k = k z) ∧ z.cells.toList = .slice X n c :: cellsT noTab := by
  refine ⟨.agg (#[.slice X n c] ++ Array.replicate 726 (.bool false)), fun S k => ?_, ?_⟩
  · refine rd_buildN (ps := [(0, 1), (1, 726)]) Try.underlying124 inf124' ⟨⟨rfl, sz27⟩, ⟨rfl, sz122'⟩, trivial⟩ ((fill_one rfl rfl ?_).trans (congrArg some set_head))
    exact agg_pos _ _
  · rw [agg_list, cellsT_none]
    exact congrArg _ (rep_list _ _)

theorem spans_c {F : Nat → Prop} {w : World} {v : Value} {gm : Gram} {X : Option Addr} {cx n0 : Nat} {ws : List Int} (hv : GramV F w v gm) (hg : goodG gm = true) (hX : Ints w X ws) (hn : n0 = ws.length) (hl : ws.length ≤ 10) (hw : ∀ t ∈ ws, 0 ≤ t ∧ t ≤ 100) {k : Value → World → Prop}
    (hk : ∀ w' b, Apt w w' [bx b (.slice X ws.length cx :: cellsT (spanT gm.rules ws)) 124] → k (ptrv b) w') :
    CallK Try.prog 151 [v, .slice X n0 cx] k w := by
  subst hn
  obtain ⟨Y, cy, rfl, hc, hy⟩ := hv
  have hn6 := good_nons hg
  have hr16 := good_len hg
  have hleft6 := good_left6 hg
  refine enter151 ?_
  unfold S151
  have H := Apt.nil w
  refine boxH H fun b1 w1 H => ?_
  obtain ⟨z, hz1, hz2⟩ := bd124 X ws.length cx
  refine rdi (hz1 _ _) ?_
  refine boxH H fun b2 w2 H => ?_
  rw [hz2] at H
  simp only [List.nil_append, List.cons_append] at H
  refine loop_ghost (fun (s : Tab × Bool) f w' => tabSt gm.rules ws s ∧ f 6 = .bool s.2 ∧ Apt w w' [bx b1 [.int .i64 gm.nons, .int .i64 gm.toks, .slice Y gm.rules.length cy] 26, bx b2 (.slice X ws.length cx :: cellsT s.1) 124]) (fun s => if s.2 = true then openT s.1 + 1 else 0) (noTab, true)
    ⟨by unfold tabSt; rw [if_pos rfl]; exact fun U h => h, rfl, H⟩ ?_
  rintro ⟨T, more⟩ f7 w6 N2 hag2 ⟨hst, h8, H⟩ hN2
  have f2' : f7 2 = ptrv b1 := hag2 2 (by decide)
  have f5' : f7 5 = ptrv b2 := hag2 5 (by decide)
  have f1' : f7 1 = .slice X ws.length cx := hag2 1 (by decide)
  simp only [h8, f2', go_sem, Nat.reduceEqDiff]
  cases more
  · simp only [go_sem, Nat.reduceEqDiff]
    rw [f5']
    have hsp : T = spanT gm.rules ws := by
      unfold tabSt at hst
      rw [if_neg Bool.false_ne_true] at hst
      exact hst.eq
    rw [← hsp] at hk
    exact hk _ b2 (H.erase 0)
  simp only [go_sem, Nat.reduceEqDiff]
  rw [ldB24 (H.box 0 rfl) rfl]
  simp only [go_sem, Nat.reduceEqDiff]
  refine loop_to gm.rules.length 0 (fun q f w' => q ≤ gm.rules.length ∧ f 18 = .int .i64 q ∧ f 6 = .bool ((gm.rules.take q).foldl (ruleT ws) (T, false)).2 ∧ Apt w w' [bx b1 [.int .i64 gm.nons, .int .i64 gm.toks, .slice Y gm.rules.length cy] 26, bx b2 (.slice X ws.length cx :: cellsT ((gm.rules.take q).foldl (ruleT ws) (T, false)).1) 124])
    ⟨Nat.zero_le _, rfl, rfl, H⟩ ?_
  rintro q g1 w7 N3 hag3 ⟨hq, h36, h8', H⟩ hN3
  have e34 : g1 16 = .slice Y gm.rules.length cy := hag3 16 (by decide)
  have e35 : g1 17 = .int .i64 gm.rules.length := hag3 17 (by decide)
  have e5 : g1 5 = ptrv b2 := (hag3 5 (by decide)).trans f5'
  have e1 : g1 1 = .slice X ws.length cx := (hag3 1 (by decide)).trans f1'
  simp only [e34, e35, e1, h36, go_sem, Nat.reduceEqDiff]
  by_cases hlq : q < gm.rules.length
  case neg =>
    simp only [show ¬ ((q : Int) < gm.rules.length) from by omega, decide_false, go_sem, Nat.reduceEqDiff]
    rw [List.take_of_length_le (by omega)] at h8' H
    have hinc := passT_inc hleft6 hl (T, false)
    refine hN2 (passT gm.rules ws (T, false)) _ _ ⟨tabSt_next hst, h8', H⟩ ?_
    rw [if_pos rfl]
    rcases hinc with he | ⟨h1, h2⟩
    · rw [he, if_neg Bool.false_ne_true]
      omega
    · rw [if_pos h1]
      dsimp only at h2 ⊢
      omega
  simp only [show ((q : Int) < gm.rules.length) from by omega, decide_true, go_sem, Nat.reduceEqDiff]
  obtain ⟨Z, cz, t1, t2, t3, t4⟩ := hy.row q hlq
  have hleft := good_left hg hlq
  have hright := good_right hg hlq
  have hR4 := good_rule hg q hlq
  generalize hr : rul gm.rules q = r at *
  obtain ⟨xl, hxl⟩ : ∃ x : Nat, r.1 = x := ⟨r.1.toNat, by omega⟩
  rw [hxl] at t1 hleft
  rw [ixn24 hy.ptr hlq, ld_agg agg33 sz33 (cs := [.int .i64 xl, .slice Z r.2.length cz]) rfl (fun j hj => by
    match j, hj with
    | 0, _ => rw [add_add, Nat.add_zero]; exact H.gr.cell t1
    | 1, _ => rw [add_add]; exact H.gr.cell t2)]
  refine allocH H inf33 fun b3 w8 H => ?_
  refine storeH H 2 rfl sz33 rfl rfl rfl fun w9 H => ?_
  simp only [List.nil_append, List.cons_append, List.set_cons_zero, List.set_cons_succ] at H
  generalize hN : ws.length + 1 = n at *
  have hNi : ((ws.length : Int) + 1) = (n : Int) := by omega
  rw [hNi, i64_of (n := (n : Int)) (by omega) (by omega)]
  generalize hs0 : (gm.rules.take q).foldl (ruleT ws) (T, false) = s0 at *
  refine loop_to n 0 (fun a f w' => a ≤ n ∧ f 25 = .int .i64 a ∧ f 6 = .bool ((List.range a).foldl (rowT ws r) s0).2 ∧ Apt w w' [bx b1 [.int .i64 gm.nons, .int .i64 gm.toks, .slice Y gm.rules.length cy] 26, bx b2 (.slice X ws.length cx :: cellsT ((List.range a).foldl (rowT ws r) s0).1) 124, bx b3 [.int .i64 xl, .slice Z r.2.length cz] 33])
    ⟨Nat.zero_le _, rfl, h8', H⟩ ?_
  rintro a g2 w10 N4 hag4 ⟨ha, h11, h8a, H⟩ hN4
  have k24 : g2 24 = .int .i64 n := hag4 24 (by decide)
  have k5 : g2 5 = ptrv b2 := (hag4 5 (by decide)).trans e5
  have k1 : g2 1 = .slice X ws.length cx := (hag4 1 (by decide)).trans e1
  have k8 : g2 8 = ptrv b3 := hag4 8 (by decide)
  have k18 : g2 18 = .int .i64 q := (hag4 18 (by decide)).trans h36
  simp only [k24, h11, k18, go_sem, Nat.reduceEqDiff]
  by_cases hla : a < n
  case neg =>
    simp only [show ¬ ((a : Int) < n) from by omega, decide_false, go_sem, Nat.reduceEqDiff]
    rw [i64_of (by omega) (by omega)]
    have han : a = n := by omega
    rw [han] at h8a H
    have hstep : (gm.rules.take (q + 1)).foldl (ruleT ws) (T, false) = (List.range n).foldl (rowT ws r) s0 := by
      rw [foldl_take _ _ _ hlq, hs0, hr, ← hN]
      rfl
    refine hN3 _ _ hlq ⟨hlq, rfl, ?_, ?_⟩
    · rw [hstep]
      exact h8a
    · rw [hstep]
      exact H.take 2
  simp only [show ((a : Int) < n) from by omega, decide_true, go_sem, Nat.reduceEqDiff]
  generalize hs1 : (List.range a).foldl (rowT ws r) s0 = s1 at *
  refine loop_to n a (fun b f w' => a ≤ b ∧ b ≤ n ∧ f 10 = .int .i64 b ∧ f 6 = .bool ((List.range' a (b - a)).foldl (Sh.stepT ws r a) s1).2 ∧ Apt w w' [bx b1 [.int .i64 gm.nons, .int .i64 gm.toks, .slice Y gm.rules.length cy] 26, bx b2 (.slice X ws.length cx :: cellsT ((List.range' a (b - a)).foldl (Sh.stepT ws r a) s1).1) 124, bx b3 [.int .i64 xl, .slice Z r.2.length cz] 33])
    ⟨Nat.le_refl _, by omega, rfl, by rw [Nat.sub_self]; exact h8a, by rw [Nat.sub_self]; exact H⟩ ?_
  rintro b g3 w11 N5 hag5 ⟨hb1, hb2, h12, h8b, H⟩ hN5
  have m5 : g3 5 = ptrv b2 := (hag5 5 (by decide)).trans k5
  have m1 : g3 1 = .slice X ws.length cx := (hag5 1 (by decide)).trans k1
  have m8 : g3 8 = ptrv b3 := (hag5 8 (by decide)).trans k8
  have m9 : g3 9 = .int .i64 a := hag5 9 (by decide)
  have m25 : g3 25 = .int .i64 a := (hag5 25 (by decide)).trans h11
  simp only [m5, m1, m8, m9, m25, h12, go_sem, Nat.reduceEqDiff]
  by_cases hlb : b < n
  case neg =>
    simp only [show ¬ ((b : Int) ≤ ws.length) from by omega, decide_false, go_sem, Nat.reduceEqDiff]
    rw [i64_of (by omega) (by omega)]
    have hbn : b = n := by omega
    rw [hbn] at h8b H
    have hstep : (List.range (a + 1)).foldl (rowT ws r) s0 = (List.range' a (n - a)).foldl (Sh.stepT ws r a) s1 := by
      rw [foldl_range, hs1, ← hN]
      rfl
    refine hN4 _ _ hla ⟨hla, rfl, ?_, ?_⟩
    · rw [hstep]
      exact h8b
    · rw [hstep]
      exact H
  simp only [show ((b : Int) ≤ ws.length) from by omega, decide_true, go_sem, Nat.reduceEqDiff]
  have hstep : (List.range' a (b + 1 - a)).foldl (Sh.stepT ws r a) s1 = Sh.stepT ws r a ((List.range' a (b - a)).foldl (Sh.stepT ws r a) s1) b := by
    rw [show b + 1 - a = b - a + 1 from by omega, foldl_range', show a + (b - a) = b from by omega]
  generalize hs2 : (List.range' a (b - a)).foldl (Sh.stepT ws r a) s1 = s2 at *
  have hxn : xl < 6 := by omega
  have hstepT : Sh.stepT ws r a s2 b = if (!s2.1 xl a b && fitsT s2.1 ws r.2 a b) = true then (s2.1.put xl a b, true) else s2 := by
    unfold Sh.stepT
    rw [hxl, Int.toNat_natCast]
  have H := H.drew
  have stay : Sh.stepT ws r a s2 b = s2 → ∀ f', f' 10 = .int .i64 (b + 1 : Nat) → f' 6 = .bool s2.2 → N5 f' w11.drew := fun he f' q12 q8 => hN5 f' w11.drew hlb ⟨by omega, hlb, q12, by rw [hstep, he]; exact q8, by rw [hstep, he]; exact H⟩
  rw [ldB3 (H.box 2 rfl) rfl]
  rw [ixa122 (by omega) (by omega), ixa121 (by omega) (by omega), ixa120 (by omega) (by omega)]
  simp only [Int.toNat_natCast, go_sem, Nat.reduceEqDiff]
  have hoff : 0 + 1 + xl * 121 + a * 11 + b = xl * 121 + a * 11 + b + 1 := by omega
  rw [hoff, ldB4 (H.box 1 rfl) (cellsT_at hxn (by omega) (by omega))]
  simp only [go_sem, Nat.reduceEqDiff]
  cases hc0 : s2.1 xl a b
  case true =>
    simp only [Bool.not_true, go_sem, Nat.reduceEqDiff]
    rw [i64_of (n := (b : Int) + 1) (by omega) (by omega)]
    exact stay (by rw [hstepT, hc0]; rfl) _ rfl h8b
  simp only [Bool.not_false, go_sem, Nat.reduceEqDiff]
  rw [ldB27 (H.box 2 rfl) rfl]
  refine sequence_c hl hw r.2 (H.box 1 rfl) (hX.gr H.gr) (t4.is.gr H.gr) t3 (fun x hx => by have := hright x hx; omega) hb1 (by omega) ?_
  cases hft : fitsT s2.1 ws r.2 a b
  · simp only [go_sem, Nat.reduceEqDiff]
    rw [i64_of (n := (b : Int) + 1) (by omega) (by omega)]
    exact stay (by rw [hstepT, hc0, hft]; rfl) _ rfl h8b
  simp only [go_sem, Nat.reduceEqDiff]
  have H := H.drew
  rw [ldB3 (H.box 2 rfl) rfl]
  rw [ixa122 (by omega) (by omega), ixa121 (by omega) (by omega), ixa120 (by omega) (by omega)]
  simp only [Int.toNat_natCast, go_sem, Nat.reduceEqDiff]
  rw [hoff]
  refine storeH H 1 rfl sz4 rfl rfl (by rw [Nat.ble_eq, List.length_cons, cellsT_length]; omega) fun w12 H => ?_
  have hset : List.take (xl * 121 + a * 11 + b + 1) (.slice X ws.length cx :: cellsT s2.1) ++ (Value.bool true).cells.toList ++ List.drop (xl * 121 + a * 11 + b + 1 + 1) (.slice X ws.length cx :: cellsT s2.1) = .slice X ws.length cx :: cellsT (s2.1.put xl a b) := by
    rw [show (Value.bool true).cells.toList = [.bool true] from rfl, take_put_drop (by rw [List.length_cons, cellsT_length]; omega)]
    exact cellsT_put hxn (by omega) (by omega)
  rw [hset] at H
  rw [i64_of (n := (b : Int) + 1) (by omega) (by omega)]
  refine hN5 _ _ hlb ⟨by omega, hlb, rfl, ?_, ?_⟩
  · rw [hstep, hstepT, hc0, hft]
    rfl
  · rw [hstep, hstepT, hc0, hft]
    exact H
end Go.Proofs.Ytegcjkhebecgbaa

/- Contracts of what PumpWord reaches, third part. -/
set_option linter.unusedVariables false
set_option linter.unusedSimpArgs false
set_option maxRecDepth 100000
namespace Go.Sh
open Go
end Go.Sh
namespace Go.Proofs.Ytegcjkhebecgbaa
open Go Go.Sh Go.RowKit

end Go.Proofs.Ytegcjkhebecgbaa

/- The law of PumpWord, over its contracts. -/
set_option linter.unusedVariables false
set_option linter.unusedSimpArgs false
set_option maxRecDepth 100000
namespace Go.Proofs.Ytegcjkhebecgbaa
open Go Go.Sh Go.RowKit

end Go.Proofs.Ytegcjkhebecgbaa

/- Contracts: words of tokens, by the reference and by the program; what can be pumped at given places. -/
set_option linter.unusedVariables false
set_option linter.unusedSimpArgs false
set_option maxRecDepth 100000
namespace Go.Sh
open Go
def wordB (toks : Int) (ws : List Int) : Bool := decide (ws.length ≤ 10) && allB ws 0 (toks - 1)
end Go.Sh
namespace Go.Proofs.Ytegcjkhebecgbaa
open Go Go.Sh Go.RowKit

theorem isWord1_c {x toks : Int} {w : World} {b t : Nat} (hB : Box w b [.int .i64 toks] t) (h1 : 1 ≤ toks) (h4 : toks ≤ 4) {k : Value → World → Prop} (hk : k (.bool (!inB x 0 (toks - 1))) w) : CallK Try.prog 251 [.int .i64 x, ptrv b] k w := by
  refine enter251 ?_
  unfold S251
  rw [ldB3 hB rfl]
  simp only [go_sem, Nat.reduceEqDiff]
  rw [i64_of (by omega) (by omega)]
  refine in_c ?_
  simp only [go_sem, Nat.reduceEqDiff]
  exact hk
theorem isWord_c {w : World} {X : Option Addr} {n cx : Nat} {toks : Int} {ws : List Int} (hX : Ints w X ws) (hn : n = ws.length) (h1 : 1 ≤ toks) (h4 : toks ≤ 4) {k : Value → World → Prop} (hk : ∀ w', Gr w w' → k (.bool (wordB toks ws)) w') :
    CallK Try.prog 150 [.int .i64 toks, .slice X n cx] k w := by
  subst hn
  refine enter150 ?_
  unfold S150
  have H := Apt.nil w
  refine boxH H fun b1 w1 H => ?_
  simp only [go_sem, Nat.reduceEqDiff]
  unfold wordB at hk
  by_cases hl : ws.length ≤ 10
  case neg =>
    simp only [show ¬ ((ws.length : Int) ≤ 10) from by omega, decide_false, go_sem, Nat.reduceEqDiff]
    simpa only [hl, decide_false, Bool.false_and] using hk _ H.gr
  simp only [show ((ws.length : Int) ≤ 10) from by omega, decide_true, go_sem, Nat.reduceEqDiff]
  have hb : Box w1 b1 [.int .i64 toks] 3 := H.box 0 rfl
  have hp : Pred 4 (.func (.func 251) [].toArray [ptrv b1].toArray) (fun x => !inB x 0 (toks - 1)) w1 := fun w3 g3 x k hk =>
    callVc (isWord1_c (hb.gr g3) h1 h4 (hk w3 (Gr.refl w3)))
  refine containsFunc_c (hX.gr H.gr) hp fun w3 g3 => ?_
  have H := H.step g3
  simp only [go_sem, Nat.reduceEqDiff]
  have := hk _ H.gr
  simp only [hl, decide_true, Bool.true_and] at this
  rwa [show allB ws 0 (toks - 1) = !ws.any (fun x => !inB x 0 (toks - 1)) from by simp [allB, List.not_any_eq_all_not]] at this
end Go.Proofs.Ytegcjkhebecgbaa

/- Contracts: PumpOf and PathIn of the program. -/
set_option linter.unusedVariables false
set_option linter.unusedSimpArgs false
set_option maxRecDepth 100000
namespace Go.Sh
open Go
theorem Apt.emptySS {w0 w : World} {L : List Thing} (H : Apt w0 w L) (i : Nat) {e1 e2 c : Nat} {X : Option Addr} (ps : Nat → Option Addr × Nat) (hi : L[i]? = some (rwi e1 1 X 0 c [])) : Apt w0 w (L.set i (Sh.lssi e1 e2 X c [] ps)) := by
  have hr := H.row i hi
  have o : OwnSS e1 e2 w w0.heap.size X c [] ps := ⟨⟨[], hr, fun j hj => by simp at hj⟩, fun j hj => by simp at hj, fun i j hi => by simp at hi⟩
  refine H.set hi (Gx.refl _ w) (fun q hq => ?_) (fun q hq => (o.foot hq).2) (lssi_kept o)
  rcases hq with hq | ⟨l, hl, _⟩
  · exact .inl hq
  · simp at hl
end Go.Sh
namespace Go.Proofs.Ytegcjkhebecgbaa
open Go Go.Sh Go.RowKit

end Go.Proofs.Ytegcjkhebecgbaa

/- Bg: bodies of functions as terms of the frame calculus, printed by shgen.py of this repository. -/
set_option linter.unusedVariables false
set_option maxRecDepth 100000
namespace Go.Proofs.Ytegcjkhebecgbaa
open Go Go.Sh

/-! loop.example/g00758/spec.CountByLong -/
def pl81 : Plans := fun _ => ⟨false, [], .nil⟩
def S81 (v0 v1 : Value) (k : Value → World → Prop) (w : World) : Prop :=
 Do Try.prog (sBox 26 v0) (fun t1 w2 =>
 Rd Try.prog (WS.at w2) (sLoad 26 t1) fun t3 =>
 CallK Try.prog 24 [t3, v1] (fun t4 w5 =>
 Rd Try.prog (WS.at w5) (sExtract t4 0) fun t6 =>
 Rd Try.prog (WS.at w5) (sExtract t4 1) fun t7 =>
 Rd Try.prog (WS.at w5) (sUn .not t7) fun t8 =>
 CondK t8
  (k (.tuple #[(.slice none 0 0), (.bool false)]) w5)
  (Rd Try.prog (WS.at w5) (sBin .add 3 true v1 (.int .i64 1)) fun t9 =>
  Do Try.prog (sMakeSlice 27 t9 t9) (fun t10 w11 =>
  Rd Try.prog (WS.at w11) (sBuiltin .len #[35] 3 [false] [t6]) fun t12 =>
  LoopF [25, 26, 27, 10, 28, 29, 30, 31, 32, 33, 34, 35, 24] (fun Q13 f14 w15 =>
   Rd Try.prog (WS.at w15) (sBin .lss 3 false (f14 24) (f14 23)) fun t16 =>
   CondK t16
    (Rd Try.prog (WS.at w15) (sIndexAddr 35 (f14 22) (f14 24)) fun t17 =>
    Rd Try.prog (WS.at w15) (sLoad 27 t17) fun t18 =>
    Rd Try.prog (WS.at w15) (sBuiltin .len #[27] 3 [false] [t18]) fun t19 =>
    Rd Try.prog (WS.at w15) (sIndexAddr 27 (f14 8) t19) fun t20 =>
    Rd Try.prog (WS.at w15) (sLoad 3 t20) fun t21 =>
    Rd Try.prog (WS.at w15) (sBin .add 3 true t21 (.int .i64 1)) fun t22 =>
    Rd Try.prog (WS.at w15) (sIndexAddr 27 (f14 8) t19) fun t23 =>
    Do Try.prog (sStore 3 t23 t22) (fun _ w24 =>
    Rd Try.prog (WS.at w24) (sBin .add 3 true (f14 24) (.int .i64 1)) fun t25 =>
    Q13 .normal (F.upd (F.upd (F.upd (F.upd (F.upd (F.upd (F.upd (F.upd (F.upd (F.upd (F.upd (F.upd (F.upd f14 25 t16) 26 t17) 27 t18) 10 t18) 28 (f14 8)) 29 t18) 30 t19) 31 t20) 32 t21) 33 t22) 34 t23) 35 t25) 24 t25) w24) w15)
    (Q13 (.exit 0) (F.upd f14 25 t16) w15))
   (blockQ 0 (seqQ (fun f26 w27 =>
  k (.tuple #[(f26 8), (.bool true)]) w27) (bodyQ Try.prog [.tmp 4, .tmp 5] k)))
   (F.upd (F.upd (F.upd (F.upd (F.upd (F.upd (F.upd (F.upd (F.upd (F.upd (F.upd (F.upd (F.upd (F.upd (F.upd (F.upd (F.upd (F.upd (F.upd (F.upd (initF [v0, v1]) 2 t1) 4 (.slice none 0 0)) 5 (.bool false)) 12 t3) 13 v1) 14 t4) 11 t4) 15 t6) 16 t7) 6 t6) 7 t7) 17 t7) 18 t8) 19 v1) 20 t9) 21 t10) 8 t10) 22 t6) 23 t12) 24 (.int .i64 0)) w11) w5)) w2) w
theorem body81 : Try.f81.body = some (bodyOf Try.f81) := by kernel_rfl
theorem same81 (v0 v1 : Value) (k : Value → World → Prop) (w : World) : wpF Try.prog pl81 (bodyOf Try.f81) (bodyQ Try.prog Try.f81.results.toList k) (initF [v0, v1]) w = S81 v0 v1 k w := by kernel_rfl
theorem enter81 {v0 v1 : Value} {k : Value → World → Prop} {w : World} (h : S81 v0 v1 k w) : CallK Try.prog 81 [v0, v1] k w :=
  call_of_wpF (pl := pl81) mixed Try.func81 body81 (by kernel_rfl) (of_decide_eq_true (by kernel_rfl)) (by kernel_rfl) (by kernel_rfl) (Eq.mpr (same81 v0 v1 k w) h)

/-! loop.example/g00758/impl.CountByLong -/
def pl80 : Plans := fun _ => ⟨false, [], .nil⟩
def S80 (v0 v1 : Value) (k : Value → World → Prop) (w : World) : Prop :=
 Do Try.prog (sBox 26 v0) (fun t1 w2 =>
 Rd Try.prog (WS.at w2) (sLoad 26 t1) fun t3 =>
 CallK Try.prog 23 [t3, v1] (fun t4 w5 =>
 Rd Try.prog (WS.at w5) (sExtract t4 0) fun t6 =>
 Rd Try.prog (WS.at w5) (sExtract t4 1) fun t7 =>
 Rd Try.prog (WS.at w5) (sUn .not t7) fun t8 =>
 CondK t8
  (k (.tuple #[(.slice none 0 0), (.bool false)]) w5)
  (Rd Try.prog (WS.at w5) (sBin .add 3 true v1 (.int .i64 1)) fun t9 =>
  Do Try.prog (sMakeSlice 27 t9 t9) (fun t10 w11 =>
  Rd Try.prog (WS.at w11) (sBuiltin .len #[35] 3 [false] [t6]) fun t12 =>
  LoopF [25, 26, 27, 10, 28, 29, 30, 31, 32, 33, 34, 35, 24] (fun Q13 f14 w15 =>
   Rd Try.prog (WS.at w15) (sBin .lss 3 false (f14 24) (f14 23)) fun t16 =>
   CondK t16
    (Rd Try.prog (WS.at w15) (sIndexAddr 35 (f14 22) (f14 24)) fun t17 =>
    Rd Try.prog (WS.at w15) (sLoad 27 t17) fun t18 =>
    Rd Try.prog (WS.at w15) (sBuiltin .len #[27] 3 [false] [t18]) fun t19 =>
    Rd Try.prog (WS.at w15) (sIndexAddr 27 (f14 8) t19) fun t20 =>
    Rd Try.prog (WS.at w15) (sLoad 3 t20) fun t21 =>
    Rd Try.prog (WS.at w15) (sBin .add 3 true t21 (.int .i64 1)) fun t22 =>
    Rd Try.prog (WS.at w15) (sIndexAddr 27 (f14 8) t19) fun t23 =>
    Do Try.prog (sStore 3 t23 t22) (fun _ w24 =>
    Rd Try.prog (WS.at w24) (sBin .add 3 true (f14 24) (.int .i64 1)) fun t25 =>
    Q13 .normal (F.upd (F.upd (F.upd (F.upd (F.upd (F.upd (F.upd (F.upd (F.upd (F.upd (F.upd (F.upd (F.upd f14 25 t16) 26 t17) 27 t18) 10 t18) 28 (f14 8)) 29 t18) 30 t19) 31 t20) 32 t21) 33 t22) 34 t23) 35 t25) 24 t25) w24) w15)
    (Q13 (.exit 0) (F.upd f14 25 t16) w15))
   (blockQ 0 (seqQ (fun f26 w27 =>
  k (.tuple #[(f26 8), (.bool true)]) w27) (bodyQ Try.prog [.tmp 4, .tmp 5] k)))
   (F.upd (F.upd (F.upd (F.upd (F.upd (F.upd (F.upd (F.upd (F.upd (F.upd (F.upd (F.upd (F.upd (F.upd (F.upd (F.upd (F.upd (F.upd (F.upd (F.upd (initF [v0, v1]) 2 t1) 4 (.slice none 0 0)) 5 (.bool false)) 12 t3) 13 v1) 14 t4) 11 t4) 15 t6) 16 t7) 6 t6) 7 t7) 17 t7) 18 t8) 19 v1) 20 t9) 21 t10) 8 t10) 22 t6) 23 t12) 24 (.int .i64 0)) w11) w5)) w2) w
theorem body80 : Try.f80.body = some (bodyOf Try.f80) := by kernel_rfl
theorem same80 (v0 v1 : Value) (k : Value → World → Prop) (w : World) : wpF Try.prog pl80 (bodyOf Try.f80) (bodyQ Try.prog Try.f80.results.toList k) (initF [v0, v1]) w = S80 v0 v1 k w := by kernel_rfl
theorem enter80 {v0 v1 : Value} {k : Value → World → Prop} {w : World} (h : S80 v0 v1 k w) : CallK Try.prog 80 [v0, v1] k w :=
  call_of_wpF (pl := pl80) mixed Try.func80 body80 (by kernel_rfl) (of_decide_eq_true (by kernel_rfl)) (by kernel_rfl) (by kernel_rfl) (Eq.mpr (same80 v0 v1 k w) h)

/-! loop.example/g00758/spec.SameUpTo -/
def pl76 : Plans := fun _ => ⟨false, [], .nil⟩
def S76 (v0 v1 v2 : Value) (k : Value → World → Prop) (w : World) : Prop :=
 Do Try.prog (sBox 26 v0) (fun t1 w2 =>
 Do Try.prog (sBox 26 v1) (fun t3 w4 =>
 Rd Try.prog (WS.at w4) (sLoad 26 t1) fun t5 =>
 CallK Try.prog 24 [t5, v2] (fun t6 w7 =>
 Rd Try.prog (WS.at w7) (sExtract t6 0) fun t8 =>
 Rd Try.prog (WS.at w7) (sExtract t6 1) fun t9 =>
 Rd Try.prog (WS.at w7) (sLoad 26 t3) fun t10 =>
 CallK Try.prog 24 [t10, v2] (fun t11 w12 =>
 Rd Try.prog (WS.at w12) (sExtract t11 0) fun t13 =>
 Rd Try.prog (WS.at w12) (sExtract t11 1) fun t14 =>
 Rd Try.prog (WS.at w12) (sUn .not t9) fun t15 =>
 GuardK t15 false (fun k w' => k t14 w') (fun t16 w17 =>
 GuardK t15 false (fun k w' => Rd Try.prog (WS.at w17) (sUn .not t16) fun v => k v w') (fun t18 w19 =>
 Rd Try.prog (WS.at w19) (sPick t15 (.bool true) t18) fun t20 =>
 GuardK t20 false (fun k w' => Rd Try.prog (WS.at w19) (sLoad 26 t1) fun v => k v w') (fun t21 w22 =>
 GuardK t20 false (fun k w' => Rd Try.prog (WS.at w22) (sLoad 26 t3) fun v => k v w') (fun t23 w24 =>
 GuardK t20 false (fun k w' => CallK Try.prog 170 [t21, t23] k w') (fun t25 w26 =>
 GuardK t20 false (fun k w' => Rd Try.prog (WS.at w26) (sUn .not t25) fun v => k v w') (fun t27 w28 =>
 Rd Try.prog (WS.at w28) (sPick t20 (.bool true) t27) fun t29 =>
 CondK t29
  (k (.tuple #[(.bool false), (.bool false)]) w28)
  (CallK Try.prog 198 [t8, t13] (fun t30 w31 =>
  Rd Try.prog (WS.at w31) (sExtract t30 0) fun t32 =>
  Rd Try.prog (WS.at w31) (sExtract t30 1) fun t33 =>
  Rd Try.prog (WS.at w31) (sUn .not t33) fun t34 =>
  k (.tuple #[t34, (.bool true)]) w31) w28)) w26) w24) w22) w19) w17) w12) w7) w4) w2) w
theorem body76 : Try.f76.body = some (bodyOf Try.f76) := by kernel_rfl
theorem same76 (v0 v1 v2 : Value) (k : Value → World → Prop) (w : World) : wpF Try.prog pl76 (bodyOf Try.f76) (bodyQ Try.prog Try.f76.results.toList k) (initF [v0, v1, v2]) w = S76 v0 v1 v2 k w := by kernel_rfl
theorem enter76 {v0 v1 v2 : Value} {k : Value → World → Prop} {w : World} (h : S76 v0 v1 v2 k w) : CallK Try.prog 76 [v0, v1, v2] k w :=
  call_of_wpF (pl := pl76) mixed Try.func76 body76 (by kernel_rfl) (of_decide_eq_true (by kernel_rfl)) (by kernel_rfl) (by kernel_rfl) (Eq.mpr (same76 v0 v1 v2 k w) h)

/-! loop.example/g00758/impl.SameUpTo -/
def pl75 : Plans := fun _ => ⟨false, [], .nil⟩
def S75 (v0 v1 v2 : Value) (k : Value → World → Prop) (w : World) : Prop :=
 Do Try.prog (sBox 26 v0) (fun t1 w2 =>
 Do Try.prog (sBox 26 v1) (fun t3 w4 =>
 Rd Try.prog (WS.at w4) (sLoad 26 t1) fun t5 =>
 CallK Try.prog 23 [t5, v2] (fun t6 w7 =>
 Rd Try.prog (WS.at w7) (sExtract t6 0) fun t8 =>
 Rd Try.prog (WS.at w7) (sExtract t6 1) fun t9 =>
 Rd Try.prog (WS.at w7) (sLoad 26 t3) fun t10 =>
 CallK Try.prog 23 [t10, v2] (fun t11 w12 =>
 Rd Try.prog (WS.at w12) (sExtract t11 0) fun t13 =>
 Rd Try.prog (WS.at w12) (sExtract t11 1) fun t14 =>
 Rd Try.prog (WS.at w12) (sUn .not t9) fun t15 =>
 GuardK t15 false (fun k w' => k t14 w') (fun t16 w17 =>
 GuardK t15 false (fun k w' => Rd Try.prog (WS.at w17) (sUn .not t16) fun v => k v w') (fun t18 w19 =>
 Rd Try.prog (WS.at w19) (sPick t15 (.bool true) t18) fun t20 =>
 GuardK t20 false (fun k w' => Rd Try.prog (WS.at w19) (sFieldAddr 26 t1 1) fun v => k v w') (fun t21 w22 =>
 GuardK t20 false (fun k w' => Rd Try.prog (WS.at w22) (sLoad 3 t21) fun v => k v w') (fun t23 w24 =>
 GuardK t20 false (fun k w' => Rd Try.prog (WS.at w24) (sFieldAddr 26 t3 1) fun v => k v w') (fun t25 w26 =>
 GuardK t20 false (fun k w' => Rd Try.prog (WS.at w26) (sLoad 3 t25) fun v => k v w') (fun t27 w28 =>
 GuardK t20 false (fun k w' => Rd Try.prog (WS.at w28) (sBin .neq 3 false t23 t27) fun v => k v w') (fun t29 w30 =>
 Rd Try.prog (WS.at w30) (sPick t20 (.bool true) t29) fun t31 =>
 CondK t31
  (k (.tuple #[(.bool false), (.bool false)]) w30)
  (CallK Try.prog 196 [t8, t13, (.func (.func 197) #[] #[])] (fun t32 w33 =>
  k (.tuple #[t32, (.bool true)]) w33) w30)) w28) w26) w24) w22) w19) w17) w12) w7) w4) w2) w
theorem body75 : Try.f75.body = some (bodyOf Try.f75) := by kernel_rfl
theorem same75 (v0 v1 v2 : Value) (k : Value → World → Prop) (w : World) : wpF Try.prog pl75 (bodyOf Try.f75) (bodyQ Try.prog Try.f75.results.toList k) (initF [v0, v1, v2]) w = S75 v0 v1 v2 k w := by kernel_rfl
theorem enter75 {v0 v1 v2 : Value} {k : Value → World → Prop} {w : World} (h : S75 v0 v1 v2 k w) : CallK Try.prog 75 [v0, v1, v2] k w :=
  call_of_wpF (pl := pl75) mixed Try.func75 body75 (by kernel_rfl) (of_decide_eq_true (by kernel_rfl)) (by kernel_rfl) (by kernel_rfl) (Eq.mpr (same75 v0 v1 v2 k w) h)

/-! loop.example/g00758/spec.NearWord -/
/-! loop.example/g00758/impl.NearWord -/
/-! loop.example/g00758/spec.FirstUnlike -/
def pl78 : Plans := fun _ => ⟨false, [], .nil⟩
def S78 (v0 v1 v2 : Value) (k : Value → World → Prop) (w : World) : Prop :=
 Do Try.prog (sBox 26 v0) (fun t1 w2 =>
 Do Try.prog (sBox 26 v1) (fun t3 w4 =>
 Rd Try.prog (WS.at w4) (sLoad 26 t1) fun t5 =>
 CallK Try.prog 24 [t5, v2] (fun t6 w7 =>
 Rd Try.prog (WS.at w7) (sExtract t6 0) fun t8 =>
 Rd Try.prog (WS.at w7) (sExtract t6 1) fun t9 =>
 Rd Try.prog (WS.at w7) (sLoad 26 t3) fun t10 =>
 CallK Try.prog 24 [t10, v2] (fun t11 w12 =>
 Rd Try.prog (WS.at w12) (sExtract t11 0) fun t13 =>
 Rd Try.prog (WS.at w12) (sExtract t11 1) fun t14 =>
 Rd Try.prog (WS.at w12) (sUn .not t9) fun t15 =>
 GuardK t15 false (fun k w' => k t14 w') (fun t16 w17 =>
 GuardK t15 false (fun k w' => Rd Try.prog (WS.at w17) (sUn .not t16) fun v => k v w') (fun t18 w19 =>
 Rd Try.prog (WS.at w19) (sPick t15 (.bool true) t18) fun t20 =>
 GuardK t20 false (fun k w' => Rd Try.prog (WS.at w19) (sLoad 26 t1) fun v => k v w') (fun t21 w22 =>
 GuardK t20 false (fun k w' => Rd Try.prog (WS.at w22) (sLoad 26 t3) fun v => k v w') (fun t23 w24 =>
 GuardK t20 false (fun k w' => CallK Try.prog 170 [t21, t23] k w') (fun t25 w26 =>
 GuardK t20 false (fun k w' => Rd Try.prog (WS.at w26) (sUn .not t25) fun v => k v w') (fun t27 w28 =>
 Rd Try.prog (WS.at w28) (sPick t20 (.bool true) t27) fun t29 =>
 CondK t29
  (k (.tuple #[(.slice none 0 0), (.bool false)]) w28)
  (CallK Try.prog 198 [t8, t13] (fun t30 w31 =>
  Rd Try.prog (WS.at w31) (sExtract t30 0) fun t32 =>
  Rd Try.prog (WS.at w31) (sExtract t30 1) fun t33 =>
  k (.tuple #[t32, t33]) w31) w28)) w26) w24) w22) w19) w17) w12) w7) w4) w2) w
theorem body78 : Try.f78.body = some (bodyOf Try.f78) := by kernel_rfl
theorem same78 (v0 v1 v2 : Value) (k : Value → World → Prop) (w : World) : wpF Try.prog pl78 (bodyOf Try.f78) (bodyQ Try.prog Try.f78.results.toList k) (initF [v0, v1, v2]) w = S78 v0 v1 v2 k w := by kernel_rfl
theorem enter78 {v0 v1 v2 : Value} {k : Value → World → Prop} {w : World} (h : S78 v0 v1 v2 k w) : CallK Try.prog 78 [v0, v1, v2] k w :=
  call_of_wpF (pl := pl78) mixed Try.func78 body78 (by kernel_rfl) (of_decide_eq_true (by kernel_rfl)) (by kernel_rfl) (by kernel_rfl) (Eq.mpr (same78 v0 v1 v2 k w) h)

/-! loop.example/g00758/impl.FirstUnlike -/
def pl77 : Plans := fun i => match i with
  | 7 => ⟨false, [14], .step 0 .any (.step 1 .any (.step 2 .any (.step 3 .any (.step 4 .any (.step 5 .any (.step 6 .any (.step 7 .any (.step 8 .any (.step 9 .any (.step 10 .held (.step 11 .any (.step 12 .any (.step 13 .held (.step 14 .last (.step 15 .any (.step 16 .any (.step 17 .any (.step 18 .any (.nil)))))))))))))))))))⟩
  | 9 => ⟨false, [10], .step 0 .any (.step 1 .any (.step 2 .any (.step 3 .any (.step 4 .any (.step 5 .any (.step 6 .held (.step 7 .any (.step 8 .any (.step 9 .held (.step 10 .last (.step 11 .any (.step 12 .any (.step 13 .any (.nil))))))))))))))⟩
  | _ => ⟨false, [], .nil⟩
def S77 (v0 v1 v2 : Value) (k : Value → World → Prop) (w : World) : Prop :=
 Do Try.prog (sBox 26 v0) (fun t1 w2 =>
 Do Try.prog (sBox 26 v1) (fun t3 w4 =>
 Rd Try.prog (WS.at w4) (sLoad 26 t1) fun t5 =>
 CallK Try.prog 23 [t5, v2] (fun t6 w7 =>
 Rd Try.prog (WS.at w7) (sExtract t6 0) fun t8 =>
 Rd Try.prog (WS.at w7) (sExtract t6 1) fun t9 =>
 Rd Try.prog (WS.at w7) (sLoad 26 t3) fun t10 =>
 CallK Try.prog 23 [t10, v2] (fun t11 w12 =>
 Rd Try.prog (WS.at w12) (sExtract t11 0) fun t13 =>
 Rd Try.prog (WS.at w12) (sExtract t11 1) fun t14 =>
 Rd Try.prog (WS.at w12) (sUn .not t9) fun t15 =>
 GuardK t15 false (fun k w' => k t14 w') (fun t16 w17 =>
 GuardK t15 false (fun k w' => Rd Try.prog (WS.at w17) (sUn .not t16) fun v => k v w') (fun t18 w19 =>
 Rd Try.prog (WS.at w19) (sPick t15 (.bool true) t18) fun t20 =>
 GuardK t20 false (fun k w' => Rd Try.prog (WS.at w19) (sFieldAddr 26 t1 1) fun v => k v w') (fun t21 w22 =>
 GuardK t20 false (fun k w' => Rd Try.prog (WS.at w22) (sLoad 3 t21) fun v => k v w') (fun t23 w24 =>
 GuardK t20 false (fun k w' => Rd Try.prog (WS.at w24) (sFieldAddr 26 t3 1) fun v => k v w') (fun t25 w26 =>
 GuardK t20 false (fun k w' => Rd Try.prog (WS.at w26) (sLoad 3 t25) fun v => k v w') (fun t27 w28 =>
 GuardK t20 false (fun k w' => Rd Try.prog (WS.at w28) (sBin .neq 3 false t23 t27) fun v => k v w') (fun t29 w30 =>
 Rd Try.prog (WS.at w30) (sPick t20 (.bool true) t29) fun t31 =>
 CondK t31
  (k (.tuple #[(.slice none 0 0), (.bool false)]) w30)
  (LoopF [38, 39, 40, 41, 42, 43, 44, 45, 37, 6, 7, 47, 48, 49, 50, 51, 52, 53, 54, 55, 56, 57, 58, 59, 60, 61, 62, 63, 64, 46, 65, 66, 67, 6, 7, 69, 70, 71, 72, 73, 74, 75, 76, 77, 78, 79, 80, 81, 68, 82, 83, 84, 6, 7, 85, 86, 8, 87, 88, 10] (fun Q32 f33 w34 =>
   Rd Try.prog (WS.at w34) (sBuiltin .len #[35] 3 [false] [(f33 8)]) fun t35 =>
   Rd Try.prog (WS.at w34) (sBin .eql 3 true t35 (.int .i64 0)) fun t36 =>
   GuardK t36 true (fun k w' => k (f33 10) w') (fun t37 w38 =>
   GuardK t36 true (fun k w' => Rd Try.prog (WS.at w38) (sBuiltin .len #[35] 3 [false] [t37]) fun v => k v w') (fun t39 w40 =>
   GuardK t36 true (fun k w' => Rd Try.prog (WS.at w40) (sBin .eql 3 true t39 (.int .i64 0)) fun v => k v w') (fun t41 w42 =>
   Rd Try.prog (WS.at w42) (sPick t36 t41 (.bool false)) fun t43 =>
   CondK t43
    (Q32 .ret (F.upd (F.upd (F.upd (F.upd (F.upd (F.upd (F.upd (F.upd (F.upd (F.upd (F.upd f33 38 (f33 8)) 39 t35) 40 t36) 41 t36) 42 t37) 43 t39) 44 t41) 45 t43) 37 t43) 6 (.slice none 0 0)) 7 (.bool false)) w42)
    (Rd Try.prog WS.any (sBuiltin .len #[35] 3 [false] [(f33 10)]) fun t44 =>
    Rd Try.prog WS.any (sBin .eql 3 true t44 (.int .i64 0)) fun t45 =>
    GuardK t45 false (fun k w' => k (f33 8) w') (fun t46 w47 =>
    GuardK t45 false (fun k w' => Rd Try.prog WS.any (sBuiltin .len #[35] 3 [false] [t46]) fun v => k v w') (fun t48 w49 =>
    GuardK t45 false (fun k w' => Rd Try.prog WS.any (sBin .gtr 3 true t48 (.int .i64 0)) fun v => k v w') (fun t50 w51 =>
    GuardK t45 false (fun k w' => k t50 w') (fun t52 w53 =>
    GuardK t52 true (fun k w' => k (f33 8) w') (fun t54 w55 =>
    GuardK t52 true (fun k w' => Rd Try.prog WS.any (sIndexAddr 35 t54 (.int .i64 0)) fun v => k v w') (fun t56 w57 =>
    GuardK t52 true (fun k w' => Rd Try.prog (WS.at w42.drew) (sLoad 27 t56) fun v => k v w') (fun t58 w59 =>
    GuardK t52 true (fun k w' => k (f33 10) w') (fun t60 w61 =>
    GuardK t52 true (fun k w' => Rd Try.prog WS.any (sIndexAddr 35 t60 (.int .i64 0)) fun v => k v w') (fun t62 w63 =>
    GuardK t52 true (fun k w' => Rd Try.prog (WS.at w42.drew) (sLoad 27 t62) fun v => k v w') (fun t64 w65 =>
    GuardK t52 true (fun k w' => CallK Try.prog 199 [t58, t64] k w') (fun t66 w67 =>
    GuardK t52 true (fun k w' => Rd Try.prog WS.any (sBin .lss 3 true t66 (.int .i64 0)) fun v => k v w') (fun t68 w69 =>
    GuardK t45 false (fun k w' => Rd Try.prog WS.any (sPick t52 t68 (.bool false)) fun v => k v w') (fun t70 w71 =>
    Rd Try.prog WS.any (sPick t45 (.bool true) t70) fun t72 =>
    CondK t72
     (Rd Try.prog (WS.at w71) (sIndexAddr 35 (f33 8) (.int .i64 0)) fun t73 =>
     Rd Try.prog (WS.at w71) (sLoad 27 t73) fun t74 =>
     Q32 .ret (F.upd (F.upd (F.upd (F.upd (F.upd (F.upd (F.upd (F.upd (F.upd (F.upd (F.upd (F.upd (F.upd (F.upd (F.upd (F.upd (F.upd (F.upd (F.upd (F.upd (F.upd (F.upd (F.upd (F.upd (F.upd (F.upd (F.upd (F.upd (F.upd (F.upd (F.upd (F.upd (F.upd f33 38 (f33 8)) 39 t35) 40 t36) 41 t36) 42 t37) 43 t39) 44 t41) 45 t43) 37 t43) 47 (f33 10)) 48 t44) 49 t45) 50 t45) 51 t46) 52 t48) 53 t50) 54 t52) 55 t54) 56 t56) 57 t58) 58 t60) 59 t62) 60 t64) 61 t66) 62 t68) 63 t70) 64 t72) 46 t72) 65 (f33 8)) 66 t73) 67 t74) 6 t74) 7 (.bool true)) w71)
     (Rd Try.prog WS.any (sBuiltin .len #[35] 3 [false] [(f33 8)]) fun t75 =>
     Rd Try.prog WS.any (sBin .eql 3 true t75 (.int .i64 0)) fun t76 =>
     GuardK t76 false (fun k w' => k (f33 8) w') (fun t77 w78 =>
     GuardK t76 false (fun k w' => Rd Try.prog WS.any (sIndexAddr 35 t77 (.int .i64 0)) fun v => k v w') (fun t79 w80 =>
     GuardK t76 false (fun k w' => Rd Try.prog (WS.at w71.drew) (sLoad 27 t79) fun v => k v w') (fun t81 w82 =>
     GuardK t76 false (fun k w' => k (f33 10) w') (fun t83 w84 =>
     GuardK t76 false (fun k w' => Rd Try.prog WS.any (sIndexAddr 35 t83 (.int .i64 0)) fun v => k v w') (fun t85 w86 =>
     GuardK t76 false (fun k w' => Rd Try.prog (WS.at w71.drew) (sLoad 27 t85) fun v => k v w') (fun t87 w88 =>
     GuardK t76 false (fun k w' => CallK Try.prog 199 [t81, t87] k w') (fun t89 w90 =>
     GuardK t76 false (fun k w' => Rd Try.prog WS.any (sBin .gtr 3 true t89 (.int .i64 0)) fun v => k v w') (fun t91 w92 =>
     Rd Try.prog WS.any (sPick t76 (.bool true) t91) fun t93 =>
     CondK t93
      (Rd Try.prog (WS.at w92) (sIndexAddr 35 (f33 10) (.int .i64 0)) fun t94 =>
      Rd Try.prog (WS.at w92) (sLoad 27 t94) fun t95 =>
      Q32 .ret (F.upd (F.upd (F.upd (F.upd (F.upd (F.upd (F.upd (F.upd (F.upd (F.upd (F.upd (F.upd (F.upd (F.upd (F.upd (F.upd (F.upd (F.upd (F.upd (F.upd (F.upd (F.upd (F.upd (F.upd (F.upd (F.upd (F.upd (F.upd (F.upd (F.upd (F.upd (F.upd (F.upd (F.upd (F.upd (F.upd (F.upd (F.upd (F.upd (F.upd (F.upd (F.upd (F.upd (F.upd (F.upd (F.upd (F.upd f33 38 (f33 8)) 39 t35) 40 t36) 41 t36) 42 t37) 43 t39) 44 t41) 45 t43) 37 t43) 47 (f33 10)) 48 t44) 49 t45) 50 t45) 51 t46) 52 t48) 53 t50) 54 t52) 55 t54) 56 t56) 57 t58) 58 t60) 59 t62) 60 t64) 61 t66) 62 t68) 63 t70) 64 t72) 46 t72) 69 (f33 8)) 70 t75) 71 t76) 72 t76) 73 t77) 74 t79) 75 t81) 76 t83) 77 t85) 78 t87) 79 t89) 80 t91) 81 t93) 68 t93) 82 (f33 10)) 83 t94) 84 t95) 6 t95) 7 (.bool true)) w92)
      (Rd Try.prog (WS.at w92) (sSlice 35 (f33 8) (some (.int .i64 1)) none none) fun t96 =>
      Rd Try.prog (WS.at w92) (sSlice 35 (f33 10) (some (.int .i64 1)) none none) fun t97 =>
      Q32 .normal (F.upd (F.upd (F.upd (F.upd (F.upd (F.upd (F.upd (F.upd (F.upd (F.upd (F.upd (F.upd (F.upd (F.upd (F.upd (F.upd (F.upd (F.upd (F.upd (F.upd (F.upd (F.upd (F.upd (F.upd (F.upd (F.upd (F.upd (F.upd (F.upd (F.upd (F.upd (F.upd (F.upd (F.upd (F.upd (F.upd (F.upd (F.upd (F.upd (F.upd (F.upd (F.upd (F.upd (F.upd (F.upd (F.upd (F.upd (F.upd f33 38 (f33 8)) 39 t35) 40 t36) 41 t36) 42 t37) 43 t39) 44 t41) 45 t43) 37 t43) 47 (f33 10)) 48 t44) 49 t45) 50 t45) 51 t46) 52 t48) 53 t50) 54 t52) 55 t54) 56 t56) 57 t58) 58 t60) 59 t62) 60 t64) 61 t66) 62 t68) 63 t70) 64 t72) 46 t72) 69 (f33 8)) 70 t75) 71 t76) 72 t76) 73 t77) 74 t79) 75 t81) 76 t83) 77 t85) 78 t87) 79 t89) 80 t91) 81 t93) 68 t93) 85 (f33 8)) 86 t96) 8 t96) 87 (f33 10)) 88 t97) 10 t97) w92)) w90) w88) w86) w84) w82) w80) w78) w71.drew)) w69) w67) w65) w63) w61) w59) w57) w55) w53) w51) w49) w47) w42.drew)) w40) w38) w34)
   (blockQ 0 (bodyQ Try.prog [.tmp 6, .tmp 7] k))
   (F.upd (F.upd (F.upd (F.upd (F.upd (F.upd (F.upd (F.upd (F.upd (F.upd (F.upd (F.upd (F.upd (F.upd (F.upd (F.upd (F.upd (F.upd (F.upd (F.upd (F.upd (F.upd (F.upd (F.upd (F.upd (F.upd (F.upd (F.upd (F.upd (F.upd (F.upd (F.upd (F.upd (initF [v0, v1, v2]) 3 t1) 4 t3) 6 (.slice none 0 0)) 7 (.bool false)) 13 t5) 14 v2) 15 t6) 12 t6) 16 t8) 17 t9) 8 t8) 9 t9) 19 t10) 20 v2) 21 t11) 18 t11) 22 t13) 23 t14) 10 t13) 11 t14) 24 t9) 25 t15) 26 t15) 27 t16) 28 t18) 29 t20) 30 t20) 31 t21) 32 t23) 33 t25) 34 t27) 35 t29) 36 t31) w30)) w28) w26) w24) w22) w19) w17) w12) w7) w4) w2) w
theorem body77 : Try.f77.body = some (bodyOf Try.f77) := by kernel_rfl
theorem same77 (v0 v1 v2 : Value) (k : Value → World → Prop) (w : World) : wpF Try.prog pl77 (bodyOf Try.f77) (bodyQ Try.prog Try.f77.results.toList k) (initF [v0, v1, v2]) w = S77 v0 v1 v2 k w := by kernel_rfl
theorem enter77 {v0 v1 v2 : Value} {k : Value → World → Prop} {w : World} (h : S77 v0 v1 v2 k w) : CallK Try.prog 77 [v0, v1, v2] k w :=
  call_of_wpF (pl := pl77) mixed Try.func77 body77 (by kernel_rfl) (of_decide_eq_true (by kernel_rfl)) (by kernel_rfl) (by kernel_rfl) (Eq.mpr (same77 v0 v1 v2 k w) h)

/-! loop.example/g00758/spec.ShortWords -/
def pl24 : Plans := fun _ => ⟨false, [], .nil⟩
def S24 (v0 v1 : Value) (k : Value → World → Prop) (w : World) : Prop :=
 Do Try.prog (sBox 26 v0) (fun t1 w2 =>
 Rd Try.prog (WS.at w2) (sLoad 26 t1) fun t3 =>
 CallK Try.prog 127 [t3] (fun t4 w5 =>
 Rd Try.prog (WS.at w5) (sUn .not t4) fun t6 =>
 GuardK t6 false (fun k w' => k v1 w') (fun t7 w8 =>
 GuardK t6 false (fun k w' => CallK Try.prog 152 [t7, (.int .i64 0), (.int .i64 4)] k w') (fun t9 w10 =>
 GuardK t6 false (fun k w' => Rd Try.prog (WS.at w10) (sUn .not t9) fun v => k v w') (fun t11 w12 =>
 Rd Try.prog (WS.at w12) (sPick t6 (.bool true) t11) fun t13 =>
 CondK t13
  (k (.tuple #[(.slice none 0 0), (.bool false)]) w12)
  (Do Try.prog (sBuildSlice 35 1 [(0, (.slice none 0 0))]) (fun t14 w15 =>
  LoopF [22, 23, 24, 9, 27, 28, 29, 30, 31, 32, 11, 33, 34, 35, 36, 37, 38, 39, 40, 6, 12, 41, 42, 43, 44, 47, 48, 49, 50, 51, 52, 53, 54, 9, 45, 46, 12, 55, 29, 56, 7, 25, 26, 8] (fun Q16 f17 w18 =>
   Rd Try.prog (WS.at w18) (sBin .leq 3 false (f17 8) (f17 1)) fun t19 =>
   CondK t19
    (Rd Try.prog (WS.at w18) (sBuiltin .len #[35] 3 [false] [(f17 7)]) fun t20 =>
    LoopF [30, 31, 32, 11, 33, 34, 35, 36, 37, 38, 39, 40, 6, 12, 41, 42, 43, 44, 47, 48, 49, 50, 51, 52, 53, 54, 9, 45, 46, 12, 55, 29] (fun Q21 f22 w23 =>
     Rd Try.prog (WS.at w23) (sBin .lss 3 false (f22 29) (f22 28)) fun t24 =>
     CondK t24
      (Join (fun K25 =>
      Rd Try.prog (WS.at w23) (sIndexAddr 35 (f22 27) (f22 29)) fun t28 =>
      Rd Try.prog (WS.at w23) (sLoad 27 t28) fun t29 =>
      Join (fun K30 =>
      Rd Try.prog (WS.at w23) (sLoad 26 (f22 2)) fun t33 =>
      CallK Try.prog 153 [t33, (.int .i64 0), t29] (fun t34 w35 =>
      CondK t34
       (CallK Try.prog 158 [t29] (fun t36 w37 =>
       Do Try.prog (sBuildSlice 35 1 [(0, t36)]) (fun t38 w39 =>
       Do Try.prog (sBuiltin .append #[35, 35] 35 [false, false] [(f22 6), t38]) (fun t40 w41 =>
       K30 (F.upd (F.upd (F.upd (F.upd (F.upd (F.upd (F.upd (F.upd (F.upd (F.upd (F.upd (F.upd (F.upd f22 30 t24) 31 t28) 32 t29) 11 t29) 33 t33) 34 t29) 35 t34) 36 (f22 6)) 37 t29) 38 t36) 39 t38) 40 t40) 6 t40) w41) w39) w37) w35)
       (K30 (F.upd (F.upd (F.upd (F.upd (F.upd (F.upd (F.upd f22 30 t24) 31 t28) 32 t29) 11 t29) 33 t33) 34 t29) 35 t34) w35)) w23) (fun f31 w32 =>
      LoopF [41, 42, 43, 44, 47, 48, 49, 50, 51, 52, 53, 54, 9, 45, 46, 12] (fun Q42 f43 w44 =>
       Rd Try.prog (WS.at w44) (sFieldAddr 26 (f43 2) 1) fun t45 =>
       Rd Try.prog (WS.at w44) (sLoad 3 t45) fun t46 =>
       Rd Try.prog (WS.at w44) (sBin .lss 3 false (f43 12) t46) fun t47 =>
       CondK t47
        (CallK Try.prog 158 [(f43 11)] (fun t48 w49 =>
        Do Try.prog (sBuildSlice 27 1 [(0, (f43 12))]) (fun t50 w51 =>
        Do Try.prog (sBuiltin .append #[27, 27] 27 [false, false] [t48, t50]) (fun t52 w53 =>
        Do Try.prog (sBuildSlice 35 1 [(0, t52)]) (fun t54 w55 =>
        Do Try.prog (sBuiltin .append #[35, 35] 35 [false, false] [(f43 9), t54]) (fun t56 w57 =>
        Rd Try.prog (WS.at w57) (sBin .add 3 true (f43 12) (.int .i64 1)) fun t58 =>
        Q42 .normal (F.upd (F.upd (F.upd (F.upd (F.upd (F.upd (F.upd (F.upd (F.upd (F.upd (F.upd (F.upd (F.upd (F.upd (F.upd (F.upd f43 41 (f43 12)) 42 t45) 43 t46) 44 t47) 47 (f43 9)) 48 (f43 11)) 49 t48) 50 (f43 12)) 51 t50) 52 t52) 53 t54) 54 t56) 9 t56) 45 (f43 12)) 46 t58) 12 t58) w57) w55) w53) w51) w49) w44)
        (Q42 (.exit 4) (F.upd (F.upd (F.upd (F.upd f43 41 (f43 12)) 42 t45) 43 t46) 44 t47) w44))
       (blockQ 4 (blockQ 3 (seqQ K25 Q21)))
       (F.upd f31 12 (.int .i64 0)) w32)) (fun f26 w27 =>
      Rd Try.prog (WS.at w27) (sBin .add 3 true (f26 29) (.int .i64 1)) fun t61 =>
      Q21 .normal (F.upd (F.upd f26 55 t61) 29 t61) w27))
      (Q21 (.exit 2) (F.upd f22 30 t24) w23))
     (blockQ 2 (seqQ (fun f62 w63 =>
    Rd Try.prog (WS.at w63) (sBin .add 3 true (f62 8) (.int .i64 1)) fun t64 =>
    Q16 .normal (F.upd (F.upd (F.upd (F.upd (F.upd f62 56 (f62 9)) 7 (f62 9)) 25 (f62 8)) 26 t64) 8 t64) w63) (blockQ 1 (seqQ (fun f65 w66 =>
    Rd Try.prog (WS.at w66) (sBin .add 3 true (f65 8) (.int .i64 1)) fun t67 =>
    Q16 .normal (F.upd (F.upd (F.upd f65 25 (f65 8)) 26 t67) 8 t67) w66) Q16))))
     (F.upd (F.upd (F.upd (F.upd (F.upd (F.upd (F.upd f17 22 (f17 8)) 23 (f17 1)) 24 t19) 9 (.slice none 0 0)) 27 (f17 7)) 28 t20) 29 (.int .i64 0)) w18)
    (Q16 (.exit 0) (F.upd (F.upd (F.upd f17 22 (f17 8)) 23 (f17 1)) 24 t19) w18))
   (blockQ 0 (seqQ (fun f68 w69 =>
  k (.tuple #[(f68 6), (.bool true)]) w69) (bodyQ Try.prog [.tmp 4, .tmp 5] k)))
   (F.upd (F.upd (F.upd (F.upd (F.upd (F.upd (F.upd (F.upd (F.upd (F.upd (F.upd (F.upd (F.upd (F.upd (F.upd (initF [v0, v1]) 2 t1) 4 (.slice none 0 0)) 5 (.bool false)) 13 t3) 14 t4) 15 t6) 16 t6) 17 t7) 18 t9) 19 t11) 20 t13) 6 (.slice none 0 0)) 21 t14) 7 t14) 8 (.int .i64 0)) w15) w12)) w10) w8) w5) w2) w
theorem body24 : Try.f24.body = some (bodyOf Try.f24) := by kernel_rfl
theorem same24 (v0 v1 : Value) (k : Value → World → Prop) (w : World) : wpF Try.prog pl24 (bodyOf Try.f24) (bodyQ Try.prog Try.f24.results.toList k) (initF [v0, v1]) w = S24 v0 v1 k w := by kernel_rfl
theorem enter24 {v0 v1 : Value} {k : Value → World → Prop} {w : World} (h : S24 v0 v1 k w) : CallK Try.prog 24 [v0, v1] k w :=
  call_of_wpF (pl := pl24) mixed Try.func24 body24 (by kernel_rfl) (of_decide_eq_true (by kernel_rfl)) (by kernel_rfl) (by kernel_rfl) (Eq.mpr (same24 v0 v1 k w) h)

/-! loop.example/g00758/impl.ShortWords -/
def pl23 : Plans := fun _ => ⟨false, [], .nil⟩
def S23 (v0 v1 : Value) (k : Value → World → Prop) (w : World) : Prop :=
 Do Try.prog (sBox 26 v0) (fun t1 w2 =>
 Rd Try.prog (WS.at w2) (sLoad 26 t1) fun t3 =>
 CallK Try.prog 148 [t3] (fun t4 w5 =>
 Rd Try.prog (WS.at w5) (sUn .not t4) fun t6 =>
 GuardK t6 false (fun k w' => k v1 w') (fun t7 w8 =>
 GuardK t6 false (fun k w' => CallK Try.prog 149 [t7, (.int .i64 0), (.int .i64 4)] k w') (fun t9 w10 =>
 GuardK t6 false (fun k w' => Rd Try.prog (WS.at w10) (sUn .not t9) fun v => k v w') (fun t11 w12 =>
 Rd Try.prog (WS.at w12) (sPick t6 (.bool true) t11) fun t13 =>
 CondK t13
  (k (.tuple #[(.slice none 0 0), (.bool false)]) w12)
  (Do Try.prog (sBuildSlice 35 0 []) (fun t14 w15 =>
  Rd Try.prog (WS.at w15) (sBin .add 3 true v1 (.int .i64 1)) fun t16 =>
  LoopF [22, 23, 7, 24, 25, 26, 27, 28, 29, 30, 31, 32, 9, 33, 34, 35, 36, 37, 38, 39, 40, 41, 42, 43, 44, 45, 46, 6, 47, 29, 48, 21] (fun Q17 f18 w19 =>
   Rd Try.prog (WS.at w19) (sBin .lss 3 false (f18 21) (f18 20)) fun t20 =>
   CondK t20
    (Rd Try.prog (WS.at w19) (sFieldAddr 26 (f18 2) 1) fun t21 =>
    Rd Try.prog (WS.at w19) (sLoad 3 t21) fun t22 =>
    CallK Try.prog 157 [t22, (f18 21)] (fun t23 w24 =>
    Rd Try.prog (WS.at w24) (sBuiltin .len #[35] 3 [false] [t23]) fun t25 =>
    LoopF [30, 31, 32, 9, 33, 34, 35, 36, 37, 38, 39, 40, 41, 42, 43, 44, 45, 46, 6, 47, 29] (fun Q26 f27 w28 =>
     Rd Try.prog (WS.at w28) (sBin .lss 3 false (f27 29) (f27 28)) fun t29 =>
     CondK t29
      (Join (fun K30 =>
      Rd Try.prog (WS.at w28) (sIndexAddr 35 (f27 27) (f27 29)) fun t33 =>
      Rd Try.prog (WS.at w28) (sLoad 27 t33) fun t34 =>
      Rd Try.prog (WS.at w28) (sLoad 26 (f27 2)) fun t35 =>
      CallK Try.prog 151 [t35, t34] (fun t36 w37 =>
      Rd Try.prog (WS.at w37) (sNilCheck t36) fun t38 =>
      Rd Try.prog (WS.at w37) (sFieldAddr 124 t38 1) fun t39 =>
      Rd Try.prog (WS.at w37) (sIndexAddr 122 t39 (.int .i64 0)) fun t40 =>
      Rd Try.prog (WS.at w37) (sIndexAddr 121 t40 (.int .i64 0)) fun t41 =>
      Rd Try.prog (WS.at w37) (sIndexAddr 120 t41 (f27 7)) fun t42 =>
      Rd Try.prog (WS.at w37) (sLoad 4 t42) fun t43 =>
      CondK t43
       (Do Try.prog (sBuildSlice 35 1 [(0, t34)]) (fun t44 w45 =>
       Do Try.prog (sBuiltin .append #[35, 35] 35 [false, false] [(f27 6), t44]) (fun t46 w47 =>
       K30 (F.upd (F.upd (F.upd (F.upd (F.upd (F.upd (F.upd (F.upd (F.upd (F.upd (F.upd (F.upd (F.upd (F.upd (F.upd (F.upd (F.upd (F.upd (F.upd f27 30 t29) 31 t33) 32 t34) 9 t34) 33 t35) 34 t34) 35 t36) 36 (f27 7)) 37 t38) 38 t39) 39 t40) 40 t41) 41 t42) 42 t43) 43 (f27 6)) 44 t34) 45 t44) 46 t46) 6 t46) w47) w45) w37)
       (K30 (F.upd (F.upd (F.upd (F.upd (F.upd (F.upd (F.upd (F.upd (F.upd (F.upd (F.upd (F.upd (F.upd (F.upd f27 30 t29) 31 t33) 32 t34) 9 t34) 33 t35) 34 t34) 35 t36) 36 (f27 7)) 37 t38) 38 t39) 39 t40) 40 t41) 41 t42) 42 t43) w37)) w28) (fun f31 w32 =>
      Rd Try.prog (WS.at w32) (sBin .add 3 true (f31 29) (.int .i64 1)) fun t48 =>
      Q26 .normal (F.upd (F.upd f31 47 t48) 29 t48) w32))
      (Q26 (.exit 2) (F.upd f27 30 t29) w28))
     (blockQ 2 (blockQ 1 (seqQ (fun f49 w50 =>
    Rd Try.prog (WS.at w50) (sBin .add 3 true (f49 21) (.int .i64 1)) fun t51 =>
    Q17 .normal (F.upd (F.upd f49 48 t51) 21 t51) w50) Q17)))
     (F.upd (F.upd (F.upd (F.upd (F.upd (F.upd (F.upd (F.upd (F.upd f18 22 t20) 23 (f18 21)) 7 (f18 21)) 24 t21) 25 t22) 26 (f18 21)) 27 t23) 28 t25) 29 (.int .i64 0)) w24) w19)
    (Q17 (.exit 0) (F.upd f18 22 t20) w19))
   (blockQ 0 (seqQ (fun f52 w53 =>
  k (.tuple #[(f52 6), (.bool true)]) w53) (bodyQ Try.prog [.tmp 4, .tmp 5] k)))
   (F.upd (F.upd (F.upd (F.upd (F.upd (F.upd (F.upd (F.upd (F.upd (F.upd (F.upd (F.upd (F.upd (F.upd (F.upd (F.upd (initF [v0, v1]) 2 t1) 4 (.slice none 0 0)) 5 (.bool false)) 10 t3) 11 t4) 12 t6) 13 t6) 14 t7) 15 t9) 16 t11) 17 t13) 18 t14) 6 t14) 19 v1) 20 t16) 21 (.int .i64 0)) w15) w12)) w10) w8) w5) w2) w
theorem body23 : Try.f23.body = some (bodyOf Try.f23) := by kernel_rfl
theorem same23 (v0 v1 : Value) (k : Value → World → Prop) (w : World) : wpF Try.prog pl23 (bodyOf Try.f23) (bodyQ Try.prog Try.f23.results.toList k) (initF [v0, v1]) w = S23 v0 v1 k w := by kernel_rfl
theorem enter23 {v0 v1 : Value} {k : Value → World → Prop} {w : World} (h : S23 v0 v1 k w) : CallK Try.prog 23 [v0, v1] k w :=
  call_of_wpF (pl := pl23) mixed Try.func23 body23 (by kernel_rfl) (of_decide_eq_true (by kernel_rfl)) (by kernel_rfl) (by kernel_rfl) (Eq.mpr (same23 v0 v1 k w) h)

/-! loop.example/g00758/spec.l20Unlike -/
def pl198 : Plans := fun i => match i with
  | 3 => ⟨false, [18], .step 0 .any (.step 1 .any (.step 2 .any (.step 3 .any (.step 4 .any (.step 5 .any (.step 6 .any (.step 7 .any (.step 8 .any (.step 9 .any (.step 10 .any (.step 11 .any (.step 12 .any (.step 13 .held (.step 14 .any (.step 15 .any (.step 16 .any (.step 17 .held (.step 18 .last (.step 19 .any (.step 20 .any (.step 21 .any (.nil))))))))))))))))))))))⟩
  | 5 => ⟨false, [13], .step 0 .any (.step 1 .any (.step 2 .any (.step 3 .any (.step 4 .any (.step 5 .any (.step 6 .any (.step 7 .any (.step 8 .held (.step 9 .any (.step 10 .any (.step 11 .any (.step 12 .held (.step 13 .last (.step 14 .any (.step 15 .any (.nil))))))))))))))))⟩
  | _ => ⟨false, [], .nil⟩
def S198 (v0 v1 : Value) (k : Value → World → Prop) (w : World) : Prop :=
 LoopF [8, 9, 10, 11, 12, 13, 14, 15, 16, 17, 19, 20, 21, 22, 23, 24, 25, 26, 27, 28, 29, 30, 31, 32, 33, 34, 35, 36, 37, 38, 39, 18, 40, 41, 42, 43, 44, 4, 5, 46, 47, 48, 49, 50, 51, 52, 53, 54, 55, 56, 57, 58, 59, 60, 45, 61, 62, 63, 64, 65, 4, 5, 66, 67, 6, 68, 69, 7] (fun Q1 f2 w3 =>
  Rd Try.prog (WS.at w3) (sBuiltin .len #[35] 3 [false] [(f2 0)]) fun t4 =>
  Rd Try.prog (WS.at w3) (sBin .lss 3 false (f2 6) t4) fun t5 =>
  GuardK t5 false (fun k w' => k (f2 7) w') (fun t6 w7 =>
  GuardK t5 false (fun k w' => k (f2 1) w') (fun t8 w9 =>
  GuardK t5 false (fun k w' => Rd Try.prog (WS.at w9) (sBuiltin .len #[35] 3 [false] [t8]) fun v => k v w') (fun t10 w11 =>
  GuardK t5 false (fun k w' => Rd Try.prog (WS.at w11) (sBin .lss 3 false t6 t10) fun v => k v w') (fun t12 w13 =>
  Rd Try.prog (WS.at w13) (sPick t5 (.bool true) t12) fun t14 =>
  CondK t14
   (Rd Try.prog WS.any (sBuiltin .len #[35] 3 [false] [(f2 1)]) fun t15 =>
   Rd Try.prog WS.any (sBin .eql 3 false (f2 7) t15) fun t16 =>
   GuardK t16 false (fun k w' => k (f2 6) w') (fun t17 w18 =>
   GuardK t16 false (fun k w' => k (f2 0) w') (fun t19 w20 =>
   GuardK t16 false (fun k w' => Rd Try.prog WS.any (sBuiltin .len #[35] 3 [false] [t19]) fun v => k v w') (fun t21 w22 =>
   GuardK t16 false (fun k w' => Rd Try.prog WS.any (sBin .lss 3 false t17 t21) fun v => k v w') (fun t23 w24 =>
   GuardK t16 false (fun k w' => k t23 w') (fun t25 w26 =>
   GuardK t25 true (fun k w' => k (f2 0) w') (fun t27 w28 =>
   GuardK t25 true (fun k w' => k (f2 6) w') (fun t29 w30 =>
   GuardK t25 true (fun k w' => Rd Try.prog WS.any (sIndexAddr 35 t27 t29) fun v => k v w') (fun t31 w32 =>
   GuardK t25 true (fun k w' => Rd Try.prog (WS.at w13.drew) (sLoad 27 t31) fun v => k v w') (fun t33 w34 =>
   GuardK t25 true (fun k w' => k (f2 1) w') (fun t35 w36 =>
   GuardK t25 true (fun k w' => k (f2 7) w') (fun t37 w38 =>
   GuardK t25 true (fun k w' => Rd Try.prog WS.any (sIndexAddr 35 t35 t37) fun v => k v w') (fun t39 w40 =>
   GuardK t25 true (fun k w' => Rd Try.prog (WS.at w13.drew) (sLoad 27 t39) fun v => k v w') (fun t41 w42 =>
   GuardK t25 true (fun k w' => CallK Try.prog 278 [t33, t41] k w') (fun t43 w44 =>
   GuardK t16 false (fun k w' => Rd Try.prog WS.any (sPick t25 t43 (.bool false)) fun v => k v w') (fun t45 w46 =>
   Rd Try.prog WS.any (sPick t16 (.bool true) t45) fun t47 =>
   CondK t47
    (Rd Try.prog (WS.at w46) (sIndexAddr 35 (f2 0) (f2 6)) fun t48 =>
    Rd Try.prog (WS.at w46) (sLoad 27 t48) fun t49 =>
    CallK Try.prog 158 [t49] (fun t50 w51 =>
    Q1 .ret (F.upd (F.upd (F.upd (F.upd (F.upd (F.upd (F.upd (F.upd (F.upd (F.upd (F.upd (F.upd (F.upd (F.upd (F.upd (F.upd (F.upd (F.upd (F.upd (F.upd (F.upd (F.upd (F.upd (F.upd (F.upd (F.upd (F.upd (F.upd (F.upd (F.upd (F.upd (F.upd (F.upd (F.upd (F.upd (F.upd (F.upd (F.upd (F.upd f2 8 (f2 6)) 9 (f2 0)) 10 t4) 11 t5) 12 t5) 13 t6) 14 t8) 15 t10) 16 t12) 17 t14) 19 (f2 7)) 20 (f2 1)) 21 t15) 22 t16) 23 t16) 24 t17) 25 t19) 26 t21) 27 t23) 28 t25) 29 t27) 30 t29) 31 t31) 32 t33) 33 t35) 34 t37) 35 t39) 36 t41) 37 t43) 38 t45) 39 t47) 18 t47) 40 (f2 0)) 41 (f2 6)) 42 t48) 43 t49) 44 t50) 4 t50) 5 (.bool true)) w51) w46)
    (Rd Try.prog WS.any (sBuiltin .len #[35] 3 [false] [(f2 0)]) fun t52 =>
    Rd Try.prog WS.any (sBin .eql 3 false (f2 6) t52) fun t53 =>
    GuardK t53 false (fun k w' => k (f2 1) w') (fun t54 w55 =>
    GuardK t53 false (fun k w' => k (f2 7) w') (fun t56 w57 =>
    GuardK t53 false (fun k w' => Rd Try.prog WS.any (sIndexAddr 35 t54 t56) fun v => k v w') (fun t58 w59 =>
    GuardK t53 false (fun k w' => Rd Try.prog (WS.at w46.drew) (sLoad 27 t58) fun v => k v w') (fun t60 w61 =>
    GuardK t53 false (fun k w' => k (f2 0) w') (fun t62 w63 =>
    GuardK t53 false (fun k w' => k (f2 6) w') (fun t64 w65 =>
    GuardK t53 false (fun k w' => Rd Try.prog WS.any (sIndexAddr 35 t62 t64) fun v => k v w') (fun t66 w67 =>
    GuardK t53 false (fun k w' => Rd Try.prog (WS.at w46.drew) (sLoad 27 t66) fun v => k v w') (fun t68 w69 =>
    GuardK t53 false (fun k w' => CallK Try.prog 278 [t60, t68] k w') (fun t70 w71 =>
    Rd Try.prog WS.any (sPick t53 (.bool true) t70) fun t72 =>
    CondK t72
     (Rd Try.prog (WS.at w71) (sIndexAddr 35 (f2 1) (f2 7)) fun t73 =>
     Rd Try.prog (WS.at w71) (sLoad 27 t73) fun t74 =>
     CallK Try.prog 158 [t74] (fun t75 w76 =>
     Q1 .ret (F.upd (F.upd (F.upd (F.upd (F.upd (F.upd (F.upd (F.upd (F.upd (F.upd (F.upd (F.upd (F.upd (F.upd (F.upd (F.upd (F.upd (F.upd (F.upd (F.upd (F.upd (F.upd (F.upd (F.upd (F.upd (F.upd (F.upd (F.upd (F.upd (F.upd (F.upd (F.upd (F.upd (F.upd (F.upd (F.upd (F.upd (F.upd (F.upd (F.upd (F.upd (F.upd (F.upd (F.upd (F.upd (F.upd (F.upd (F.upd (F.upd (F.upd (F.upd (F.upd (F.upd (F.upd (F.upd f2 8 (f2 6)) 9 (f2 0)) 10 t4) 11 t5) 12 t5) 13 t6) 14 t8) 15 t10) 16 t12) 17 t14) 19 (f2 7)) 20 (f2 1)) 21 t15) 22 t16) 23 t16) 24 t17) 25 t19) 26 t21) 27 t23) 28 t25) 29 t27) 30 t29) 31 t31) 32 t33) 33 t35) 34 t37) 35 t39) 36 t41) 37 t43) 38 t45) 39 t47) 18 t47) 46 (f2 6)) 47 (f2 0)) 48 t52) 49 t53) 50 t53) 51 t54) 52 t56) 53 t58) 54 t60) 55 t62) 56 t64) 57 t66) 58 t68) 59 t70) 60 t72) 45 t72) 61 (f2 1)) 62 (f2 7)) 63 t73) 64 t74) 65 t75) 4 t75) 5 (.bool true)) w76) w71)
     (Rd Try.prog (WS.at w71) (sBin .add 3 true (f2 6) (.int .i64 1)) fun t77 =>
     Rd Try.prog (WS.at w71) (sBin .add 3 true (f2 7) (.int .i64 1)) fun t78 =>
     Q1 .normal (F.upd (F.upd (F.upd (F.upd (F.upd (F.upd (F.upd (F.upd (F.upd (F.upd (F.upd (F.upd (F.upd (F.upd (F.upd (F.upd (F.upd (F.upd (F.upd (F.upd (F.upd (F.upd (F.upd (F.upd (F.upd (F.upd (F.upd (F.upd (F.upd (F.upd (F.upd (F.upd (F.upd (F.upd (F.upd (F.upd (F.upd (F.upd (F.upd (F.upd (F.upd (F.upd (F.upd (F.upd (F.upd (F.upd (F.upd (F.upd (F.upd (F.upd (F.upd (F.upd (F.upd (F.upd f2 8 (f2 6)) 9 (f2 0)) 10 t4) 11 t5) 12 t5) 13 t6) 14 t8) 15 t10) 16 t12) 17 t14) 19 (f2 7)) 20 (f2 1)) 21 t15) 22 t16) 23 t16) 24 t17) 25 t19) 26 t21) 27 t23) 28 t25) 29 t27) 30 t29) 31 t31) 32 t33) 33 t35) 34 t37) 35 t39) 36 t41) 37 t43) 38 t45) 39 t47) 18 t47) 46 (f2 6)) 47 (f2 0)) 48 t52) 49 t53) 50 t53) 51 t54) 52 t56) 53 t58) 54 t60) 55 t62) 56 t64) 57 t66) 58 t68) 59 t70) 60 t72) 45 t72) 66 (f2 6)) 67 t77) 6 t77) 68 (f2 7)) 69 t78) 7 t78) w71)) w69) w67) w65) w63) w61) w59) w57) w55) w46.drew)) w44) w42) w40) w38) w36) w34) w32) w30) w28) w26) w24) w22) w20) w18) w13.drew)
   (Q1 (.exit 0) (F.upd (F.upd (F.upd (F.upd (F.upd (F.upd (F.upd (F.upd (F.upd (F.upd f2 8 (f2 6)) 9 (f2 0)) 10 t4) 11 t5) 12 t5) 13 t6) 14 t8) 15 t10) 16 t12) 17 t14) w13)) w11) w9) w7) w3)
  (blockQ 0 (seqQ (fun f79 w80 =>
 k (.tuple #[(.slice none 0 0), (.bool false)]) w80) (bodyQ Try.prog [.tmp 4, .tmp 5] k)))
  (F.upd (F.upd (F.upd (F.upd (initF [v0, v1]) 4 (.slice none 0 0)) 5 (.bool false)) 6 (.int .i64 0)) 7 (.int .i64 0)) w
theorem body198 : Try.f198.body = some (bodyOf Try.f198) := by kernel_rfl
theorem same198 (v0 v1 : Value) (k : Value → World → Prop) (w : World) : wpF Try.prog pl198 (bodyOf Try.f198) (bodyQ Try.prog Try.f198.results.toList k) (initF [v0, v1]) w = S198 v0 v1 k w := by kernel_rfl
theorem enter198 {v0 v1 : Value} {k : Value → World → Prop} {w : World} (h : S198 v0 v1 k w) : CallK Try.prog 198 [v0, v1] k w :=
  call_of_wpF (pl := pl198) mixed Try.func198 body198 (by kernel_rfl) (of_decide_eq_true (by kernel_rfl)) (by kernel_rfl) (by kernel_rfl) (Eq.mpr (same198 v0 v1 k w) h)

/-! slices.EqualFunc[[][]int,[][]int,[]int,[]int] -/
def pl196 : Plans := fun _ => ⟨false, [], .nil⟩
def S196 (v0 v1 v2 : Value) (k : Value → World → Prop) (w : World) : Prop :=
 Rd Try.prog (WS.at w) (sBuiltin .len #[35] 3 [false] [v0]) fun t1 =>
 Rd Try.prog (WS.at w) (sBuiltin .len #[35] 3 [false] [v1]) fun t2 =>
 Rd Try.prog (WS.at w) (sBin .neq 3 false t1 t2) fun t3 =>
 CondK t3
  (k (.bool false) w)
  (Rd Try.prog (WS.at w) (sBuiltin .len #[35] 3 [false] [v0]) fun t4 =>
  LoopF [18, 19, 20, 21, 7, 8, 22, 23, 24, 25, 9, 26, 27, 28, 29, 30, 6, 31, 17] (fun Q5 f6 w7 =>
   Rd Try.prog (WS.at w7) (sBin .lss 3 false (f6 17) (f6 16)) fun t8 =>
   CondK t8
    (Rd Try.prog (WS.at w7) (sIndexAddr 35 (f6 15) (f6 17)) fun t9 =>
    Rd Try.prog (WS.at w7) (sLoad 27 t9) fun t10 =>
    Rd Try.prog (WS.at w7) (sIndexAddr 35 (f6 1) (f6 17)) fun t11 =>
    Rd Try.prog (WS.at w7) (sLoad 27 t11) fun t12 =>
    Do Try.prog (sCallV (f6 2) [t10, t12] 4) (fun t13 w14 =>
    Rd Try.prog (WS.at w14) (sUn .not t13) fun t15 =>
    CondK t15
     (Q5 .ret (F.upd (F.upd (F.upd (F.upd (F.upd (F.upd (F.upd (F.upd (F.upd (F.upd (F.upd (F.upd (F.upd (F.upd (F.upd (F.upd (F.upd f6 18 t8) 19 (f6 17)) 20 t9) 21 t10) 7 (f6 17)) 8 t10) 22 (f6 1)) 23 (f6 17)) 24 t11) 25 t12) 9 t12) 26 (f6 2)) 27 t10) 28 t12) 29 t13) 30 t15) 6 (.bool false)) w14)
     (Rd Try.prog (WS.at w14) (sBin .add 3 true (f6 17) (.int .i64 1)) fun t16 =>
     Q5 .normal (F.upd (F.upd (F.upd (F.upd (F.upd (F.upd (F.upd (F.upd (F.upd (F.upd (F.upd (F.upd (F.upd (F.upd (F.upd (F.upd (F.upd (F.upd f6 18 t8) 19 (f6 17)) 20 t9) 21 t10) 7 (f6 17)) 8 t10) 22 (f6 1)) 23 (f6 17)) 24 t11) 25 t12) 9 t12) 26 (f6 2)) 27 t10) 28 t12) 29 t13) 30 t15) 31 t16) 17 t16) w14)) w7)
    (Q5 (.exit 0) (F.upd f6 18 t8) w7))
   (blockQ 0 (seqQ (fun f17 w18 =>
  k (.bool true) w18) (bodyQ Try.prog [.tmp 6] k)))
   (F.upd (F.upd (F.upd (F.upd (F.upd (F.upd (F.upd (F.upd (F.upd (initF [v0, v1, v2]) 6 (.bool false)) 10 v0) 11 t1) 12 v1) 13 t2) 14 t3) 15 v0) 16 t4) 17 (.int .i64 0)) w)
theorem body196 : Try.f196.body = some (bodyOf Try.f196) := by kernel_rfl
theorem same196 (v0 v1 v2 : Value) (k : Value → World → Prop) (w : World) : wpF Try.prog pl196 (bodyOf Try.f196) (bodyQ Try.prog Try.f196.results.toList k) (initF [v0, v1, v2]) w = S196 v0 v1 v2 k w := by kernel_rfl
theorem enter196 {v0 v1 v2 : Value} {k : Value → World → Prop} {w : World} (h : S196 v0 v1 v2 k w) : CallK Try.prog 196 [v0, v1, v2] k w :=
  call_of_wpF (pl := pl196) mixed Try.func196 body196 (by kernel_rfl) (of_decide_eq_true (by kernel_rfl)) (by kernel_rfl) (by kernel_rfl) (Eq.mpr (same196 v0 v1 v2 k w) h)

/-! loop.example/g00758/impl.SameUpTo$1 -/
def pl197 : Plans := fun _ => ⟨false, [], .nil⟩
def S197 (v0 v1 : Value) (k : Value → World → Prop) (w : World) : Prop :=
 CallK Try.prog 180 [v0, v1] (fun t1 w2 =>
 k t1 w2) w
theorem body197 : Try.f197.body = some (bodyOf Try.f197) := by kernel_rfl
theorem same197 (v0 v1 : Value) (k : Value → World → Prop) (w : World) : wpF Try.prog pl197 (bodyOf Try.f197) (bodyQ Try.prog Try.f197.results.toList k) (initF [v0, v1]) w = S197 v0 v1 k w := by kernel_rfl
theorem enter197 {v0 v1 : Value} {k : Value → World → Prop} {w : World} (h : S197 v0 v1 k w) : CallK Try.prog 197 [v0, v1] k w :=
  call_of_wpF (pl := pl197) mixed Try.func197 body197 (by kernel_rfl) (of_decide_eq_true (by kernel_rfl)) (by kernel_rfl) (by kernel_rfl) (Eq.mpr (same197 v0 v1 k w) h)

/-! loop.example/g00758/spec.l17Apart -/
/-! loop.example/g00758/impl.apart -/
/-! loop.example/g00758/impl.compareWords -/
def pl199 : Plans := fun _ => ⟨false, [], .nil⟩
def S199 (v0 v1 : Value) (k : Value → World → Prop) (w : World) : Prop :=
 Rd Try.prog (WS.at w) (sBuiltin .len #[27] 3 [false] [v0]) fun t1 =>
 Rd Try.prog (WS.at w) (sBuiltin .len #[27] 3 [false] [v1]) fun t2 =>
 CallK Try.prog 280 [t1, t2] (fun t3 w4 =>
 CallK Try.prog 281 [v0, v1] (fun t5 w6 =>
 Do Try.prog (sBuildSlice 27 2 [(0, t3), (1, t5)]) (fun t7 w8 =>
 CallK Try.prog 279 [t7] (fun t9 w10 =>
 k t9 w10) w8) w6) w4) w
theorem body199 : Try.f199.body = some (bodyOf Try.f199) := by kernel_rfl
theorem same199 (v0 v1 : Value) (k : Value → World → Prop) (w : World) : wpF Try.prog pl199 (bodyOf Try.f199) (bodyQ Try.prog Try.f199.results.toList k) (initF [v0, v1]) w = S199 v0 v1 k w := by kernel_rfl
theorem enter199 {v0 v1 : Value} {k : Value → World → Prop} {w : World} (h : S199 v0 v1 k w) : CallK Try.prog 199 [v0, v1] k w :=
  call_of_wpF (pl := pl199) mixed Try.func199 body199 (by kernel_rfl) (of_decide_eq_true (by kernel_rfl)) (by kernel_rfl) (by kernel_rfl) (Eq.mpr (same199 v0 v1 k w) h)

/-! loop.example/g00758/impl.wordsOf -/
def pl157 : Plans := fun _ => ⟨false, [], .nil⟩
def S157 (v0 v1 : Value) (k : Value → World → Prop) (w : World) : Prop :=
 Do Try.prog (sBuildSlice 27 0 []) (fun t1 w2 =>
 Do Try.prog (sBuildSlice 35 1 [(0, t1)]) (fun t3 w4 =>
 LoopF [14, 15, 6, 16, 17, 18, 19, 20, 21, 8, 22, 23, 24, 25, 9, 26, 27, 28, 29, 30, 31, 32, 33, 34, 6, 35, 23, 36, 18, 37, 5, 38, 13] (fun Q5 f6 w7 =>
  Rd Try.prog (WS.at w7) (sBin .lss 3 false (f6 13) (f6 12)) fun t8 =>
  CondK t8
   (Do Try.prog (sBuildSlice 35 0 []) (fun t9 w10 =>
   Rd Try.prog (WS.at w10) (sBuiltin .len #[35] 3 [false] [(f6 5)]) fun t11 =>
   LoopF [19, 20, 21, 8, 22, 23, 24, 25, 9, 26, 27, 28, 29, 30, 31, 32, 33, 34, 6, 35, 23, 36, 18] (fun Q12 f13 w14 =>
    Rd Try.prog (WS.at w14) (sBin .lss 3 false (f13 18) (f13 17)) fun t15 =>
    CondK t15
     (Rd Try.prog (WS.at w14) (sIndexAddr 35 (f13 16) (f13 18)) fun t16 =>
     Rd Try.prog (WS.at w14) (sLoad 27 t16) fun t17 =>
     LoopF [24, 25, 9, 26, 27, 28, 29, 30, 31, 32, 33, 34, 6, 35, 23] (fun Q18 f19 w20 =>
      Rd Try.prog (WS.at w20) (sBin .lss 3 false (f19 23) (f19 22)) fun t21 =>
      CondK t21
       (Do Try.prog (sBuildSlice 27 0 []) (fun t22 w23 =>
       Do Try.prog (sBuiltin .append #[27, 27] 27 [false, false] [t22, (f19 8)]) (fun t24 w25 =>
       Do Try.prog (sBuildSlice 27 1 [(0, (f19 23))]) (fun t26 w27 =>
       Do Try.prog (sBuiltin .append #[27, 27] 27 [false, false] [t24, t26]) (fun t28 w29 =>
       Do Try.prog (sBuildSlice 35 1 [(0, t28)]) (fun t30 w31 =>
       Do Try.prog (sBuiltin .append #[35, 35] 35 [false, false] [(f19 6), t30]) (fun t32 w33 =>
       Rd Try.prog (WS.at w33) (sBin .add 3 true (f19 23) (.int .i64 1)) fun t34 =>
       Q18 .normal (F.upd (F.upd (F.upd (F.upd (F.upd (F.upd (F.upd (F.upd (F.upd (F.upd (F.upd (F.upd (F.upd (F.upd (F.upd f19 24 t21) 25 (f19 23)) 9 (f19 23)) 26 (f19 6)) 27 t22) 28 (f19 8)) 29 t24) 30 (f19 23)) 31 t26) 32 t28) 33 t30) 34 t32) 6 t32) 35 t34) 23 t34) w33) w31) w29) w27) w25) w23) w20)
       (Q18 (.exit 4) (F.upd f19 24 t21) w20))
      (blockQ 4 (blockQ 3 (seqQ (fun f35 w36 =>
     Rd Try.prog (WS.at w36) (sBin .add 3 true (f35 18) (.int .i64 1)) fun t37 =>
     Q12 .normal (F.upd (F.upd f35 36 t37) 18 t37) w36) Q12)))
      (F.upd (F.upd (F.upd (F.upd (F.upd (F.upd f13 19 t15) 20 t16) 21 t17) 8 t17) 22 (f13 0)) 23 (.int .i64 0)) w14)
     (Q12 (.exit 2) (F.upd f13 19 t15) w14))
    (blockQ 2 (seqQ (fun f38 w39 =>
   Rd Try.prog (WS.at w39) (sBin .add 3 true (f38 13) (.int .i64 1)) fun t40 =>
   Q5 .normal (F.upd (F.upd (F.upd (F.upd f38 37 (f38 6)) 5 (f38 6)) 38 t40) 13 t40) w39) (blockQ 1 (seqQ (fun f41 w42 =>
   Rd Try.prog (WS.at w42) (sBin .add 3 true (f41 13) (.int .i64 1)) fun t43 =>
   Q5 .normal (F.upd (F.upd f41 38 t43) 13 t43) w42) Q5))))
    (F.upd (F.upd (F.upd (F.upd (F.upd (F.upd f6 14 t8) 15 t9) 6 t9) 16 (f6 5)) 17 t11) 18 (.int .i64 0)) w10) w7)
   (Q5 (.exit 0) (F.upd f6 14 t8) w7))
  (blockQ 0 (seqQ (fun f44 w45 =>
 k (f44 5) w45) (bodyQ Try.prog [.tmp 4] k)))
  (F.upd (F.upd (F.upd (F.upd (F.upd (F.upd (initF [v0, v1]) 4 (.slice none 0 0)) 10 t1) 11 t3) 5 t3) 12 v1) 13 (.int .i64 0)) w4) w2) w
theorem body157 : Try.f157.body = some (bodyOf Try.f157) := by kernel_rfl
theorem same157 (v0 v1 : Value) (k : Value → World → Prop) (w : World) : wpF Try.prog pl157 (bodyOf Try.f157) (bodyQ Try.prog Try.f157.results.toList k) (initF [v0, v1]) w = S157 v0 v1 k w := by kernel_rfl
theorem enter157 {v0 v1 : Value} {k : Value → World → Prop} {w : World} (h : S157 v0 v1 k w) : CallK Try.prog 157 [v0, v1] k w :=
  call_of_wpF (pl := pl157) mixed Try.func157 body157 (by kernel_rfl) (of_decide_eq_true (by kernel_rfl)) (by kernel_rfl) (by kernel_rfl) (Eq.mpr (same157 v0 v1 k w) h)

/-! loop.example/g00758/spec.l20Less -/
def pl278 : Plans := fun _ => ⟨false, [], .nil⟩
def S278 (v0 v1 : Value) (k : Value → World → Prop) (w : World) : Prop :=
 Rd Try.prog (WS.at w) (sBuiltin .len #[27] 3 [false] [v0]) fun t1 =>
 Rd Try.prog (WS.at w) (sBuiltin .len #[27] 3 [false] [v1]) fun t2 =>
 Rd Try.prog (WS.at w) (sBin .neq 3 false t1 t2) fun t3 =>
 CondK t3
  (Rd Try.prog (WS.at w) (sBuiltin .len #[27] 3 [false] [v0]) fun t4 =>
  Rd Try.prog (WS.at w) (sBuiltin .len #[27] 3 [false] [v1]) fun t5 =>
  Rd Try.prog (WS.at w) (sBin .lss 3 false t4 t5) fun t6 =>
  k t6 w)
  (CallK Try.prog 307 [v0, v1] (fun t7 w8 =>
  k t7 w8) w)
theorem body278 : Try.f278.body = some (bodyOf Try.f278) := by kernel_rfl
theorem same278 (v0 v1 : Value) (k : Value → World → Prop) (w : World) : wpF Try.prog pl278 (bodyOf Try.f278) (bodyQ Try.prog Try.f278.results.toList k) (initF [v0, v1]) w = S278 v0 v1 k w := by kernel_rfl
theorem enter278 {v0 v1 : Value} {k : Value → World → Prop} {w : World} (h : S278 v0 v1 k w) : CallK Try.prog 278 [v0, v1] k w :=
  call_of_wpF (pl := pl278) mixed Try.func278 body278 (by kernel_rfl) (of_decide_eq_true (by kernel_rfl)) (by kernel_rfl) (by kernel_rfl) (Eq.mpr (same278 v0 v1 k w) h)

/-! loop.example/g00758/spec.l1Least -/
/-! cmp.Or[int] -/
def pl279 : Plans := fun _ => ⟨false, [], .nil⟩
def S279 (v0 : Value) (k : Value → World → Prop) (w : World) : Prop :=
 Rd Try.prog (WS.at w) (sBuiltin .len #[27] 3 [false] [v0]) fun t1 =>
 LoopF [9, 10, 11, 5, 12, 13, 14, 15, 2, 16, 8] (fun Q2 f3 w4 =>
  Rd Try.prog (WS.at w4) (sBin .lss 3 false (f3 8) (f3 7)) fun t5 =>
  CondK t5
   (Rd Try.prog (WS.at w4) (sIndexAddr 27 (f3 6) (f3 8)) fun t6 =>
   Rd Try.prog (WS.at w4) (sLoad 3 t6) fun t7 =>
   Rd Try.prog (WS.at w4) (sBin .neq 3 false t7 (f3 3)) fun t8 =>
   CondK t8
    (Q2 .ret (F.upd (F.upd (F.upd (F.upd (F.upd (F.upd (F.upd (F.upd (F.upd f3 9 t5) 10 t6) 11 t7) 5 t7) 12 t7) 13 (f3 3)) 14 t8) 15 t7) 2 t7) w4)
    (Rd Try.prog (WS.at w4) (sBin .add 3 true (f3 8) (.int .i64 1)) fun t9 =>
    Q2 .normal (F.upd (F.upd (F.upd (F.upd (F.upd (F.upd (F.upd (F.upd (F.upd f3 9 t5) 10 t6) 11 t7) 5 t7) 12 t7) 13 (f3 3)) 14 t8) 16 t9) 8 t9) w4))
   (Q2 (.exit 0) (F.upd f3 9 t5) w4))
  (blockQ 0 (seqQ (fun f10 w11 =>
 k (f10 3) w11) (bodyQ Try.prog [.tmp 2] k)))
  (F.upd (F.upd (F.upd (F.upd (F.upd (initF [v0]) 2 (.int .i64 0)) 3 (.int .i64 0)) 6 v0) 7 t1) 8 (.int .i64 0)) w
theorem body279 : Try.f279.body = some (bodyOf Try.f279) := by kernel_rfl
theorem same279 (v0 : Value) (k : Value → World → Prop) (w : World) : wpF Try.prog pl279 (bodyOf Try.f279) (bodyQ Try.prog Try.f279.results.toList k) (initF [v0]) w = S279 v0 k w := by kernel_rfl
theorem enter279 {v0 : Value} {k : Value → World → Prop} {w : World} (h : S279 v0 k w) : CallK Try.prog 279 [v0] k w :=
  call_of_wpF (pl := pl279) mixed Try.func279 body279 (by kernel_rfl) (of_decide_eq_true (by kernel_rfl)) (by kernel_rfl) (by kernel_rfl) (Eq.mpr (same279 v0 k w) h)

/-! cmp.Compare[int] -/
def pl280 : Plans := fun _ => ⟨false, [], .nil⟩
def S280 (v0 v1 : Value) (k : Value → World → Prop) (w : World) : Prop :=
 CallK Try.prog 308 [v0] (fun t1 w2 =>
 CallK Try.prog 308 [v1] (fun t3 w4 =>
 CondK t1
  (CondK t3
   (k (.int .i64 0) w4)
   (k (.int .i64 (-1)) w4))
  (CondK t3
   (k (.int .i64 1) w4)
   (Rd Try.prog (WS.at w4) (sBin .lss 3 false v0 v1) fun t5 =>
   CondK t5
    (k (.int .i64 (-1)) w4)
    (Rd Try.prog (WS.at w4) (sBin .gtr 3 false v0 v1) fun t6 =>
    CondK t6
     (k (.int .i64 1) w4)
     (k (.int .i64 0) w4))))) w2) w
theorem body280 : Try.f280.body = some (bodyOf Try.f280) := by kernel_rfl
theorem same280 (v0 v1 : Value) (k : Value → World → Prop) (w : World) : wpF Try.prog pl280 (bodyOf Try.f280) (bodyQ Try.prog Try.f280.results.toList k) (initF [v0, v1]) w = S280 v0 v1 k w := by kernel_rfl
theorem enter280 {v0 v1 : Value} {k : Value → World → Prop} {w : World} (h : S280 v0 v1 k w) : CallK Try.prog 280 [v0, v1] k w :=
  call_of_wpF (pl := pl280) mixed Try.func280 body280 (by kernel_rfl) (of_decide_eq_true (by kernel_rfl)) (by kernel_rfl) (by kernel_rfl) (Eq.mpr (same280 v0 v1 k w) h)

/-! slices.Compare[[]int,int] -/
def pl281 : Plans := fun _ => ⟨false, [], .nil⟩
def S281 (v0 v1 : Value) (k : Value → World → Prop) (w : World) : Prop :=
 Rd Try.prog (WS.at w) (sBuiltin .len #[27] 3 [false] [v0]) fun t1 =>
 LoopF [12, 13, 14, 15, 5, 6, 16, 17, 18, 19, 4, 20, 21, 22, 23, 7, 24, 25, 26, 8, 27, 28, 29, 4, 30, 11] (fun Q2 f3 w4 =>
  Rd Try.prog (WS.at w4) (sBin .lss 3 false (f3 11) (f3 10)) fun t5 =>
  CondK t5
   (Rd Try.prog (WS.at w4) (sIndexAddr 27 (f3 9) (f3 11)) fun t6 =>
   Rd Try.prog (WS.at w4) (sLoad 3 t6) fun t7 =>
   Rd Try.prog (WS.at w4) (sBuiltin .len #[27] 3 [false] [(f3 1)]) fun t8 =>
   Rd Try.prog (WS.at w4) (sBin .geq 3 false (f3 11) t8) fun t9 =>
   CondK t9
    (Q2 .ret (F.upd (F.upd (F.upd (F.upd (F.upd (F.upd (F.upd (F.upd (F.upd (F.upd (F.upd f3 12 t5) 13 (f3 11)) 14 t6) 15 t7) 5 (f3 11)) 6 t7) 16 (f3 11)) 17 (f3 1)) 18 t8) 19 t9) 4 (.int .i64 1)) w4)
    (Rd Try.prog (WS.at w4) (sIndexAddr 27 (f3 1) (f3 11)) fun t10 =>
    Rd Try.prog (WS.at w4) (sLoad 3 t10) fun t11 =>
    CallK Try.prog 280 [t7, t11] (fun t12 w13 =>
    Rd Try.prog (WS.at w13) (sBin .neq 3 true t12 (.int .i64 0)) fun t14 =>
    CondK t14
     (Q2 .ret (F.upd (F.upd (F.upd (F.upd (F.upd (F.upd (F.upd (F.upd (F.upd (F.upd (F.upd (F.upd (F.upd (F.upd (F.upd (F.upd (F.upd (F.upd (F.upd (F.upd (F.upd (F.upd (F.upd f3 12 t5) 13 (f3 11)) 14 t6) 15 t7) 5 (f3 11)) 6 t7) 16 (f3 11)) 17 (f3 1)) 18 t8) 19 t9) 20 (f3 1)) 21 (f3 11)) 22 t10) 23 t11) 7 t11) 24 t7) 25 t11) 26 t12) 8 t12) 27 t12) 28 t14) 29 t12) 4 t12) w13)
     (Rd Try.prog (WS.at w13) (sBin .add 3 true (f3 11) (.int .i64 1)) fun t15 =>
     Q2 .normal (F.upd (F.upd (F.upd (F.upd (F.upd (F.upd (F.upd (F.upd (F.upd (F.upd (F.upd (F.upd (F.upd (F.upd (F.upd (F.upd (F.upd (F.upd (F.upd (F.upd (F.upd (F.upd (F.upd f3 12 t5) 13 (f3 11)) 14 t6) 15 t7) 5 (f3 11)) 6 t7) 16 (f3 11)) 17 (f3 1)) 18 t8) 19 t9) 20 (f3 1)) 21 (f3 11)) 22 t10) 23 t11) 7 t11) 24 t7) 25 t11) 26 t12) 8 t12) 27 t12) 28 t14) 30 t15) 11 t15) w13)) w4))
   (Q2 (.exit 0) (F.upd f3 12 t5) w4))
  (blockQ 0 (seqQ (fun f16 w17 =>
 Rd Try.prog (WS.at w17) (sBuiltin .len #[27] 3 [false] [(f16 0)]) fun t18 =>
 Rd Try.prog (WS.at w17) (sBuiltin .len #[27] 3 [false] [(f16 1)]) fun t19 =>
 Rd Try.prog (WS.at w17) (sBin .lss 3 false t18 t19) fun t20 =>
 CondK t20
  (k (.int .i64 (-1)) w17)
  (k (.int .i64 0) w17)) (bodyQ Try.prog [.tmp 4] k)))
  (F.upd (F.upd (F.upd (F.upd (initF [v0, v1]) 4 (.int .i64 0)) 9 v0) 10 t1) 11 (.int .i64 0)) w
theorem body281 : Try.f281.body = some (bodyOf Try.f281) := by kernel_rfl
theorem same281 (v0 v1 : Value) (k : Value → World → Prop) (w : World) : wpF Try.prog pl281 (bodyOf Try.f281) (bodyQ Try.prog Try.f281.results.toList k) (initF [v0, v1]) w = S281 v0 v1 k w := by kernel_rfl
theorem enter281 {v0 v1 : Value} {k : Value → World → Prop} {w : World} (h : S281 v0 v1 k w) : CallK Try.prog 281 [v0, v1] k w :=
  call_of_wpF (pl := pl281) mixed Try.func281 body281 (by kernel_rfl) (of_decide_eq_true (by kernel_rfl)) (by kernel_rfl) (by kernel_rfl) (Eq.mpr (same281 v0 v1 k w) h)

/-! loop.example/g00758/spec.l5Less -/
def pl307 : Plans := fun i => match i with
  | 4 => ⟨false, [], .step 0 .any (.step 1 .any (.step 2 .any (.step 3 .held (.step 4 .any (.step 5 .any (.step 6 .any (.step 7 .held (.step 8 .any (.nil)))))))))⟩
  | 5 => ⟨false, [], .step 0 .any (.step 1 .any (.step 2 .any (.step 3 .held (.step 4 .any (.step 5 .any (.step 6 .any (.step 7 .held (.step 8 .any (.step 9 .any (.nil))))))))))⟩
  | _ => ⟨false, [], .nil⟩
def S307 (v0 v1 : Value) (k : Value → World → Prop) (w : World) : Prop :=
 Rd Try.prog (WS.at w) (sBuiltin .len #[27] 3 [false] [v0]) fun t1 =>
 LoopF [9, 10, 5, 11, 12, 13, 14, 15, 16, 17, 18, 19, 20, 21, 22, 23, 24, 25, 26, 27, 28, 4, 29, 8] (fun Q2 f3 w4 =>
  Rd Try.prog (WS.at w4) (sBin .lss 3 false (f3 8) (f3 7)) fun t5 =>
  CondK t5
   (Rd Try.prog WS.any (sIndexAddr 27 (f3 0) (f3 8)) fun t6 =>
   Rd Try.prog (WS.at w4.drew) (sLoad 3 t6) fun t7 =>
   Rd Try.prog WS.any (sIndexAddr 27 (f3 1) (f3 8)) fun t8 =>
   Rd Try.prog (WS.at w4.drew) (sLoad 3 t8) fun t9 =>
   Rd Try.prog WS.any (sBin .neq 3 false t7 t9) fun t10 =>
   CondK t10
    (Rd Try.prog WS.any (sIndexAddr 27 (f3 0) (f3 8)) fun t11 =>
    Rd Try.prog (WS.at w4.drew.drew) (sLoad 3 t11) fun t12 =>
    Rd Try.prog WS.any (sIndexAddr 27 (f3 1) (f3 8)) fun t13 =>
    Rd Try.prog (WS.at w4.drew.drew) (sLoad 3 t13) fun t14 =>
    Rd Try.prog WS.any (sBin .lss 3 false t12 t14) fun t15 =>
    Q2 .ret (F.upd (F.upd (F.upd (F.upd (F.upd (F.upd (F.upd (F.upd (F.upd (F.upd (F.upd (F.upd (F.upd (F.upd (F.upd (F.upd (F.upd (F.upd (F.upd (F.upd (F.upd (F.upd f3 9 t5) 10 (f3 8)) 5 (f3 8)) 11 (f3 0)) 12 (f3 8)) 13 t6) 14 t7) 15 (f3 1)) 16 (f3 8)) 17 t8) 18 t9) 19 t10) 20 (f3 0)) 21 (f3 8)) 22 t11) 23 t12) 24 (f3 1)) 25 (f3 8)) 26 t13) 27 t14) 28 t15) 4 t15) w4.drew.drew)
    (Rd Try.prog (WS.at w4.drew) (sBin .add 3 true (f3 8) (.int .i64 1)) fun t16 =>
    Q2 .normal (F.upd (F.upd (F.upd (F.upd (F.upd (F.upd (F.upd (F.upd (F.upd (F.upd (F.upd (F.upd (F.upd (F.upd f3 9 t5) 10 (f3 8)) 5 (f3 8)) 11 (f3 0)) 12 (f3 8)) 13 t6) 14 t7) 15 (f3 1)) 16 (f3 8)) 17 t8) 18 t9) 19 t10) 29 t16) 8 t16) w4.drew))
   (Q2 (.exit 0) (F.upd f3 9 t5) w4))
  (blockQ 0 (seqQ (fun f17 w18 =>
 k (.bool false) w18) (bodyQ Try.prog [.tmp 4] k)))
  (F.upd (F.upd (F.upd (F.upd (initF [v0, v1]) 4 (.bool false)) 6 v0) 7 t1) 8 (.int .i64 0)) w
theorem body307 : Try.f307.body = some (bodyOf Try.f307) := by kernel_rfl
theorem same307 (v0 v1 : Value) (k : Value → World → Prop) (w : World) : wpF Try.prog pl307 (bodyOf Try.f307) (bodyQ Try.prog Try.f307.results.toList k) (initF [v0, v1]) w = S307 v0 v1 k w := by kernel_rfl
theorem enter307 {v0 v1 : Value} {k : Value → World → Prop} {w : World} (h : S307 v0 v1 k w) : CallK Try.prog 307 [v0, v1] k w :=
  call_of_wpF (pl := pl307) mixed Try.func307 body307 (by kernel_rfl) (of_decide_eq_true (by kernel_rfl)) (by kernel_rfl) (by kernel_rfl) (Eq.mpr (same307 v0 v1 k w) h)

/-! cmp.isNaN[int] -/
def pl308 : Plans := fun _ => ⟨false, [], .nil⟩
def S308 (v0 : Value) (k : Value → World → Prop) (w : World) : Prop :=
 Rd Try.prog (WS.at w) (sBin .neq 3 false v0 v0) fun t1 =>
 k t1 w
theorem body308 : Try.f308.body = some (bodyOf Try.f308) := by kernel_rfl
theorem same308 (v0 : Value) (k : Value → World → Prop) (w : World) : wpF Try.prog pl308 (bodyOf Try.f308) (bodyQ Try.prog Try.f308.results.toList k) (initF [v0]) w = S308 v0 k w := by kernel_rfl
theorem enter308 {v0 : Value} {k : Value → World → Prop} {w : World} (h : S308 v0 k w) : CallK Try.prog 308 [v0] k w :=
  call_of_wpF (pl := pl308) mixed Try.func308 body308 (by kernel_rfl) (of_decide_eq_true (by kernel_rfl)) (by kernel_rfl) (by kernel_rfl) (Eq.mpr (same308 v0 k w) h)

end Go.Proofs.Ytegcjkhebecgbaa

/- Contract: all short words of a language, by the reference. -/
set_option linter.unusedVariables false
set_option linter.unusedSimpArgs false
set_option maxRecDepth 100000
namespace Go.Sh
open Go
def extW (toks : Nat) (w : List Int) : List (List Int) := (List.range toks).map fun (t : Nat) => w ++ [(t : Int)]
def wordsN (toks : Nat) : Nat → List (List Int)
  | 0 => [[]]
  | n + 1 => (wordsN toks n).flatMap (extW toks)
noncomputable def shortW (gm : Gram) (n : Nat) : List (List Int) := (List.range n).flatMap fun m => (wordsN gm.toks.toNat m).filter (inL gm.rules)
noncomputable def shortV (gm : Gram) (most : Int) : List (List Int) × Bool := if (goodG gm && inB most 0 4) = true then (shortW gm (most.toNat + 1), true) else ([], false)
theorem flatMap_len {α β : Type} {f : α → List β} {k : Nat} : ∀ {l : List α}, (∀ a ∈ l, (f a).length = k) → (l.flatMap f).length = l.length * k := by
  intro l
  induction l with
  | nil => intro _; simp
  | cons a l ih =>
    intro h
    rw [List.flatMap_cons, List.length_append, h a (List.mem_cons_self ..), ih fun b hb => h b (List.mem_cons_of_mem _ hb), List.length_cons, Nat.succ_mul]
    omega
theorem wordsN_length (toks n : Nat) : (wordsN toks n).length = toks ^ n := by
  induction n with
  | zero => rfl
  | succ n ih =>
    rw [wordsN, flatMap_len (k := toks) (fun w _ => by simp [extW]), ih, Nat.pow_succ]
theorem wordsN_le {toks n : Nat} (ht : toks ≤ 4) (hn : n ≤ 5) : (wordsN toks n).length ≤ 1024 := by
  rw [wordsN_length]
  have h1 : toks ^ n ≤ 4 ^ n := Nat.pow_le_pow_left ht n
  have h2 : 4 ^ n ≤ 4 ^ 5 := Nat.pow_le_pow_right (by decide) hn
  have : (4 : Nat) ^ 5 = 1024 := rfl
  omega
theorem wordsN_mem {toks : Nat} : ∀ {n : Nat} {w : List Int}, w ∈ wordsN toks n → w.length = n ∧ ∀ t ∈ w, 0 ≤ t ∧ t < toks := by
  intro n
  induction n with
  | zero =>
    intro w h
    simp only [wordsN, List.mem_singleton] at h
    subst h
    exact ⟨rfl, fun t h => by simp at h⟩
  | succ n ih =>
    intro w h
    simp only [wordsN, List.mem_flatMap, extW, List.mem_map, List.mem_range] at h
    obtain ⟨v, hv, t, ht, rfl⟩ := h
    obtain ⟨h1, h2⟩ := ih hv
    refine ⟨by simp [h1], fun x hx => ?_⟩
    rcases List.mem_append.1 hx with hx | hx
    · exact h2 x hx
    · have : x = t := by simpa using hx
      subst this
      omega
theorem rgt_mem {ls : List (List Int)} {i : Nat} (h : i < ls.length) : rgt ls i ∈ ls := by
  rw [rgt_eq h]
  exact List.getElem_mem h
theorem filter_snoc (p : List Int → Bool) (ls : List (List Int)) (l : List Int) : (ls ++ [l]).filter p = ls.filter p ++ (if p l = true then [l] else []) := by
  rw [List.filter_append]
  congr 1
  cases h : p l <;> simp [h]
theorem filter_le (p : List Int → Bool) (ls : List (List Int)) : (ls.filter p).length ≤ ls.length := List.length_filter_le _ _
theorem shortW_succ (gm : Gram) (n : Nat) : shortW gm (n + 1) = shortW gm n ++ (wordsN gm.toks.toNat n).filter (inL gm.rules) := by
  unfold shortW
  rw [List.range_succ, List.flatMap_append]
  simp
theorem shortW_len {gm : Gram} (ht : gm.toks ≤ 4) : ∀ {n : Nat}, n ≤ 6 → (shortW gm n).length ≤ 1024 * n := by
  intro n
  induction n with
  | zero => intro _; simp [shortW]
  | succ n ih =>
    intro hn
    rw [shortW_succ, List.length_append]
    have h1 := ih (by omega)
    have h2 := filter_le (inL gm.rules) (wordsN gm.toks.toNat n)
    have h3 := wordsN_le (toks := gm.toks.toNat) (n := n) (by omega) (by omega)
    omega
theorem shortW_mem {gm : Gram} {n : Nat} {x : List Int} (h : x ∈ shortW gm n) : x.length < n ∧ ∀ t ∈ x, 0 ≤ t ∧ t < gm.toks.toNat := by
  unfold shortW at h
  rw [List.mem_flatMap] at h
  obtain ⟨m, hm, hx⟩ := h
  rw [List.mem_range] at hm
  have := wordsN_mem (List.mem_filter.1 hx).1
  exact ⟨by omega, this.2⟩
theorem extW_succ (toks : Nat) (w : List Int) : extW (toks + 1) w = extW toks w ++ [w ++ [(toks : Int)]] := by
  unfold extW
  rw [List.range_succ, List.map_append]
  rfl
theorem flatMap_snoc {α β : Type} (f : α → List β) (ls : List α) (l : α) : (ls ++ [l]).flatMap f = ls.flatMap f ++ f l := by
  rw [List.flatMap_append]
  simp
theorem flatMap_take_le {ls : List (List Int)} {k : Nat} (i : Nat) : ((ls.take i).flatMap (extW k)).length ≤ ls.length * k := by
  rw [flatMap_len (k := k) (fun w _ => by simp [extW]), List.length_take]
  exact Nat.mul_le_mul_right _ (Nat.min_le_right _ _)
end Go.Sh
namespace Go.Proofs.Ytegcjkhebecgbaa
open Go Go.Sh Go.RowKit

theorem specShortWords_c {F : Nat → Prop} {w : World} {v : Value} {gm : Gram} {most : Int} (hv : GramV F w v gm) {k : Value → World → Prop}
    (hk : ∀ w' U d ps, Gr w w' → OwnSS 27 3 w' w.heap.size U d (shortV gm most).1 ps → k (.tuple #[.slice U (shortV gm most).1.length d, .bool (shortV gm most).2]) w') :
    CallK Try.prog 24 [v, .int .i64 most] k w := by
  obtain ⟨Y, cy, rfl, hc, hy⟩ := hv
  refine enter24 ?_
  unfold S24
  have H := Apt.nil w
  refine boxH H fun b1 w1 H => ?_
  rw [ldB_agg agg26 sz26 rfl (H.box 0 rfl)]
  refine goodGrammar_c (gm := gm) ⟨Y, cy, rfl, hc, hy.gr H.gr⟩ fun w2 g2 => ?_
  have H := H.step g2
  unfold shortV at hk
  cases hg : goodG gm
  · simp only [Bool.not_false, go_sem, Nat.reduceEqDiff]
    rw [hg, Bool.false_and, if_neg Bool.false_ne_true] at hk
    exact hk _ none 0 (fun _ => (none, 0)) H.gr (OwnSS.nil _ _ _ _ _)
  simp only [Bool.not_true, go_sem, Nat.reduceEqDiff]
  refine l1In_c ?_
  rw [hg, Bool.true_and] at hk
  cases hm : inB most 0 4
  · simp only [Bool.not_false, go_sem, Nat.reduceEqDiff]
    rw [hm, if_neg Bool.false_ne_true] at hk
    exact hk _ none 0 (fun _ => (none, 0)) H.gr (OwnSS.nil _ _ _ _ _)
  rw [hm, if_pos rfl] at hk
  obtain ⟨most, rfl⟩ : ∃ m' : Nat, most = m' := by
    simp only [inB, Bool.and_eq_true, decide_eq_true_eq] at hm
    exact ⟨most.toNat, by omega⟩
  have hm4 : most ≤ 4 := by
    simp only [inB, Bool.and_eq_true, decide_eq_true_eq] at hm
    omega
  rw [Int.toNat_natCast] at hk
  dsimp only at hk
  have htk := good_toks hg
  obtain ⟨toks, htoks⟩ : ∃ t : Nat, gm.toks = t := ⟨gm.toks.toNat, by omega⟩
  have htn : gm.toks.toNat = toks := by omega
  simp only [Bool.not_true, go_sem, Nat.reduceEqDiff]
  refine buildH H u35 inf27 [.slice none 0 0] (by decide) (by decide) (by simp [Instr.fill, madeCells, Value.cells, rng1]) rfl fun b2 w3 H => ?_
  have H := (H.addNil 3 1).single (i := 1) (j := 2) (by decide) (e2 := 3) (ys := []) rfl rfl
  have H := ((H.addNil 27 1).emptySS 3 (e2 := 3) (fun _ => (none, 0)) rfl).erase 2
  simp only [List.nil_append, List.cons_append, List.set_cons_zero, List.set_cons_succ, List.eraseIdx_cons_zero, List.eraseIdx_cons_succ] at H
  refine loop_to (most + 1) 0 (fun n f w' => n ≤ most + 1 ∧ f 8 = .int .i64 n ∧ ∃ (U V : Option Addr) (d e : Nat) (ps qs : Nat → Option Addr × Nat), f 7 = .slice U (wordsN toks n).length d ∧ f 6 = .slice V (shortW gm n).length e ∧
      Apt w w' [bx b1 [.int .i64 gm.nons, .int .i64 gm.toks, .slice Y gm.rules.length cy] 26, lss U d (wordsN toks n) ps, lss V e (shortW gm n) qs])
    ⟨Nat.zero_le _, rfl, _, none, _, 0, _, _, rfl, rfl, H⟩ ?_
  rintro n f w4 N hag ⟨hn, h8, U, V, d, e, ps, qs, h7, h6, H⟩ hN
  have f1 : f 1 = .int .i64 most := hag 1 (by decide)
  have f2 : f 2 = ptrv b1 := hag 2 (by decide)
  simp only [f1, h8, h7, h6, go_sem, Nat.reduceEqDiff]
  by_cases hle : n ≤ most
  case neg =>
    simp only [show ¬ ((n : Int) ≤ most) from by omega, decide_false, go_sem, Nat.reduceEqDiff]
    obtain rfl : n = most + 1 := by omega
    exact hk _ V e qs H.gr (H.lssi 2 rfl)
  simp only [show ((n : Int) ≤ most) from by omega, decide_true, go_sem, Nat.reduceEqDiff]
  have hwl := wordsN_le (toks := toks) (n := n) (by omega) (by omega)
  have hwm := fun w => @wordsN_mem toks n w
  have hsl := shortW_len (gm := gm) htk.2 (n := n) (by omega)
  have hnext : wordsN toks (n + 1) = (wordsN toks n).flatMap (extW toks) := rfl
  have hshort := shortW_succ gm n
  rw [htn] at hshort
  generalize wordsN toks n = ls at *
  generalize shortW gm n = so at *
  have H := (H.addNil 27 1).emptySS 3 (e2 := 3) (fun _ => (none, 0)) rfl
  simp only [List.nil_append, List.cons_append, List.set_cons_zero, List.set_cons_succ] at H
  refine loop_to ls.length 0 (fun i f w' => i ≤ ls.length ∧ f 29 = .int .i64 i ∧ ∃ (V X : Option Addr) (e c : Nat) (qs rs : Nat → Option Addr × Nat), f 6 = .slice V (so ++ (ls.take i).filter (inL gm.rules)).length e ∧ f 9 = .slice X ((ls.take i).flatMap (extW toks)).length c ∧
      Apt w w' [bx b1 [.int .i64 gm.nons, .int .i64 gm.toks, .slice Y gm.rules.length cy] 26, lss U d ls ps, lss V e (so ++ (ls.take i).filter (inL gm.rules)) qs, lss X c ((ls.take i).flatMap (extW toks)) rs])
    ⟨Nat.zero_le _, rfl, V, none, e, 0, qs, _, by simp; exact h6, rfl, by simpa using H⟩ ?_
  rintro i g w5 N2 hag2 ⟨hi, h29, V, X, e, c, qs, rs, h6, h9, H⟩ hN2
  have g27 : g 27 = .slice U ls.length d := hag2 27 (by decide)
  have g28 : g 28 = .int .i64 ls.length := hag2 28 (by decide)
  have g2' : g 2 = ptrv b1 := (hag2 2 (by decide)).trans f2
  have g8 : g 8 = .int .i64 n := (hag2 8 (by decide)).trans h8
  simp only [g27, g28, g2', g8, h29, h6, h9, go_sem, Nat.reduceEqDiff]
  by_cases hlt : i < ls.length
  case neg =>
    simp only [show ¬ ((i : Int) < ls.length) from by omega, decide_false, go_sem, Nat.reduceEqDiff]
    rw [List.take_of_length_le (by omega)] at H h9 h6 ⊢
    rw [i64_of (by omega) (by omega)]
    refine hN _ _ (by omega) ⟨by omega, rfl, X, V, c, e, rs, qs, ?_, ?_, ?_⟩
    · rw [hnext]
      exact rfl
    · rw [hshort]
      exact h6
    · rw [hnext, hshort]
      exact ((H.erase 1).pick (L' := [_, _, _]) (fun i => [0, 2, 1].getD i 0) (fun i a ha => by
        match i, ha with
        | 0, ha => exact ha
        | 1, ha => exact ha
        | 2, ha => exact ha
        | i + 3, ha => simp at ha) (fun i j hi hj e => by
        simp only [List.length_cons, List.length_nil] at hi hj
        match i, j, hi, hj, e with
        | 0, 0, _, _, _ | 1, 1, _, _, _ | 2, 2, _, _, _ => rfl
        | 0, 1, _, _, e | 0, 2, _, _, e | 1, 0, _, _, e | 1, 2, _, _, e | 2, 0, _, _, e | 2, 1, _, _, e => exact absurd e (by decide)
        | i + 3, _, h, _, _ => omega
        | _, j + 3, _, h, _ => omega))
  simp only [show ((i : Int) < ls.length) from by omega, decide_true, go_sem, Nat.reduceEqDiff]
  have o := H.lssi 1 rfl
  have hm2 := hwm _ (rgt_mem hlt)
  have hwi := (o.own i hlt).ints
  have hfl := filter_le (inL gm.rules) (ls.take i)
  rw [List.length_take] at hfl
  have hflat := flatMap_take_le (ls := ls) (k := toks) i
  have hmul : ls.length * toks ≤ 1024 * 4 := Nat.mul_le_mul hwl (by omega)
  have hel : ∀ t, (extW t (rgt ls i)).length = t := fun t => by simp [extW]
  refine rdi (ixn35 (fun h => o.ptr h) hlt) ?_
  refine rdi (ld27 (o.cell hlt)) ?_
  refine rdi (ldB_agg agg26 sz26 rfl (H.box 0 rfl)) ?_
  refine l4In_c (gm := gm) ⟨Y, cy, rfl, hc, hy.gr H.gr⟩ hg hwi rfl (by omega) fun w6 g6 => ?_
  have H := H.step g6
  have o := H.lssi 1 rfl
  have hwi := (o.own i hlt).ints
  cases hin : inL gm.rules (rgt ls i)
  · simp only [go_sem, Nat.reduceEqDiff]
    have hso : so ++ (ls.take (i + 1)).filter (inL gm.rules) = so ++ (ls.take i).filter (inL gm.rules) := by
      rw [take_snoc_rgt hlt, filter_snoc, hin, if_neg Bool.false_ne_true, List.append_nil]
    rw [← hso] at H
    refine loop_to toks 0 (fun t f w' => t ≤ toks ∧ f 12 = .int .i64 t ∧ ∃ (X : Option Addr) (c : Nat) (rs : Nat → Option Addr × Nat), f 9 = .slice X ((ls.take i).flatMap (extW toks) ++ extW t (rgt ls i)).length c ∧
        Apt w w' [bx b1 [.int .i64 gm.nons, .int .i64 gm.toks, .slice Y gm.rules.length cy] 26, lss U d ls ps, lss V e (so ++ (ls.take (i + 1)).filter (inL gm.rules)) qs, lss X c ((ls.take i).flatMap (extW toks) ++ extW t (rgt ls i)) rs])
      ⟨Nat.zero_le _, rfl, X, c, rs, by simp only [extW, List.range_zero, List.map_nil, List.append_nil]; exact h9, by simpa only [extW, List.range_zero, List.map_nil, List.append_nil] using H⟩ ?_
    rintro t r w7 N3 hag3 ⟨ht, r12, X, c, rs, r9, H⟩ hN3
    have r2 : r 2 = ptrv b1 := (hag3 2 (by decide)).trans g2'
    have r11 : r 11 = .slice (ps i).1 (rgt ls i).length (ps i).2 := hag3 11 (by decide)
    have r6 : r 6 = .slice V (so ++ (ls.take (i + 1)).filter (inL gm.rules)).length e := by
      rw [hso]
      exact (hag3 6 (by decide)).trans h6
    have r29 : r 29 = .int .i64 i := (hag3 29 (by decide)).trans h29
    simp only [r2, r11, r12, r9, go_sem, Nat.reduceEqDiff]
    rw [ldB3 (H.box 0 rfl) rfl]
    simp only [go_sem, Nat.reduceEqDiff]
    by_cases hlt2 : t < toks
    case neg =>
      simp only [show ¬ ((t : Int) < gm.toks) from by omega, decide_false, r29, go_sem, Nat.reduceEqDiff]
      rw [i64_of (by omega) (by omega)]
      obtain rfl : t = toks := by omega
      refine hN2 _ _ hlt ⟨by omega, rfl, V, X, e, c, qs, rs, r6, ?_, ?_⟩
      · rw [take_snoc_rgt hlt, flatMap_snoc]
        exact r9
      · rw [show (ls.take (i + 1)).flatMap (extW t) = (ls.take i).flatMap (extW t) ++ extW t (rgt ls i) from by rw [take_snoc_rgt hlt, flatMap_snoc]]
        exact H
    simp only [show ((t : Int) < gm.toks) from by omega, decide_true, go_sem, Nat.reduceEqDiff]
    have o := H.lssi 1 rfl
    have hwi := (o.own i hlt).ints
    refine l1Own_c hwi rfl (by omega) fun X1 d1 w8 g8 o1 => ?_
    have H := H.addRow g8 o1
    simp only [List.nil_append, List.cons_append] at H
    refine pushH H 4 rfl rfl (by omega) fun t1 X2 d2 w9 H => ?_
    simp only [List.set_cons_zero, List.set_cons_succ] at H
    refine pushSSH H 3 4 (by decide) rfl rfl rfl rfl (by rw [List.length_append, hel]; omega) fun t2 X3 c3 w10 rs3 H => ?_
    have H := H.erase 4
    simp only [List.set_cons_zero, List.set_cons_succ, List.eraseIdx_cons_zero, List.eraseIdx_cons_succ] at H
    rw [i64_of (by omega) (by omega)]
    refine hN3 _ _ hlt2 ⟨by omega, rfl, X3, c3, rs3, ?_, ?_⟩
    · rw [extW_succ, ← List.append_assoc]
      rfl
    · rw [extW_succ, ← List.append_assoc]
      exact H
  · simp only [go_sem, Nat.reduceEqDiff]
    have hso : so ++ (ls.take (i + 1)).filter (inL gm.rules) = so ++ (ls.take i).filter (inL gm.rules) ++ [rgt ls i] := by
      rw [take_snoc_rgt hlt, filter_snoc, hin, if_pos rfl, List.append_assoc]
    refine l1Own_c hwi rfl (by omega) fun X1 d1 w7 g7 o1 => ?_
    have H := H.addRow g7 o1
    simp only [List.nil_append, List.cons_append] at H
    refine pushSSH H 2 4 (by decide) rfl rfl rfl rfl (by rw [List.length_append]; omega) fun t V' e' w8 qs' H => ?_
    have H := H.erase 4
    simp only [List.set_cons_zero, List.set_cons_succ, List.eraseIdx_cons_zero, List.eraseIdx_cons_succ] at H
    rw [← hso] at H
    refine loop_to toks 0 (fun t f w' => t ≤ toks ∧ f 12 = .int .i64 t ∧ ∃ (X : Option Addr) (c : Nat) (rs : Nat → Option Addr × Nat), f 9 = .slice X ((ls.take i).flatMap (extW toks) ++ extW t (rgt ls i)).length c ∧
        Apt w w' [bx b1 [.int .i64 gm.nons, .int .i64 gm.toks, .slice Y gm.rules.length cy] 26, lss U d ls ps, lss V' e' (so ++ (ls.take (i + 1)).filter (inL gm.rules)) qs', lss X c ((ls.take i).flatMap (extW toks) ++ extW t (rgt ls i)) rs])
      ⟨Nat.zero_le _, rfl, X, c, rs, by simp only [extW, List.range_zero, List.map_nil, List.append_nil]; exact h9, by simpa only [extW, List.range_zero, List.map_nil, List.append_nil] using H⟩ ?_
    rintro t r w7 N3 hag3 ⟨ht, r12, X, c, rs, r9, H⟩ hN3
    have r2 : r 2 = ptrv b1 := (hag3 2 (by decide)).trans g2'
    have r11 : r 11 = .slice (ps i).1 (rgt ls i).length (ps i).2 := hag3 11 (by decide)
    have r6 : r 6 = .slice V' (so ++ (ls.take (i + 1)).filter (inL gm.rules)).length e' := by
      rw [hso]
      exact hag3 6 (by decide)
    have r29 : r 29 = .int .i64 i := (hag3 29 (by decide)).trans h29
    simp only [r2, r11, r12, r9, go_sem, Nat.reduceEqDiff]
    rw [ldB3 (H.box 0 rfl) rfl]
    simp only [go_sem, Nat.reduceEqDiff]
    by_cases hlt2 : t < toks
    case neg =>
      simp only [show ¬ ((t : Int) < gm.toks) from by omega, decide_false, r29, go_sem, Nat.reduceEqDiff]
      rw [i64_of (by omega) (by omega)]
      obtain rfl : t = toks := by omega
      refine hN2 _ _ hlt ⟨by omega, rfl, V', X, e', c, qs', rs, r6, ?_, ?_⟩
      · rw [take_snoc_rgt hlt, flatMap_snoc]
        exact r9
      · rw [show (ls.take (i + 1)).flatMap (extW t) = (ls.take i).flatMap (extW t) ++ extW t (rgt ls i) from by rw [take_snoc_rgt hlt, flatMap_snoc]]
        exact H
    simp only [show ((t : Int) < gm.toks) from by omega, decide_true, go_sem, Nat.reduceEqDiff]
    have o := H.lssi 1 rfl
    have hwi := (o.own i hlt).ints
    refine l1Own_c hwi rfl (by omega) fun X1 d1 w8 g8 o1 => ?_
    have H := H.addRow g8 o1
    simp only [List.nil_append, List.cons_append] at H
    refine pushH H 4 rfl rfl (by omega) fun t1 X2 d2 w9 H => ?_
    simp only [List.set_cons_zero, List.set_cons_succ] at H
    refine pushSSH H 3 4 (by decide) rfl rfl rfl rfl (by rw [List.length_append, hel]; omega) fun t2 X3 c3 w10 rs3 H => ?_
    have H := H.erase 4
    simp only [List.set_cons_zero, List.set_cons_succ, List.eraseIdx_cons_zero, List.eraseIdx_cons_succ] at H
    rw [i64_of (by omega) (by omega)]
    refine hN3 _ _ hlt2 ⟨by omega, rfl, X3, c3, rs3, ?_, ?_⟩
    · rw [extW_succ, ← List.append_assoc]
      rfl
    · rw [extW_succ, ← List.append_assoc]
      exact H
end Go.Proofs.Ytegcjkhebecgbaa

/- Contracts: how long a word must be, by the reference and by the program. -/
set_option linter.unusedVariables false
set_option linter.unusedSimpArgs false
set_option maxRecDepth 100000
namespace Go.Sh
open Go
end Go.Sh
namespace Go.Proofs.Ytegcjkhebecgbaa
open Go Go.Sh Go.RowKit

end Go.Proofs.Ytegcjkhebecgbaa
