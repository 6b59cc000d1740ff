/- Texts of this repository put together: ShZ8, Cb, Ce, ShE1, ShE2, ShE4, ShE5, Cc, ShF1, ShU2, ShH6, Bm, ShJ0, ShU4, ShU5, ShU6. -/
import Derived.Test.YtegcjkhebecgbaaKUnlikec
import Derived.Test.YtegcjkhebecgbaaProg
import Derived.Test.YtegcjkhebecgbaaKUnlikea
import Derived.Test.YtegcjkhebecgbaaKUnlikeb

/- Contracts: any grammar, a word, a word of a language often (anyGrammar, word, wordIn). -/
set_option linter.unusedVariables false
set_option linter.unusedSimpArgs false
set_option maxRecDepth 100000
namespace Go.Proofs.Ytegcjkhebecgbaa
open Go Go.Sh Go.RowKit
section
variable {w0 w : World} {L E : List Thing} {bc N : Nat} {C : Option Addr} {cap : Nat} {bs : List Int} {k : Value → World → Prop}
theorem leftH (H : Apt w0 w L) (i : Nat) {ft : Nat → Prop} {X : Option Addr} {c : Nat} {r : RuleL} {rs : List RuleL} {v : Int} (hi : L[i]? = some (gth ft X c (r :: rs))) (h : ∀ w', Apt w0 w' (L.set i (gth ft X c ((v, r.2) :: rs))) → k undef w') : Do Try.prog (sStore 3 (.pointer (some ((ad X).add 0))) (.int .i64 v)) k w := by
  obtain ⟨cells, hrow, hrc⟩ := H.gow i hi
  refine do_store_row sz3 rfl rfl hrow (by rw [List.length_cons]; omega) fun w' hg hs hr => ?_
  cases hrc with
  | @cons _ _ Y d cells h1 h2 h3 =>
    refine h w' (H.set hi (it' := gth ft X c ((v, r.2) :: rs)) (gx_of hg fun q hq => .inl hq) (fun q hq => .inl hq) (fun q hq => Nat.lt_of_lt_of_le ((H.ok i _ hi).hi q hq) hg.size) (gow_kept (B := 0) ⟨_, hr, ?_⟩))
    refine .cons (r := (v, r.2)) h1 ?_ ?_
    · have hf : IntsF (fun q => (ft q ∧ blk X ≠ some q) ∧ q < w.heap.size) w Y r.2 := ltF h2
      exact (hf.same' fun q hq => hg.block q hq.2 fun e => hq.1.2 e.symm).mono fun q hq => hq.1
    · exact (h3.lt.same fun q hq => hg.block q hq.2 fun e => hq.1.2 e.symm).mono fun q hq => hq.1
set_option maxHeartbeats 3200000 in
theorem any_c (H : Apt w0 w (cur bc (.slice C bs.length cap) N :: E)) (hC : Byts w0 C bs) (hN : N ≤ 1000000) (hk : ∀ w' gm ft X c, Drawn 101 gm → Apt w0 w' (cur bc (.slice C bs.length cap) (N + 600) :: gth ft X c gm.rules :: E) → k (.agg #[.int .i64 gm.nons, .int .i64 gm.toks, .slice X gm.rules.length c]) w') :
    CallK Try.prog 145 [ptrv bc] k w := by
  refine enter145 ?_
  unfold S145
  refine allocH H inf26 fun b1 w1 H => ?_
  have H := H.insert 1
  simp only [List.take_succ_cons, List.take_zero, List.drop_succ_cons, List.drop_zero, List.nil_append, List.cons_append] at H
  refine grammar_c H hC hN fun w2 gm ft X c hd H => ?_
  refine allocH H inf26 fun b5 w3 H => ?_
  have H := H.insert 2
  simp only [List.take_succ_cons, List.take_zero, List.drop_succ_cons, List.drop_zero, List.nil_append, List.cons_append] at H
  refine storeH H 2 rfl sz26 rfl rfl rfl fun w4 H => ?_
  simp only [List.set_cons_zero, List.set_cons_succ, List.take_zero, List.drop_succ_cons, List.drop_zero, List.nil_append, List.append_nil, Value.cells] at H
  refine join_as (fun f w' => f 2 = ptrv b1 ∧ f 3 = ptrv b5 ∧ ∃ gm ft X c, Drawn 101 gm ∧ Apt w0 w' (cur bc (.slice C bs.length cap) (N + 600) :: gth ft X c gm.rules :: bx b5 [.int .i64 gm.nons, .int .i64 gm.toks, .slice X gm.rules.length c] 26 :: bx b1 [.int .i64 0, .int .i64 0, .slice none 0 0] 26 :: E)) (fun K hK => ?_) ?_
  case refine_2 =>
    clear H
    rintro f w5 ⟨f2, f3, gm, ft, X, c, hd, H⟩
    simp only [f2, f3]
    rw [ldB_agg agg26 sz26 rfl (H.box 2 rfl)]
    refine storeH H 3 rfl sz26 rfl rfl rfl fun w9 H => ?_
    simp only [List.set_cons_zero, List.set_cons_succ] at H
    rw [rd_loadVar, ldB_agg agg26 sz26 rfl (H.box 3 rfl)]
    have H := (H.erase 3).erase 2
    simp only [List.eraseIdx_cons_zero, List.eraseIdx_cons_succ] at H
    exact hk w9 gm ft X c hd H
  refine pick_c H 0 rfl hC (by omega) (by omega) fun w5 t _ ht H => ?_
  simp only [List.set_cons_zero] at H
  have ht := ht (by omega)
  have amongs : ∀ (x y z : Int), (0 ≤ x ∧ x ≤ 1000) → (0 ≤ y ∧ y ≤ 1000) → (0 ≤ z ∧ z ≤ 1000) → ∀ (kk : Value → Value → World → Prop), (∀ v : Int, 0 ≤ v ∧ v ≤ 1000 → ∀ u w', Apt w0 w' (cur bc (.slice C bs.length cap) (N + 504) :: gth ft X c gm.rules :: bx b5 [.int .i64 gm.nons, .int .i64 gm.toks, .slice X gm.rules.length c] 26 :: bx b1 [.int .i64 0, .int .i64 0, .slice none 0 0] 26 :: E) → kk u (.int .i64 v) w') → Do Try.prog (sBuildSlice 27 3 [(0, .int .i64 x), (1, .int .i64 y), (2, .int .i64 z)]) (fun t14 w15 => CallK Try.prog 156 [ptrv bc, t14] (fun t16 w17 => kk t14 t16 w17) w15) w5 := fun x y z hx hy hz kk hkk => by
    refine buildH H u27 inf3 (ints [x, y, z]) (by decide) (by decide) (by simp [Instr.fill, madeCells, Value.cells, rng3, ints]) rfl fun b7 w6 H => ?_
    have H := H.insert 1
    simp only [List.take_succ_cons, List.take_zero, List.drop_succ_cons, List.drop_zero, List.nil_append, List.cons_append] at H
    refine among_c (xs := [x, y, z]) H 0 rfl hC (by omega) (fun w' H => Apt.ints H 1 (xs := [x, y, z]) rfl) rfl (by simp) (by simp) fun w7 j hj H => ?_
    have H := H.erase 1
    simp only [List.set_cons_zero, List.eraseIdx_cons_zero, List.eraseIdx_cons_succ] at H
    refine hkk _ ?_ _ _ H
    have hj : j = 0 ∨ j = 1 ∨ j = 2 := by simp at hj; omega
    rcases hj with rfl | rfl | rfl
    · exact hx
    · exact hy
    · exact hz
  simp only [bin_add, bin_sub, bin_mul, bin_eql, bin_neq, bin_lss, bin_leq, bin_gtr, bin_geq, un_not, un_neg, zq4, zq3, zq1, zq2, zq0, cond_true', cond_false', zq14, zq15, zq16, zq17, zq13, zq10, zq12, zq11, zq7, zq5, zq6, zq9, zq8, resK_nil, resK_tmp, ite_T, ite_F, upd_at, add_plain, add_zero', Nat.reduceEqDiff, fa8_0, fa8_1, fa8_2, fa8_3, fa14_0, fa14_1, fa19_0, len22, len24, fa26_0, fa26_1, fa26_2, len27, fa33_0, fa33_1, len35, fa77_0, fa77_1, fa88_0, fa88_1, fa88_2, fa88_3, fa88_4, fa88_5, fa114_0, fa114_1, fa114_2, fa124_0, fa124_1, len134, len136, len154, fa156_0, fa156_1, fa156_2, fa156_3, fa156_4, fa156_5, fa156_6, fa184_0, fa184_1, fa200_0, fa200_1, fa200_2, fa200_3, fa215_0, fa215_1, fa215_2, fa215_3, fa215_4, len218, len271, fa274_0, fa274_1, fa274_2, fa303_0, fa303_1, fa303_2, fa303_3, fa314_0, fa314_1, fa314_2, fa314_3, fa314_4, fa314_5, fa314_6, fa314_7, fa314_8, fa314_9, fa314_10]
  by_cases h0 : t = 0
  · subst h0
    simp only [show (((0 : Nat) : Int) = 0) from rfl, decide_true, bin_add, bin_sub, bin_mul, bin_eql, bin_neq, bin_lss, bin_leq, bin_gtr, bin_geq, un_not, un_neg, zq4, zq3, zq1, zq2, zq0, cond_true', cond_false', zq14, zq15, zq16, zq17, zq13, zq10, zq12, zq11, zq7, zq5, zq6, zq9, zq8, resK_nil, resK_tmp, ite_T, ite_F, upd_at, add_plain, add_zero', Nat.reduceEqDiff, fa8_0, fa8_1, fa8_2, fa8_3, fa14_0, fa14_1, fa19_0, len22, len24, fa26_0, fa26_1, fa26_2, len27, fa33_0, fa33_1, len35, fa77_0, fa77_1, fa88_0, fa88_1, fa88_2, fa88_3, fa88_4, fa88_5, fa114_0, fa114_1, fa114_2, fa124_0, fa124_1, len134, len136, len154, fa156_0, fa156_1, fa156_2, fa156_3, fa156_4, fa156_5, fa156_6, fa184_0, fa184_1, fa200_0, fa200_1, fa200_2, fa200_3, fa215_0, fa215_1, fa215_2, fa215_3, fa215_4, len218, len271, fa274_0, fa274_1, fa274_2, fa303_0, fa303_1, fa303_2, fa303_3, fa314_0, fa314_1, fa314_2, fa314_3, fa314_4, fa314_5, fa314_6, fa314_7, fa314_8, fa314_9, fa314_10]
    refine amongs 0 6 7 (by omega) (by omega) (by omega) _ fun v hv u w7 H => ?_
    refine storeH H 2 rfl sz3 rfl rfl rfl fun w8 H => ?_
    simp only [List.set_cons_zero, List.set_cons_succ, List.take_succ_cons, List.take_zero, List.drop_succ_cons, List.drop_zero, List.nil_append, List.cons_append, Value.cells] at H
    exact hK _ _ ⟨rfl, rfl, ⟨v, gm.toks, gm.rules⟩, ft, X, c, ⟨hv, hd.toks, hd.some, by have := hd.few; show List.length gm.rules ≤ 101; omega⟩, curMore (m := N + 600) H (by omega)⟩
  simp only [show ¬ ((t : Int) = 0) from by omega, decide_false, bin_add, bin_sub, bin_mul, bin_eql, bin_neq, bin_lss, bin_leq, bin_gtr, bin_geq, un_not, un_neg, zq4, zq3, zq1, zq2, zq0, cond_true', cond_false', zq14, zq15, zq16, zq17, zq13, zq10, zq12, zq11, zq7, zq5, zq6, zq9, zq8, resK_nil, resK_tmp, ite_T, ite_F, upd_at, add_plain, add_zero', Nat.reduceEqDiff, fa8_0, fa8_1, fa8_2, fa8_3, fa14_0, fa14_1, fa19_0, len22, len24, fa26_0, fa26_1, fa26_2, len27, fa33_0, fa33_1, len35, fa77_0, fa77_1, fa88_0, fa88_1, fa88_2, fa88_3, fa88_4, fa88_5, fa114_0, fa114_1, fa114_2, fa124_0, fa124_1, len134, len136, len154, fa156_0, fa156_1, fa156_2, fa156_3, fa156_4, fa156_5, fa156_6, fa184_0, fa184_1, fa200_0, fa200_1, fa200_2, fa200_3, fa215_0, fa215_1, fa215_2, fa215_3, fa215_4, len218, len271, fa274_0, fa274_1, fa274_2, fa303_0, fa303_1, fa303_2, fa303_3, fa314_0, fa314_1, fa314_2, fa314_3, fa314_4, fa314_5, fa314_6, fa314_7, fa314_8, fa314_9, fa314_10]
  by_cases h1 : t = 1
  · subst h1
    simp only [show (((1 : Nat) : Int) = 1) from rfl, decide_true, bin_add, bin_sub, bin_mul, bin_eql, bin_neq, bin_lss, bin_leq, bin_gtr, bin_geq, un_not, un_neg, zq4, zq3, zq1, zq2, zq0, cond_true', cond_false', zq14, zq15, zq16, zq17, zq13, zq10, zq12, zq11, zq7, zq5, zq6, zq9, zq8, resK_nil, resK_tmp, ite_T, ite_F, upd_at, add_plain, add_zero', Nat.reduceEqDiff, fa8_0, fa8_1, fa8_2, fa8_3, fa14_0, fa14_1, fa19_0, len22, len24, fa26_0, fa26_1, fa26_2, len27, fa33_0, fa33_1, len35, fa77_0, fa77_1, fa88_0, fa88_1, fa88_2, fa88_3, fa88_4, fa88_5, fa114_0, fa114_1, fa114_2, fa124_0, fa124_1, len134, len136, len154, fa156_0, fa156_1, fa156_2, fa156_3, fa156_4, fa156_5, fa156_6, fa184_0, fa184_1, fa200_0, fa200_1, fa200_2, fa200_3, fa215_0, fa215_1, fa215_2, fa215_3, fa215_4, len218, len271, fa274_0, fa274_1, fa274_2, fa303_0, fa303_1, fa303_2, fa303_3, fa314_0, fa314_1, fa314_2, fa314_3, fa314_4, fa314_5, fa314_6, fa314_7, fa314_8, fa314_9, fa314_10]
    refine amongs 0 4 5 (by omega) (by omega) (by omega) _ fun v hv u w7 H => ?_
    refine storeH H 2 rfl sz3 rfl rfl rfl fun w8 H => ?_
    simp only [List.set_cons_zero, List.set_cons_succ, List.take_succ_cons, List.take_zero, List.drop_succ_cons, List.drop_zero, List.nil_append, List.cons_append, Value.cells] at H
    exact hK _ _ ⟨rfl, rfl, ⟨gm.nons, v, gm.rules⟩, ft, X, c, ⟨hd.nons, hv, hd.some, by have := hd.few; show List.length gm.rules ≤ 101; omega⟩, curMore (m := N + 600) H (by omega)⟩
  simp only [show ¬ ((t : Int) = 1) from by omega, decide_false, bin_add, bin_sub, bin_mul, bin_eql, bin_neq, bin_lss, bin_leq, bin_gtr, bin_geq, un_not, un_neg, zq4, zq3, zq1, zq2, zq0, cond_true', cond_false', zq14, zq15, zq16, zq17, zq13, zq10, zq12, zq11, zq7, zq5, zq6, zq9, zq8, resK_nil, resK_tmp, ite_T, ite_F, upd_at, add_plain, add_zero', Nat.reduceEqDiff, fa8_0, fa8_1, fa8_2, fa8_3, fa14_0, fa14_1, fa19_0, len22, len24, fa26_0, fa26_1, fa26_2, len27, fa33_0, fa33_1, len35, fa77_0, fa77_1, fa88_0, fa88_1, fa88_2, fa88_3, fa88_4, fa88_5, fa114_0, fa114_1, fa114_2, fa124_0, fa124_1, len134, len136, len154, fa156_0, fa156_1, fa156_2, fa156_3, fa156_4, fa156_5, fa156_6, fa184_0, fa184_1, fa200_0, fa200_1, fa200_2, fa200_3, fa215_0, fa215_1, fa215_2, fa215_3, fa215_4, len218, len271, fa274_0, fa274_1, fa274_2, fa303_0, fa303_1, fa303_2, fa303_3, fa314_0, fa314_1, fa314_2, fa314_3, fa314_4, fa314_5, fa314_6, fa314_7, fa314_8, fa314_9, fa314_10]
  obtain ⟨nn, tt, rules⟩ := gm
  cases rules with
  | nil => exact absurd hd.some (by simp)
  | cons r rs =>
  by_cases h2 : t = 2
  · subst h2
    simp only [show (((2 : Nat) : Int) = 2) from rfl, decide_true, bin_add, bin_sub, bin_mul, bin_eql, bin_neq, bin_lss, bin_leq, bin_gtr, bin_geq, un_not, un_neg, zq4, zq3, zq1, zq2, zq0, cond_true', cond_false', zq14, zq15, zq16, zq17, zq13, zq10, zq12, zq11, zq7, zq5, zq6, zq9, zq8, resK_nil, resK_tmp, ite_T, ite_F, upd_at, add_plain, add_zero', Nat.reduceEqDiff, fa8_0, fa8_1, fa8_2, fa8_3, fa14_0, fa14_1, fa19_0, len22, len24, fa26_0, fa26_1, fa26_2, len27, fa33_0, fa33_1, len35, fa77_0, fa77_1, fa88_0, fa88_1, fa88_2, fa88_3, fa88_4, fa88_5, fa114_0, fa114_1, fa114_2, fa124_0, fa124_1, len134, len136, len154, fa156_0, fa156_1, fa156_2, fa156_3, fa156_4, fa156_5, fa156_6, fa184_0, fa184_1, fa200_0, fa200_1, fa200_2, fa200_3, fa215_0, fa215_1, fa215_2, fa215_3, fa215_4, len218, len271, fa274_0, fa274_1, fa274_2, fa303_0, fa303_1, fa303_2, fa303_3, fa314_0, fa314_1, fa314_2, fa314_3, fa314_4, fa314_5, fa314_6, fa314_7, fa314_8, fa314_9, fa314_10]
    have H := H.drew
    obtain ⟨cells, hrow, hrc⟩ := H.gow 1 rfl
    refine ⟨fun w' => Gr w5.drew w', Gr.refl _, ?_⟩
    refine rdi (rdG one24 (H.box 2 rfl) rfl) (rdi (rdG one24 (H.box 2 rfl) rfl) ?_)
    refine rdi (ix24_0 (fun _ => hrow.ptr (by simp)) (by simp)) ?_
    have hsrc := hrow.src
    obtain ⟨Y, d, a1, a2, a3, a4⟩ := hrc.cell 0 (by simp)
    rw [rd_loadAgg agg33 sz33 (cs := [.int .i64 r.1, .slice Y r.2.length d]) rfl (fun w' hw j hj => by
      match j, hj with
      | 0, _ => rw [add_add]; exact hw.cell (hsrc.cell _ _ a1)
      | 1, _ => rw [add_add]; exact hw.cell (hsrc.cell _ _ a2))]
    refine do_build_of u24 inf33 (cells := [.int .i64 r.1, .slice Y r.2.length d]) (by decide) (by decide) (by simp [Instr.fill, madeCells, Value.cells, rng1, rng2]) rfl fun b6 w6 hb5 hb6 g6 _ r6 => ?_
    refine ⟨g6, ?_⟩
    have H := H.step g6
    obtain ⟨cells, hrow, hrc⟩ := H.gow 1 rfl
    refine do_append2 u24 inf33 rfl (by decide) hrow (Row.src (r6 _ (Nat.le_refl _))) rfl (by intro v hv; simp at hv; rcases hv with rfl | rfl <;> rfl) (by have := hd.few; simp only [List.length_cons] at this ⊢; omega) (by have := hd.few; simp only [List.length_cons] at this ⊢; omega) (Nat.zero_le _) fun X' c' w' hr' hg hmv => ?_
    have hnew : ∀ q, q < w6.heap.size → blk X ≠ some q → blk X' ≠ some q := fun q hq hn e => by
      rcases hmv with h1 | h1
      · exact hn (h1 ▸ e)
      · have := h1 q e
        omega
    have hrc2 : RuleCells (fun q => ft q ∧ blk X' ≠ some q) w' ((r :: rs) ++ [r]) (cells ++ [.int .i64 r.1, .slice Y r.2.length d]) := by
      refine RuleCells.append ((hrc.lt.same fun q hq => hg.block q hq.2 fun e => hq.1.2 e.symm).mono fun q hq => ⟨hq.1.1, hnew q hq.2 hq.1.2⟩) (.cons a3 ?_ .nil)
      exact ((ltF (a4.gr g6)).same' fun q hq => hg.block q hq.2 fun e => hq.1.2 e.symm).mono fun q hq => ⟨hq.1.1, hnew q hq.2 hq.1.2⟩
    have hlen : (r :: rs).length + 1 = ((r :: rs) ++ [r]).length := by simp
    rw [hlen] at hr' ⊢
    have H := H.set (i := 1) rfl (it' := gth ft X' c' ((r :: rs) ++ [r])) (gx_of hg fun q hq => .inl hq) (fun q hq => by
      rcases hq with hq | hq
      · rcases hmv with e | e
        · exact .inl (.inl (e ▸ hq))
        · exact .inr (e q hq)
      · exact .inl (.inr hq)) (fun q hq => by
      rcases hq with hq | hq
      · exact (hr'.ge hq).2
      · exact Nat.lt_of_lt_of_le ((H.ok 1 _ rfl).hi q (.inr hq)) hg.size) (gow_kept ⟨_, hr', hrc2⟩)
    simp only [List.set_cons_zero, List.set_cons_succ] at H
    simp only [bin_add, bin_sub, bin_mul, bin_eql, bin_neq, bin_lss, bin_leq, bin_gtr, bin_geq, un_not, un_neg, zq4, zq3, zq1, zq2, zq0, cond_true', cond_false', zq14, zq15, zq16, zq17, zq13, zq10, zq12, zq11, zq7, zq5, zq6, zq9, zq8, resK_nil, resK_tmp, ite_T, ite_F, upd_at, add_plain, add_zero', Nat.reduceEqDiff, fa8_0, fa8_1, fa8_2, fa8_3, fa14_0, fa14_1, fa19_0, len22, len24, fa26_0, fa26_1, fa26_2, len27, fa33_0, fa33_1, len35, fa77_0, fa77_1, fa88_0, fa88_1, fa88_2, fa88_3, fa88_4, fa88_5, fa114_0, fa114_1, fa114_2, fa124_0, fa124_1, len134, len136, len154, fa156_0, fa156_1, fa156_2, fa156_3, fa156_4, fa156_5, fa156_6, fa184_0, fa184_1, fa200_0, fa200_1, fa200_2, fa200_3, fa215_0, fa215_1, fa215_2, fa215_3, fa215_4, len218, len271, fa274_0, fa274_1, fa274_2, fa303_0, fa303_1, fa303_2, fa303_3, fa314_0, fa314_1, fa314_2, fa314_3, fa314_4, fa314_5, fa314_6, fa314_7, fa314_8, fa314_9, fa314_10]
    refine storeH H 2 rfl sz24 rfl rfl rfl fun w8 H => ?_
    simp only [List.set_cons_zero, List.set_cons_succ, List.take_succ_cons, List.take_zero, List.drop_succ_cons, List.drop_zero, List.nil_append, List.cons_append, Value.cells] at H
    exact hK _ _ ⟨rfl, rfl, ⟨nn, tt, (r :: rs) ++ [r]⟩, ft, X', c', ⟨hd.nons, hd.toks, by simp, by have := hd.few; simp only [List.length_append, List.length_cons, List.length_nil] at this ⊢; omega⟩, curMore (m := N + 600) H (by omega)⟩
  simp only [show ¬ ((t : Int) = 2) from by omega, decide_false, bin_add, bin_sub, bin_mul, bin_eql, bin_neq, bin_lss, bin_leq, bin_gtr, bin_geq, un_not, un_neg, zq4, zq3, zq1, zq2, zq0, cond_true', cond_false', zq14, zq15, zq16, zq17, zq13, zq10, zq12, zq11, zq7, zq5, zq6, zq9, zq8, resK_nil, resK_tmp, ite_T, ite_F, upd_at, add_plain, add_zero', Nat.reduceEqDiff, fa8_0, fa8_1, fa8_2, fa8_3, fa14_0, fa14_1, fa19_0, len22, len24, fa26_0, fa26_1, fa26_2, len27, fa33_0, fa33_1, len35, fa77_0, fa77_1, fa88_0, fa88_1, fa88_2, fa88_3, fa88_4, fa88_5, fa114_0, fa114_1, fa114_2, fa124_0, fa124_1, len134, len136, len154, fa156_0, fa156_1, fa156_2, fa156_3, fa156_4, fa156_5, fa156_6, fa184_0, fa184_1, fa200_0, fa200_1, fa200_2, fa200_3, fa215_0, fa215_1, fa215_2, fa215_3, fa215_4, len218, len271, fa274_0, fa274_1, fa274_2, fa303_0, fa303_1, fa303_2, fa303_3, fa314_0, fa314_1, fa314_2, fa314_3, fa314_4, fa314_5, fa314_6, fa314_7, fa314_8, fa314_9, fa314_10]
  by_cases h3 : t = 3
  · subst h3
    simp only [show (((3 : Nat) : Int) = 3) from rfl, decide_true, bin_add, bin_sub, bin_mul, bin_eql, bin_neq, bin_lss, bin_leq, bin_gtr, bin_geq, un_not, un_neg, zq4, zq3, zq1, zq2, zq0, cond_true', cond_false', zq14, zq15, zq16, zq17, zq13, zq10, zq12, zq11, zq7, zq5, zq6, zq9, zq8, resK_nil, resK_tmp, ite_T, ite_F, upd_at, add_plain, add_zero', Nat.reduceEqDiff, fa8_0, fa8_1, fa8_2, fa8_3, fa14_0, fa14_1, fa19_0, len22, len24, fa26_0, fa26_1, fa26_2, len27, fa33_0, fa33_1, len35, fa77_0, fa77_1, fa88_0, fa88_1, fa88_2, fa88_3, fa88_4, fa88_5, fa114_0, fa114_1, fa114_2, fa124_0, fa124_1, len134, len136, len154, fa156_0, fa156_1, fa156_2, fa156_3, fa156_4, fa156_5, fa156_6, fa184_0, fa184_1, fa200_0, fa200_1, fa200_2, fa200_3, fa215_0, fa215_1, fa215_2, fa215_3, fa215_4, len218, len271, fa274_0, fa274_1, fa274_2, fa303_0, fa303_1, fa303_2, fa303_3, fa314_0, fa314_1, fa314_2, fa314_3, fa314_4, fa314_5, fa314_6, fa314_7, fa314_8, fa314_9, fa314_10]
    have H := H.drew
    refine ⟨fun w' => Box w' b5 [.int .i64 nn, .int .i64 tt, .slice X (r :: rs).length c] 26, H.box 2 rfl, ?_⟩
    refine rdi (ldS24 (a := ⟨b5, 0 + 2, none⟩) fun w' hw' => (hw'.cell (0 + 2)).trans rfl) ?_
    refine pick_c H 0 rfl hC (by omega) (by omega) fun w6 y _ hy H => ?_
    simp only [List.set_cons_zero, bin_add, bin_sub, bin_mul, bin_eql, bin_neq, bin_lss, bin_leq, bin_gtr, bin_geq, un_not, un_neg, zq4, zq3, zq1, zq2, zq0, cond_true', cond_false', zq14, zq15, zq16, zq17, zq13, zq10, zq12, zq11, zq7, zq5, zq6, zq9, zq8, resK_nil, resK_tmp, ite_T, ite_F, upd_at, add_plain, add_zero', Nat.reduceEqDiff, fa8_0, fa8_1, fa8_2, fa8_3, fa14_0, fa14_1, fa19_0, len22, len24, fa26_0, fa26_1, fa26_2, len27, fa33_0, fa33_1, len35, fa77_0, fa77_1, fa88_0, fa88_1, fa88_2, fa88_3, fa88_4, fa88_5, fa114_0, fa114_1, fa114_2, fa124_0, fa124_1, len134, len136, len154, fa156_0, fa156_1, fa156_2, fa156_3, fa156_4, fa156_5, fa156_6, fa184_0, fa184_1, fa200_0, fa200_1, fa200_2, fa200_3, fa215_0, fa215_1, fa215_2, fa215_3, fa215_4, len218, len271, fa274_0, fa274_1, fa274_2, fa303_0, fa303_1, fa303_2, fa303_3, fa314_0, fa314_1, fa314_2, fa314_3, fa314_4, fa314_5, fa314_6, fa314_7, fa314_8, fa314_9, fa314_10] at H ⊢
    refine ⟨H.box 2 rfl, ?_⟩
    obtain ⟨cells, hrow, hrc⟩ := H.gow 1 rfl
    refine rdi (ix24_0 (fun _ => hrow.ptr (by simp)) (by simp)) ?_
    simp only [bin_add, bin_sub, bin_mul, bin_eql, bin_neq, bin_lss, bin_leq, bin_gtr, bin_geq, un_not, un_neg, zq4, zq3, zq1, zq2, zq0, cond_true', cond_false', zq14, zq15, zq16, zq17, zq13, zq10, zq12, zq11, zq7, zq5, zq6, zq9, zq8, resK_nil, resK_tmp, ite_T, ite_F, upd_at, add_plain, add_zero', Nat.reduceEqDiff, fa8_0, fa8_1, fa8_2, fa8_3, fa14_0, fa14_1, fa19_0, len22, len24, fa26_0, fa26_1, fa26_2, len27, fa33_0, fa33_1, len35, fa77_0, fa77_1, fa88_0, fa88_1, fa88_2, fa88_3, fa88_4, fa88_5, fa114_0, fa114_1, fa114_2, fa124_0, fa124_1, len134, len136, len154, fa156_0, fa156_1, fa156_2, fa156_3, fa156_4, fa156_5, fa156_6, fa184_0, fa184_1, fa200_0, fa200_1, fa200_2, fa200_3, fa215_0, fa215_1, fa215_2, fa215_3, fa215_4, len218, len271, fa274_0, fa274_1, fa274_2, fa303_0, fa303_1, fa303_2, fa303_3, fa314_0, fa314_1, fa314_2, fa314_3, fa314_4, fa314_5, fa314_6, fa314_7, fa314_8, fa314_9, fa314_10]
    generalize IntKind.i64.wrap ((y : Int) - 1) = v
    refine leftH H 1 rfl fun w8 H => ?_
    simp only [List.set_cons_zero, List.set_cons_succ] at H
    exact hK _ _ ⟨rfl, rfl, ⟨nn, tt, (v, r.2) :: rs⟩, ft, X, c, ⟨hd.nons, hd.toks, by simp, by have := hd.few; simp only [List.length_cons] at this ⊢; omega⟩, curMore (m := N + 600) H (by omega)⟩
  simp only [show ¬ ((t : Int) = 3) from by omega, decide_false, bin_add, bin_sub, bin_mul, bin_eql, bin_neq, bin_lss, bin_leq, bin_gtr, bin_geq, un_not, un_neg, zq4, zq3, zq1, zq2, zq0, cond_true', cond_false', zq14, zq15, zq16, zq17, zq13, zq10, zq12, zq11, zq7, zq5, zq6, zq9, zq8, resK_nil, resK_tmp, ite_T, ite_F, upd_at, add_plain, add_zero', Nat.reduceEqDiff, fa8_0, fa8_1, fa8_2, fa8_3, fa14_0, fa14_1, fa19_0, len22, len24, fa26_0, fa26_1, fa26_2, len27, fa33_0, fa33_1, len35, fa77_0, fa77_1, fa88_0, fa88_1, fa88_2, fa88_3, fa88_4, fa88_5, fa114_0, fa114_1, fa114_2, fa124_0, fa124_1, len134, len136, len154, fa156_0, fa156_1, fa156_2, fa156_3, fa156_4, fa156_5, fa156_6, fa184_0, fa184_1, fa200_0, fa200_1, fa200_2, fa200_3, fa215_0, fa215_1, fa215_2, fa215_3, fa215_4, len218, len271, fa274_0, fa274_1, fa274_2, fa303_0, fa303_1, fa303_2, fa303_3, fa314_0, fa314_1, fa314_2, fa314_3, fa314_4, fa314_5, fa314_6, fa314_7, fa314_8, fa314_9, fa314_10]
  exact hK _ _ ⟨rfl, rfl, ⟨nn, tt, r :: rs⟩, ft, X, c, ⟨hd.nons, hd.toks, hd.some, by have := hd.few; simp only [List.length_cons] at this ⊢; omega⟩, curMore (m := N + 600) H (by omega)⟩
end
end Go.Proofs.Ytegcjkhebecgbaa

/- Cb: bodies of functions as terms of the frame calculus, printed by shgen.py of this repository. -/
set_option linter.unusedVariables false
set_option maxRecDepth 100000
namespace Go.Proofs.Ytegcjkhebecgbaa
open Go Go.Sh

/-! loop.example/g00758/laws.big -/
def pl15 : Plans := fun _ => ⟨false, [], .nil⟩
def S15 (v0 v1 : Value) (k : Value → World → Prop) (w : World) : Prop :=
 Rd Try.prog (WS.at w) (sBuiltin .len #[22] 3 [false] [v0]) fun t1 =>
 Rd Try.prog (WS.at w) (sBin .gtr 3 true t1 (.int .i64 1048576)) fun t2 =>
 GuardK t2 false (fun k w' => k v1 w') (fun t3 w4 =>
 GuardK t2 false (fun k w' => Rd Try.prog (WS.at w4) (sBuiltin .len #[22] 3 [false] [t3]) fun v => k v w') (fun t5 w6 =>
 GuardK t2 false (fun k w' => k v0 w') (fun t7 w8 =>
 GuardK t2 false (fun k w' => Rd Try.prog (WS.at w8) (sBuiltin .len #[22] 3 [false] [t7]) fun v => k v w') (fun t9 w10 =>
 GuardK t2 false (fun k w' => Rd Try.prog (WS.at w10) (sBin .sub 3 true (.int .i64 1048576) t9) fun v => k v w') (fun t11 w12 =>
 GuardK t2 false (fun k w' => Rd Try.prog (WS.at w12) (sBin .gtr 3 false t5 t11) fun v => k v w') (fun t13 w14 =>
 Rd Try.prog (WS.at w14) (sPick t2 (.bool true) t13) fun t15 =>
 k t15 w14) w12) w10) w8) w6) w4) w
theorem body15 : Try.f15.body = some (bodyOf Try.f15) := by kernel_rfl
theorem same15 (v0 v1 : Value) (k : Value → World → Prop) (w : World) : wpF Try.prog pl15 (bodyOf Try.f15) (bodyQ Try.prog Try.f15.results.toList k) (initF [v0, v1]) w = S15 v0 v1 k w := by kernel_rfl
theorem enter15 {v0 v1 : Value} {k : Value → World → Prop} {w : World} (h : S15 v0 v1 k w) : CallK Try.prog 15 [v0, v1] k w :=
  call_of_wpF (pl := pl15) mixed Try.func15 body15 (by kernel_rfl) (of_decide_eq_true (by kernel_rfl)) (by kernel_rfl) (by kernel_rfl) (Eq.mpr (same15 v0 v1 k w) h)

/-! loop.example/g00758/impl.Derives -/
/-! loop.example/g00758/spec.Derives -/
def S18 (v0 v1 v2 : Value) (k : Value → World → Prop) (w : World) : Prop :=
 Do Try.prog (sBox 26 v0) (fun t1 w2 =>
 Rd Try.prog (WS.at w2) (sLoad 26 t1) fun t3 =>
 CallK Try.prog 128 [t3, v2] (fun t4 w5 =>
 Rd Try.prog (WS.at w5) (sUn .not t4) fun t6 =>
 GuardK t6 false (fun k w' => k v1 w') (fun t7 w8 =>
 GuardK t6 false (fun k w' => Rd Try.prog (WS.at w8) (sFieldAddr 26 t1 0) fun v => k v w') (fun t9 w10 =>
 GuardK t6 false (fun k w' => Rd Try.prog (WS.at w10) (sLoad 3 t9) fun v => k v w') (fun t11 w12 =>
 GuardK t6 false (fun k w' => Rd Try.prog (WS.at w12) (sBin .sub 3 true t11 (.int .i64 1)) fun v => k v w') (fun t13 w14 =>
 GuardK t6 false (fun k w' => CallK Try.prog 152 [t7, (.int .i64 0), t13] k w') (fun t15 w16 =>
 GuardK t6 false (fun k w' => Rd Try.prog (WS.at w16) (sUn .not t15) fun v => k v w') (fun t17 w18 =>
 Rd Try.prog (WS.at w18) (sPick t6 (.bool true) t17) fun t19 =>
 CondK t19
  (k (.tuple #[(.bool false), (.bool false)]) w18)
  (Rd Try.prog (WS.at w18) (sLoad 26 t1) fun t20 =>
  CallK Try.prog 153 [t20, v1, v2] (fun t21 w22 =>
  k (.tuple #[t21, (.bool true)]) w22) w18)) w16) w14) w12) w10) w8) w5) w2) w
/-! loop.example/g00758/impl.SequenceDerives -/
/-! loop.example/g00758/impl.SpansOf -/
/-! loop.example/g00758/laws.containsList -/
/-! loop.example/g00758/spec.DrawShortWords -/
def pl22 : Plans := fun _ => ⟨false, [], .nil⟩
def S22 (v0 : Value) (k : Value → World → Prop) (w : World) : Prop :=
 Do Try.prog (sAlloc 26) (fun t1 w2 =>
 Rd Try.prog (WS.at w2) (sBuild 114 [(0, v0)]) fun t3 =>
 Do Try.prog (sBox 114 t3) (fun t4 w5 =>
 CallK Try.prog 145 [t4] (fun t6 w7 =>
 Do Try.prog (sBuildSlice 27 7 [(0, (.int .i64 0)), (1, (.int .i64 1)), (2, (.int .i64 2)), (3, (.int .i64 3)), (4, (.int .i64 3)), (5, (.int .i64 4)), (6, (.int .i64 5))]) (fun t8 w9 =>
 CallK Try.prog 156 [t4, t8] (fun t10 w11 =>
 Do Try.prog (sStore 26 t1 t6) (fun _ w12 =>
 Rd Try.prog (WS.at w12) (sLoadVar 26 t1) fun t13 => k (.tuple #[t13, t10]) w12) w11) w9) w7) w5) w2) w
theorem body22 : Try.f22.body = some (bodyOf Try.f22) := by kernel_rfl
theorem same22 (v0 : Value) (k : Value → World → Prop) (w : World) : wpF Try.prog pl22 (bodyOf Try.f22) (bodyQ Try.prog Try.f22.results.toList k) (initF [v0]) w = S22 v0 k w := by kernel_rfl
theorem enter22 {v0 : Value} {k : Value → World → Prop} {w : World} (h : S22 v0 k w) : CallK Try.prog 22 [v0] k w :=
  call_of_wpF (pl := pl22) mixed Try.func22 body22 (by kernel_rfl) (of_decide_eq_true (by kernel_rfl)) (by kernel_rfl) (by kernel_rfl) (Eq.mpr (same22 v0 k w) h)

/-! loop.example/g00758/spec.DrawDerives -/
/-! loop.example/g00758/laws.sameLists -/
def S25 (v0 v1 : Value) (k : Value → World → Prop) (w : World) : Prop :=
 Rd Try.prog (WS.at w) (sBuiltin .len #[35] 3 [false] [v0]) fun t1 =>
 Rd Try.prog (WS.at w) (sBuiltin .len #[35] 3 [false] [v1]) fun t2 =>
 Rd Try.prog (WS.at w) (sBin .neq 3 false t1 t2) fun t3 =>
 CondK t3
  (k (.bool false) w)
  (Rd Try.prog (WS.at w) (sBuiltin .len #[35] 3 [false] [v0]) fun t4 =>
  LoopF [14, 15, 5, 16, 17, 18, 19, 20, 21, 22, 23, 24, 25, 4, 26, 13] (fun Q5 f6 w7 =>
   Rd Try.prog (WS.at w7) (sBin .lss 3 false (f6 13) (f6 12)) fun t8 =>
   CondK t8
    (Rd Try.prog WS.any (sIndexAddr 35 (f6 0) (f6 13)) fun t9 =>
    Rd Try.prog (WS.at w7.drew) (sLoad 27 t9) fun t10 =>
    Rd Try.prog WS.any (sIndexAddr 35 (f6 1) (f6 13)) fun t11 =>
    Rd Try.prog (WS.at w7.drew) (sLoad 27 t11) fun t12 =>
    CallK Try.prog 34 [t10, t12] (fun t13 w14 =>
    Rd Try.prog WS.any (sUn .not t13) fun t15 =>
    CondK t15
     (Q5 .ret (F.upd (F.upd (F.upd (F.upd (F.upd (F.upd (F.upd (F.upd (F.upd (F.upd (F.upd (F.upd (F.upd (F.upd f6 14 t8) 15 (f6 13)) 5 (f6 13)) 16 (f6 0)) 17 (f6 13)) 18 t9) 19 t10) 20 (f6 1)) 21 (f6 13)) 22 t11) 23 t12) 24 t13) 25 t15) 4 (.bool false)) w14)
     (Rd Try.prog (WS.at w14) (sBin .add 3 true (f6 13) (.int .i64 1)) fun t16 =>
     Q5 .normal (F.upd (F.upd (F.upd (F.upd (F.upd (F.upd (F.upd (F.upd (F.upd (F.upd (F.upd (F.upd (F.upd (F.upd (F.upd f6 14 t8) 15 (f6 13)) 5 (f6 13)) 16 (f6 0)) 17 (f6 13)) 18 t9) 19 t10) 20 (f6 1)) 21 (f6 13)) 22 t11) 23 t12) 24 t13) 25 t15) 26 t16) 13 t16) w14)) w7.drew)
    (Q5 (.exit 0) (F.upd f6 14 t8) w7))
   (blockQ 0 (seqQ (fun f17 w18 =>
  k (.bool true) w18) (bodyQ Try.prog [.tmp 4] k)))
   (F.upd (F.upd (F.upd (F.upd (F.upd (F.upd (F.upd (F.upd (F.upd (initF [v0, v1]) 4 (.bool false)) 6 v0) 7 t1) 8 v1) 9 t2) 10 t3) 11 v0) 12 t4) 13 (.int .i64 0)) w)
/-! loop.example/g00758/impl.InLanguage -/
def pl26 : Plans := fun _ => ⟨false, [], .nil⟩
def S26 (v0 v1 : Value) (k : Value → World → Prop) (w : World) : Prop :=
 Do Try.prog (sBox 26 v0) (fun t1 w2 =>
 Rd Try.prog (WS.at w2) (sLoad 26 t1) fun t3 =>
 CallK Try.prog 148 [t3] (fun t4 w5 =>
 Rd Try.prog (WS.at w5) (sUn .not t4) fun t6 =>
 GuardK t6 false (fun k w' => Rd Try.prog (WS.at w5) (sFieldAddr 26 t1 1) fun v => k v w') (fun t7 w8 =>
 GuardK t6 false (fun k w' => Rd Try.prog (WS.at w8) (sLoad 3 t7) fun v => k v w') (fun t9 w10 =>
 GuardK t6 false (fun k w' => k v1 w') (fun t11 w12 =>
 GuardK t6 false (fun k w' => CallK Try.prog 150 [t9, t11] k w') (fun t13 w14 =>
 GuardK t6 false (fun k w' => Rd Try.prog (WS.at w14) (sUn .not t13) fun v => k v w') (fun t15 w16 =>
 Rd Try.prog (WS.at w16) (sPick t6 (.bool true) t15) fun t17 =>
 CondK t17
  (k (.tuple #[(.bool false), (.bool false)]) w16)
  (Rd Try.prog (WS.at w16) (sLoad 26 t1) fun t18 =>
  CallK Try.prog 151 [t18, v1] (fun t19 w20 =>
  Rd Try.prog (WS.at w20) (sBuiltin .len #[27] 3 [false] [v1]) fun t21 =>
  Rd Try.prog (WS.at w20) (sNilCheck t19) fun t22 =>
  Rd Try.prog (WS.at w20) (sFieldAddr 124 t22 1) fun t23 =>
  Rd Try.prog (WS.at w20) (sIndexAddr 122 t23 (.int .i64 0)) fun t24 =>
  Rd Try.prog (WS.at w20) (sIndexAddr 121 t24 (.int .i64 0)) fun t25 =>
  Rd Try.prog (WS.at w20) (sIndexAddr 120 t25 t21) fun t26 =>
  Rd Try.prog (WS.at w20) (sLoad 4 t26) fun t27 =>
  k (.tuple #[t27, (.bool true)]) w20) w16)) w14) w12) w10) w8) w5) w2) w
theorem body26 : Try.f26.body = some (bodyOf Try.f26) := by kernel_rfl
theorem same26 (v0 v1 : Value) (k : Value → World → Prop) (w : World) : wpF Try.prog pl26 (bodyOf Try.f26) (bodyQ Try.prog Try.f26.results.toList k) (initF [v0, v1]) w = S26 v0 v1 k w := by kernel_rfl
theorem enter26 {v0 v1 : Value} {k : Value → World → Prop} {w : World} (h : S26 v0 v1 k w) : CallK Try.prog 26 [v0, v1] k w :=
  call_of_wpF (pl := pl26) mixed Try.func26 body26 (by kernel_rfl) (of_decide_eq_true (by kernel_rfl)) (by kernel_rfl) (by kernel_rfl) (Eq.mpr (same26 v0 v1 k w) h)

/-! loop.example/g00758/spec.DrawSequenceDerives -/
/-! loop.example/g00758/spec.SequenceDerives -/
def S28 (v0 v1 v2 : Value) (k : Value → World → Prop) (w : World) : Prop :=
 Do Try.prog (sBox 26 v0) (fun t1 w2 =>
 Rd Try.prog (WS.at w2) (sLoad 26 t1) fun t3 =>
 CallK Try.prog 128 [t3, v2] (fun t4 w5 =>
 Rd Try.prog (WS.at w5) (sUn .not t4) fun t6 =>
 GuardK t6 false (fun k w' => Rd Try.prog (WS.at w5) (sLoad 26 t1) fun v => k v w') (fun t7 w8 =>
 GuardK t6 false (fun k w' => k v1 w') (fun t9 w10 =>
 GuardK t6 false (fun k w' => CallK Try.prog 160 [t7, t9, (.int .i64 4)] k w') (fun t11 w12 =>
 GuardK t6 false (fun k w' => Rd Try.prog (WS.at w12) (sUn .not t11) fun v => k v w') (fun t13 w14 =>
 Rd Try.prog (WS.at w14) (sPick t6 (.bool true) t13) fun t15 =>
 CondK t15
  (k (.tuple #[(.bool false), (.bool false)]) w14)
  (Rd Try.prog (WS.at w14) (sLoad 26 t1) fun t16 =>
  CallK Try.prog 162 [t16, v2] (fun t17 w18 =>
  Rd Try.prog (WS.at w18) (sBuiltin .len #[27] 3 [false] [v2]) fun t19 =>
  CallK Try.prog 161 [t17, v2, v1, (.int .i64 0), t19] (fun t20 w21 =>
  k (.tuple #[t20, (.bool true)]) w21) w18) w14)) w12) w10) w8) w5) w2) w
/-! loop.example/g00758/spec.DrawSpansOf -/
/-! loop.example/g00758/spec.SpansOf -/
/-! loop.example/g00758/laws.sameInts -/
def pl34 : Plans := fun i => match i with
  | 6 => ⟨false, [], .step 0 .any (.step 1 .any (.step 2 .any (.step 3 .held (.step 4 .any (.step 5 .any (.step 6 .any (.step 7 .held (.step 8 .any (.nil)))))))))⟩
  | _ => ⟨false, [], .nil⟩
def S34 (v0 v1 : Value) (k : Value → World → Prop) (w : World) : Prop :=
 Rd Try.prog (WS.at w) (sBuiltin .len #[27] 3 [false] [v0]) fun t1 =>
 Rd Try.prog (WS.at w) (sBuiltin .len #[27] 3 [false] [v1]) fun t2 =>
 Rd Try.prog (WS.at w) (sBin .neq 3 false t1 t2) fun t3 =>
 CondK t3
  (k (.bool false) w)
  (Rd Try.prog (WS.at w) (sBuiltin .len #[27] 3 [false] [v0]) fun t4 =>
  LoopF [14, 15, 5, 16, 17, 18, 19, 20, 21, 22, 23, 24, 4, 25, 13] (fun Q5 f6 w7 =>
   Rd Try.prog (WS.at w7) (sBin .lss 3 false (f6 13) (f6 12)) fun t8 =>
   CondK t8
    (Rd Try.prog WS.any (sIndexAddr 27 (f6 0) (f6 13)) fun t9 =>
    Rd Try.prog (WS.at w7.drew) (sLoad 3 t9) fun t10 =>
    Rd Try.prog WS.any (sIndexAddr 27 (f6 1) (f6 13)) fun t11 =>
    Rd Try.prog (WS.at w7.drew) (sLoad 3 t11) fun t12 =>
    Rd Try.prog WS.any (sBin .neq 3 false t10 t12) fun t13 =>
    CondK t13
     (Q5 .ret (F.upd (F.upd (F.upd (F.upd (F.upd (F.upd (F.upd (F.upd (F.upd (F.upd (F.upd (F.upd (F.upd f6 14 t8) 15 (f6 13)) 5 (f6 13)) 16 (f6 0)) 17 (f6 13)) 18 t9) 19 t10) 20 (f6 1)) 21 (f6 13)) 22 t11) 23 t12) 24 t13) 4 (.bool false)) w7.drew)
     (Rd Try.prog (WS.at w7.drew) (sBin .add 3 true (f6 13) (.int .i64 1)) fun t14 =>
     Q5 .normal (F.upd (F.upd (F.upd (F.upd (F.upd (F.upd (F.upd (F.upd (F.upd (F.upd (F.upd (F.upd (F.upd (F.upd f6 14 t8) 15 (f6 13)) 5 (f6 13)) 16 (f6 0)) 17 (f6 13)) 18 t9) 19 t10) 20 (f6 1)) 21 (f6 13)) 22 t11) 23 t12) 24 t13) 25 t14) 13 t14) w7.drew))
    (Q5 (.exit 0) (F.upd f6 14 t8) w7))
   (blockQ 0 (seqQ (fun f15 w16 =>
  k (.bool true) w16) (bodyQ Try.prog [.tmp 4] k)))
   (F.upd (F.upd (F.upd (F.upd (F.upd (F.upd (F.upd (F.upd (F.upd (initF [v0, v1]) 4 (.bool false)) 6 v0) 7 t1) 8 v1) 9 t2) 10 t3) 11 v0) 12 t4) 13 (.int .i64 0)) w)
theorem body34 : Try.f34.body = some (bodyOf Try.f34) := by kernel_rfl
theorem same34 (v0 v1 : Value) (k : Value → World → Prop) (w : World) : wpF Try.prog pl34 (bodyOf Try.f34) (bodyQ Try.prog Try.f34.results.toList k) (initF [v0, v1]) w = S34 v0 v1 k w := by kernel_rfl
theorem enter34 {v0 v1 : Value} {k : Value → World → Prop} {w : World} (h : S34 v0 v1 k w) : CallK Try.prog 34 [v0, v1] k w :=
  call_of_wpF (pl := pl34) mixed Try.func34 body34 (by kernel_rfl) (of_decide_eq_true (by kernel_rfl)) (by kernel_rfl) (by kernel_rfl) (Eq.mpr (same34 v0 v1 k w) h)

/-! loop.example/g00758/spec.DrawInLanguage -/
def S43 (v0 : Value) (k : Value → World → Prop) (w : World) : Prop :=
 Do Try.prog (sAlloc 26) (fun t1 w2 =>
 Rd Try.prog (WS.at w2) (sBuild 114 [(0, v0)]) fun t3 =>
 Do Try.prog (sBox 114 t3) (fun t4 w5 =>
 CallK Try.prog 145 [t4] (fun t6 w7 =>
 Do Try.prog (sAlloc 26) (fun t8 w9 =>
 Do Try.prog (sStore 26 t8 t6) (fun _ w10 =>
 ∃ S11 : World → Prop, ∃ h12 : S11 w10.drew,
 Rd Try.prog ⟨S11, w10.drew, h12⟩ (sLoad 26 t8) fun t13 =>
 Rd Try.prog ⟨S11, w10.drew, h12⟩ (sLoad 26 t8) fun t14 =>
 CallK Try.prog 147 [t4, t14] (fun t15 w16 =>
 S11 w16 ∧ Do Try.prog (sStore 26 t1 t13) (fun _ w17 =>
 Rd Try.prog (WS.at w17) (sLoadVar 26 t1) fun t18 => k (.tuple #[t18, t15]) w17) w16) w10.drew) w9) w7) w5) w2) w
/-! loop.example/g00758/spec.l4Form -/
/-! loop.example/g00758/laws.FnDerives -/
end Go.Proofs.Ytegcjkhebecgbaa

/- Ce: bodies of functions as terms of the frame calculus, printed by shgen.py of this repository. -/
set_option linter.unusedVariables false
set_option maxRecDepth 100000
namespace Go.Proofs.Ytegcjkhebecgbaa
open Go Go.Sh

/-! loop.example/g00758/laws.FnFinite -/
/-! loop.example/g00758/laws.FnUseful -/
/-! loop.example/g00758/laws.FnUnlike -/
def pl9 : Plans := fun _ => ⟨false, [], .nil⟩
def S9 (v0 v1 : Value) (k : Value → World → Prop) (w : World) : Prop :=
 CallK Try.prog 15 [v0, v1] (fun t1 w2 =>
 CondK t1
  (k (.bool true) w2)
  (CallK Try.prog 74 [v0] (fun t3 w4 =>
  Rd Try.prog (WS.at w4) (sExtract t3 0) fun t5 =>
  Rd Try.prog (WS.at w4) (sExtract t3 1) fun t6 =>
  Rd Try.prog (WS.at w4) (sExtract t3 2) fun t7 =>
  Do Try.prog (sAlloc 26) (fun t8 w9 =>
  Do Try.prog (sAlloc 26) (fun t10 w11 =>
  Do Try.prog (sStore 26 t8 t5) (fun _ w12 =>
  Do Try.prog (sStore 26 t10 t6) (fun _ w13 =>
  Rd Try.prog (WS.at w13) (sLoad 26 t8) fun t14 =>
  Rd Try.prog (WS.at w13) (sLoad 26 t10) fun t15 =>
  CallK Try.prog 75 [t14, t15, t7] (fun t16 w17 =>
  Rd Try.prog (WS.at w17) (sExtract t16 0) fun t18 =>
  Rd Try.prog (WS.at w17) (sExtract t16 1) fun t19 =>
  Rd Try.prog (WS.at w17) (sLoad 26 t8) fun t20 =>
  Rd Try.prog (WS.at w17) (sLoad 26 t10) fun t21 =>
  CallK Try.prog 76 [t20, t21, t7] (fun t22 w23 =>
  Rd Try.prog (WS.at w23) (sExtract t22 0) fun t24 =>
  Rd Try.prog (WS.at w23) (sExtract t22 1) fun t25 =>
  Rd Try.prog (WS.at w23) (sLoad 26 t8) fun t26 =>
  Rd Try.prog (WS.at w23) (sLoad 26 t10) fun t27 =>
  CallK Try.prog 77 [t26, t27, t7] (fun t28 w29 =>
  Rd Try.prog (WS.at w29) (sExtract t28 0) fun t30 =>
  Rd Try.prog (WS.at w29) (sExtract t28 1) fun t31 =>
  Rd Try.prog (WS.at w29) (sLoad 26 t8) fun t32 =>
  Rd Try.prog (WS.at w29) (sLoad 26 t10) fun t33 =>
  CallK Try.prog 78 [t32, t33, t7] (fun t34 w35 =>
  Rd Try.prog (WS.at w35) (sExtract t34 0) fun t36 =>
  Rd Try.prog (WS.at w35) (sExtract t34 1) fun t37 =>
  Rd Try.prog (WS.at w35) (sBin .neq 4 false t19 t25) fun t38 =>
  GuardK t38 false (fun k w' => k t18 w') (fun t39 w40 =>
  GuardK t38 false (fun k w' => k t24 w') (fun t41 w42 =>
  GuardK t38 false (fun k w' => Rd Try.prog (WS.at w42) (sBin .neq 4 false t39 t41) fun v => k v w') (fun t43 w44 =>
  Rd Try.prog (WS.at w44) (sPick t38 (.bool true) t43) fun t45 =>
  GuardK t45 false (fun k w' => k t31 w') (fun t46 w47 =>
  GuardK t45 false (fun k w' => k t37 w') (fun t48 w49 =>
  GuardK t45 false (fun k w' => Rd Try.prog (WS.at w49) (sBin .neq 4 false t46 t48) fun v => k v w') (fun t50 w51 =>
  Rd Try.prog (WS.at w51) (sPick t45 (.bool true) t50) fun t52 =>
  GuardK t52 false (fun k w' => k t30 w') (fun t53 w54 =>
  GuardK t52 false (fun k w' => k t36 w') (fun t55 w56 =>
  GuardK t52 false (fun k w' => CallK Try.prog 34 [t53, t55] k w') (fun t57 w58 =>
  GuardK t52 false (fun k w' => Rd Try.prog (WS.at w58) (sUn .not t57) fun v => k v w') (fun t59 w60 =>
  Rd Try.prog (WS.at w60) (sPick t52 (.bool true) t59) fun t61 =>
  GuardK t61 false (fun k w' => k t19 w') (fun t62 w63 =>
  GuardK t61 false (fun k w' => k t62 w') (fun t64 w65 =>
  GuardK t64 true (fun k w' => k t18 w') (fun t66 w67 =>
  GuardK t64 true (fun k w' => k t31 w') (fun t68 w69 =>
  GuardK t64 true (fun k w' => Rd Try.prog (WS.at w69) (sBin .eql 4 false t66 t68) fun v => k v w') (fun t70 w71 =>
  GuardK t61 false (fun k w' => Rd Try.prog (WS.at w71) (sPick t64 t70 (.bool false)) fun v => k v w') (fun t72 w73 =>
  Rd Try.prog (WS.at w73) (sPick t61 (.bool true) t72) fun t74 =>
  GuardK t74 false (fun k w' => k t19 w') (fun t75 w76 =>
  GuardK t74 false (fun k w' => Rd Try.prog (WS.at w76) (sUn .not t75) fun v => k v w') (fun t77 w78 =>
  GuardK t74 false (fun k w' => k t77 w') (fun t79 w80 =>
  GuardK t79 true (fun k w' => k t31 w') (fun t81 w82 =>
  GuardK t74 false (fun k w' => Rd Try.prog (WS.at w82) (sPick t79 t81 (.bool false)) fun v => k v w') (fun t83 w84 =>
  Rd Try.prog (WS.at w84) (sPick t74 (.bool true) t83) fun t85 =>
  CondK t85
   (k (.bool false) w84)
   (Join (fun K86 =>
   CondK t31
    (Rd Try.prog (WS.at w84) (sLoad 26 t8) fun t89 =>
    CallK Try.prog 26 [t89, t30] (fun t90 w91 =>
    Rd Try.prog (WS.at w91) (sExtract t90 0) fun t92 =>
    Rd Try.prog (WS.at w91) (sExtract t90 1) fun t93 =>
    Rd Try.prog (WS.at w91) (sLoad 26 t10) fun t94 =>
    CallK Try.prog 26 [t94, t30] (fun t95 w96 =>
    Rd Try.prog (WS.at w96) (sExtract t95 0) fun t97 =>
    Rd Try.prog (WS.at w96) (sExtract t95 1) fun t98 =>
    Rd Try.prog (WS.at w96) (sUn .not t93) fun t99 =>
    GuardK t99 false (fun k w' => k t98 w') (fun t100 w101 =>
    GuardK t99 false (fun k w' => Rd Try.prog (WS.at w101) (sUn .not t100) fun v => k v w') (fun t102 w103 =>
    Rd Try.prog (WS.at w103) (sPick t99 (.bool true) t102) fun t104 =>
    GuardK t104 false (fun k w' => k t92 w') (fun t105 w106 =>
    GuardK t104 false (fun k w' => k t97 w') (fun t107 w108 =>
    GuardK t104 false (fun k w' => Rd Try.prog (WS.at w108) (sBin .eql 4 false t105 t107) fun v => k v w') (fun t109 w110 =>
    Rd Try.prog (WS.at w110) (sPick t104 (.bool true) t109) fun t111 =>
    GuardK t111 false (fun k w' => k t30 w') (fun t112 w113 =>
    GuardK t111 false (fun k w' => Rd Try.prog (WS.at w113) (sBuiltin .len #[27] 3 [false] [t112]) fun v => k v w') (fun t114 w115 =>
    GuardK t111 false (fun k w' => k t7 w') (fun t116 w117 =>
    GuardK t111 false (fun k w' => Rd Try.prog (WS.at w117) (sBin .gtr 3 false t114 t116) fun v => k v w') (fun t118 w119 =>
    Rd Try.prog (WS.at w119) (sPick t111 (.bool true) t118) fun t120 =>
    CondK t120
     (k (.bool false) w119)
     (K86 (F.upd (F.upd (F.upd (F.upd (F.upd (F.upd (F.upd (F.upd (F.upd (F.upd (F.upd (F.upd (F.upd (F.upd (F.upd (F.upd (F.upd (F.upd (F.upd (F.upd (F.upd (F.upd (F.upd (F.upd (F.upd (F.upd (F.upd (F.upd (F.upd (F.upd (F.upd (F.upd (F.upd (F.upd (F.upd (F.upd (F.upd (F.upd (F.upd (F.upd (F.upd (F.upd (F.upd (F.upd (F.upd (F.upd (F.upd (F.upd (F.upd (F.upd (F.upd (F.upd (F.upd (F.upd (F.upd (F.upd (F.upd (F.upd (F.upd (F.upd (F.upd (F.upd (F.upd (F.upd (F.upd (F.upd (F.upd (F.upd (F.upd (F.upd (F.upd (F.upd (F.upd (F.upd (F.upd (F.upd (F.upd (F.upd (F.upd (F.upd (F.upd (F.upd (F.upd (F.upd (F.upd (F.upd (F.upd (F.upd (F.upd (F.upd (F.upd (F.upd (F.upd (F.upd (F.upd (F.upd (F.upd (F.upd (F.upd (F.upd (F.upd (F.upd (F.upd (F.upd (F.upd (F.upd (F.upd (F.upd (F.upd (F.upd (F.upd (F.upd (F.upd (F.upd (F.upd (F.upd (F.upd (initF [v0, v1]) 4 (.bool false)) 35 v0) 36 v1) 37 t1) 39 v0) 40 t3) 38 t3) 41 t5) 42 t6) 43 t7) 5 t8) 6 t10) 7 t7) 45 t14) 46 t15) 47 t7) 48 t16) 44 t16) 49 t18) 50 t19) 8 t18) 9 t19) 52 t20) 53 t21) 54 t7) 55 t22) 51 t22) 56 t24) 57 t25) 10 t24) 11 t25) 59 t26) 60 t27) 61 t7) 62 t28) 58 t28) 63 t30) 64 t31) 12 t30) 13 t31) 66 t32) 67 t33) 68 t7) 69 t34) 65 t34) 70 t36) 71 t37) 14 t36) 15 t37) 72 t19) 73 t25) 74 t38) 75 t38) 76 t39) 77 t41) 78 t43) 79 t45) 80 t45) 81 t46) 82 t48) 83 t50) 84 t52) 85 t52) 86 t53) 87 t55) 88 t57) 89 t59) 90 t61) 91 t61) 92 t62) 93 t64) 94 t66) 95 t68) 96 t70) 97 t72) 98 t74) 99 t74) 100 t75) 101 t77) 102 t79) 103 t81) 104 t83) 105 t85) 106 t31) 108 t89) 109 t30) 110 t90) 107 t90) 111 t92) 112 t93) 16 t92) 17 t93) 114 t94) 115 t30) 116 t95) 113 t95) 117 t97) 118 t98) 18 t97) 19 t98) 119 t93) 120 t99) 121 t99) 122 t100) 123 t102) 124 t104) 125 t104) 126 t105) 127 t107) 128 t109) 129 t111) 130 t111) 131 t112) 132 t114) 133 t116) 134 t118) 135 t120) w119)) w117) w115) w113) w110) w108) w106) w103) w101) w96) w91) w84)
    (K86 (F.upd (F.upd (F.upd (F.upd (F.upd (F.upd (F.upd (F.upd (F.upd (F.upd (F.upd (F.upd (F.upd (F.upd (F.upd (F.upd (F.upd (F.upd (F.upd (F.upd (F.upd (F.upd (F.upd (F.upd (F.upd (F.upd (F.upd (F.upd (F.upd (F.upd (F.upd (F.upd (F.upd (F.upd (F.upd (F.upd (F.upd (F.upd (F.upd (F.upd (F.upd (F.upd (F.upd (F.upd (F.upd (F.upd (F.upd (F.upd (F.upd (F.upd (F.upd (F.upd (F.upd (F.upd (F.upd (F.upd (F.upd (F.upd (F.upd (F.upd (F.upd (F.upd (F.upd (F.upd (F.upd (F.upd (F.upd (F.upd (F.upd (F.upd (F.upd (F.upd (F.upd (F.upd (F.upd (F.upd (F.upd (F.upd (F.upd (F.upd (F.upd (F.upd (F.upd (F.upd (initF [v0, v1]) 4 (.bool false)) 35 v0) 36 v1) 37 t1) 39 v0) 40 t3) 38 t3) 41 t5) 42 t6) 43 t7) 5 t8) 6 t10) 7 t7) 45 t14) 46 t15) 47 t7) 48 t16) 44 t16) 49 t18) 50 t19) 8 t18) 9 t19) 52 t20) 53 t21) 54 t7) 55 t22) 51 t22) 56 t24) 57 t25) 10 t24) 11 t25) 59 t26) 60 t27) 61 t7) 62 t28) 58 t28) 63 t30) 64 t31) 12 t30) 13 t31) 66 t32) 67 t33) 68 t7) 69 t34) 65 t34) 70 t36) 71 t37) 14 t36) 15 t37) 72 t19) 73 t25) 74 t38) 75 t38) 76 t39) 77 t41) 78 t43) 79 t45) 80 t45) 81 t46) 82 t48) 83 t50) 84 t52) 85 t52) 86 t53) 87 t55) 88 t57) 89 t59) 90 t61) 91 t61) 92 t62) 93 t64) 94 t66) 95 t68) 96 t70) 97 t72) 98 t74) 99 t74) 100 t75) 101 t77) 102 t79) 103 t81) 104 t83) 105 t85) 106 t31) w84)) (fun f87 w88 =>
   CallK Try.prog 79 [(f87 1)] (fun t121 w122 =>
   Rd Try.prog (WS.at w122) (sExtract t121 0) fun t123 =>
   Rd Try.prog (WS.at w122) (sExtract t121 1) fun t124 =>
   Do Try.prog (sAlloc 26) (fun t125 w126 =>
   Do Try.prog (sStore 26 t125 t123) (fun _ w127 =>
   Rd Try.prog (WS.at w127) (sLoad 26 t125) fun t128 =>
   CallK Try.prog 80 [t128, t124] (fun t129 w130 =>
   Rd Try.prog (WS.at w130) (sExtract t129 0) fun t131 =>
   Rd Try.prog (WS.at w130) (sExtract t129 1) fun t132 =>
   Rd Try.prog (WS.at w130) (sLoad 26 t125) fun t133 =>
   CallK Try.prog 81 [t133, t124] (fun t134 w135 =>
   Rd Try.prog (WS.at w135) (sExtract t134 0) fun t136 =>
   Rd Try.prog (WS.at w135) (sExtract t134 1) fun t137 =>
   Rd Try.prog (WS.at w135) (sBin .neq 4 false t132 t137) fun t138 =>
   GuardK t138 false (fun k w' => k t131 w') (fun t139 w140 =>
   GuardK t138 false (fun k w' => k t136 w') (fun t141 w142 =>
   GuardK t138 false (fun k w' => CallK Try.prog 34 [t139, t141] k w') (fun t143 w144 =>
   GuardK t138 false (fun k w' => Rd Try.prog (WS.at w144) (sUn .not t143) fun v => k v w') (fun t145 w146 =>
   Rd Try.prog (WS.at w146) (sPick t138 (.bool true) t145) fun t147 =>
   CondK t147
    (k (.bool false) w146)
    (CondK t132
     (Rd Try.prog (WS.at w146) (sLoad 26 t125) fun t148 =>
     CallK Try.prog 23 [t148, t124] (fun t149 w150 =>
     Rd Try.prog (WS.at w150) (sExtract t149 0) fun t151 =>
     Rd Try.prog (WS.at w150) (sExtract t149 1) fun t152 =>
     Rd Try.prog (WS.at w150) (sBuiltin .len #[27] 3 [false] [t131]) fun t153 =>
     LoopF [172, 173, 174, 30, 175, 176, 177, 28, 178, 171] (fun Q154 f155 w156 =>
      Rd Try.prog (WS.at w156) (sBin .lss 3 false (f155 171) (f155 170)) fun t157 =>
      CondK t157
       (Rd Try.prog (WS.at w156) (sIndexAddr 27 (f155 169) (f155 171)) fun t158 =>
       Rd Try.prog (WS.at w156) (sLoad 3 t158) fun t159 =>
       Rd Try.prog (WS.at w156) (sBin .add 3 false (f155 28) t159) fun t160 =>
       Rd Try.prog (WS.at w156) (sBin .add 3 true (f155 171) (.int .i64 1)) fun t161 =>
       Q154 .normal (F.upd (F.upd (F.upd (F.upd (F.upd (F.upd (F.upd (F.upd (F.upd (F.upd f155 172 t157) 173 t158) 174 t159) 30 t159) 175 (f155 28)) 176 t159) 177 t160) 28 t160) 178 t161) 171 t161) w156)
       (Q154 (.exit 0) (F.upd f155 172 t157) w156))
      (blockQ 0 (seqQ (fun f162 w163 =>
     Rd Try.prog (WS.at w163) (sLoad 26 (f162 20)) fun t164 =>
     CallK Try.prog 63 [t164] (fun t165 w166 =>
     Rd Try.prog (WS.at w166) (sExtract t165 0) fun t167 =>
     Rd Try.prog (WS.at w166) (sExtract t165 1) fun t168 =>
     Do Try.prog (sAlloc 26) (fun t169 w170 =>
     Do Try.prog (sStore 26 t169 t167) (fun _ w171 =>
     Rd Try.prog (WS.at w171) (sLoad 26 (f162 20)) fun t172 =>
     Rd Try.prog (WS.at w171) (sLoad 26 t169) fun t173 =>
     CallK Try.prog 75 [t172, t173, (f162 21)] (fun t174 w175 =>
     Rd Try.prog (WS.at w175) (sExtract t174 0) fun t176 =>
     Rd Try.prog (WS.at w175) (sExtract t174 1) fun t177 =>
     GuardK (f162 27) true (fun k w' => k (f162 28) w') (fun t178 w179 =>
     GuardK (f162 27) true (fun k w' => k (f162 26) w') (fun t180 w181 =>
     GuardK (f162 27) true (fun k w' => Rd Try.prog (WS.at w181) (sBuiltin .len #[35] 3 [false] [t180]) fun v => k v w') (fun t182 w183 =>
     GuardK (f162 27) true (fun k w' => Rd Try.prog (WS.at w183) (sBin .eql 3 false t178 t182) fun v => k v w') (fun t184 w185 =>
     Rd Try.prog (WS.at w185) (sPick (f162 27) t184 (.bool false)) fun t186 =>
     GuardK t186 true (fun k w' => k (f162 22) w') (fun t187 w188 =>
     GuardK t186 true (fun k w' => Rd Try.prog (WS.at w188) (sBuiltin .len #[27] 3 [false] [t187]) fun v => k v w') (fun t189 w190 =>
     GuardK t186 true (fun k w' => k (f162 21) w') (fun t191 w192 =>
     GuardK t186 true (fun k w' => Rd Try.prog (WS.at w192) (sBin .add 3 true t191 (.int .i64 1)) fun v => k v w') (fun t193 w194 =>
     GuardK t186 true (fun k w' => Rd Try.prog (WS.at w194) (sBin .eql 3 false t189 t193) fun v => k v w') (fun t195 w196 =>
     Rd Try.prog (WS.at w196) (sPick t186 t195 (.bool false)) fun t197 =>
     GuardK t197 true (fun k w' => k t168 w') (fun t198 w199 =>
     Rd Try.prog (WS.at w199) (sPick t197 t198 (.bool false)) fun t200 =>
     GuardK t200 true (fun k w' => k t177 w') (fun t201 w202 =>
     Rd Try.prog (WS.at w202) (sPick t200 t201 (.bool false)) fun t203 =>
     GuardK t203 true (fun k w' => k t176 w') (fun t204 w205 =>
     Rd Try.prog (WS.at w205) (sPick t203 t204 (.bool false)) fun t206 =>
     k t206 w205) w202) w199) w196) w194) w192) w190) w188) w185) w183) w181) w179) w175) w171) w170) w166) w163) (seqQ (fun f207 w208 =>
     k (.bool true) w208) (bodyQ Try.prog [.tmp 4] k))))
      (F.upd (F.upd (F.upd (F.upd (F.upd (F.upd (F.upd (F.upd (F.upd (F.upd (F.upd (F.upd (F.upd (F.upd (F.upd (F.upd (F.upd (F.upd (F.upd (F.upd (F.upd (F.upd (F.upd (F.upd (F.upd (F.upd (F.upd (F.upd (F.upd (F.upd (F.upd (F.upd (F.upd (F.upd (F.upd (F.upd (F.upd (F.upd (F.upd (F.upd (F.upd (F.upd (F.upd (F.upd (F.upd f87 137 (f87 1)) 138 t121) 136 t121) 139 t123) 140 t124) 20 t125) 21 t124) 142 t128) 143 t124) 144 t129) 141 t129) 145 t131) 146 t132) 22 t131) 23 t132) 148 t133) 149 t124) 150 t134) 147 t134) 151 t136) 152 t137) 24 t136) 25 t137) 153 t132) 154 t137) 155 t138) 156 t138) 157 t139) 158 t141) 159 t143) 160 t145) 161 t147) 162 t132) 164 t148) 165 t124) 166 t149) 163 t149) 167 t151) 168 t152) 26 t151) 27 t152) 28 (.int .i64 0)) 169 t131) 170 t153) 171 (.int .i64 0)) w150) w146)
     (k (.bool true) w146))) w144) w142) w140) w135) w130) w127) w126) w122) w88))) w82) w80) w78) w76) w73) w71) w69) w67) w65) w63) w60) w58) w56) w54) w51) w49) w47) w44) w42) w40) w35) w29) w23) w17) w13) w12) w11) w9) w4) w2)) w
theorem body9 : Try.f9.body = some (bodyOf Try.f9) := by kernel_rfl
theorem same9 (v0 v1 : Value) (k : Value → World → Prop) (w : World) : wpF Try.prog pl9 (bodyOf Try.f9) (bodyQ Try.prog Try.f9.results.toList k) (initF [v0, v1]) w = S9 v0 v1 k w := by kernel_rfl
theorem enter9 {v0 v1 : Value} {k : Value → World → Prop} {w : World} (h : S9 v0 v1 k w) : CallK Try.prog 9 [v0, v1] k w :=
  call_of_wpF (pl := pl9) mixed Try.func9 body9 (by kernel_rfl) (of_decide_eq_true (by kernel_rfl)) (by kernel_rfl) (by kernel_rfl) (Eq.mpr (same9 v0 v1 k w) h)

/-! loop.example/g00758/laws.has -/
/-! loop.example/g00758/laws.sameGrammar -/
/-! loop.example/g00758/laws.sameRules -/
/-! loop.example/g00758/spec.DrawSameUpTo -/
def pl74 : Plans := fun i => match i with
  | 3 => ⟨true, [6], .step 0 .held (.step 1 .held (.step 2 .any (.step 3 .one (.step 4 .one (.step 5 .one (.step 6 .last (.step 7 .any (.nil))))))))⟩
  | _ => ⟨false, [], .nil⟩
def S74 (v0 : Value) (k : Value → World → Prop) (w : World) : Prop :=
 Do Try.prog (sAlloc 26) (fun t1 w2 =>
 Do Try.prog (sAlloc 26) (fun t3 w4 =>
 Rd Try.prog (WS.at w4) (sBuild 114 [(0, v0)]) fun t5 =>
 Do Try.prog (sBox 114 t5) (fun t6 w7 =>
 CallK Try.prog 168 [t6] (fun t8 w9 =>
 Rd Try.prog (WS.at w9) (sExtract t8 0) fun t10 =>
 Rd Try.prog (WS.at w9) (sExtract t8 1) fun t11 =>
 Do Try.prog (sAlloc 26) (fun t12 w13 =>
 Do Try.prog (sAlloc 26) (fun t14 w15 =>
 Do Try.prog (sStore 26 t12 t10) (fun _ w16 =>
 Do Try.prog (sStore 26 t14 t11) (fun _ w17 =>
 ∃ S18 : World → Prop, ∃ h19 : S18 w17.drew,
 Rd Try.prog ⟨S18, w17.drew, h19⟩ (sLoad 26 t12) fun t20 =>
 Rd Try.prog ⟨S18, w17.drew, h19⟩ (sLoad 26 t14) fun t21 =>
 Do Try.prog (sBuildSlice 27 6 [(0, (.int .i64 0)), (1, (.int .i64 1)), (2, (.int .i64 2)), (3, (.int .i64 3)), (4, (.int .i64 3)), (5, (.int .i64 5))]) (fun t22 w23 =>
 S18 w23 ∧ CallK Try.prog 156 [t6, t22] (fun t24 w25 =>
 S18 w25 ∧ Do Try.prog (sStore 26 t1 t20) (fun _ w26 =>
 S18 w26 ∧ Do Try.prog (sStore 26 t3 t21) (fun _ w27 =>
 Rd Try.prog (WS.at w27) (sLoadVar 26 t1) fun t28 => Rd Try.prog (WS.at w27) (sLoadVar 26 t3) fun t29 => k (.tuple #[t28, t29, t24]) w27) w26) w25) w23) w17.drew) w16) w15) w13) w9) w7) w4) w2) w
theorem body74 : Try.f74.body = some (bodyOf Try.f74) := by kernel_rfl
theorem same74 (v0 : Value) (k : Value → World → Prop) (w : World) : wpF Try.prog pl74 (bodyOf Try.f74) (bodyQ Try.prog Try.f74.results.toList k) (initF [v0]) w = S74 v0 k w := by kernel_rfl
theorem enter74 {v0 : Value} {k : Value → World → Prop} {w : World} (h : S74 v0 k w) : CallK Try.prog 74 [v0] k w :=
  call_of_wpF (pl := pl74) mixed Try.func74 body74 (by kernel_rfl) (of_decide_eq_true (by kernel_rfl)) (by kernel_rfl) (by kernel_rfl) (Eq.mpr (same74 v0 k w) h)

/-! loop.example/g00758/spec.DrawCountByLong -/
def pl79 : Plans := fun _ => ⟨false, [], .nil⟩
def S79 (v0 : Value) (k : Value → World → Prop) (w : World) : Prop :=
 Do Try.prog (sAlloc 26) (fun t1 w2 =>
 CallK Try.prog 22 [v0] (fun t3 w4 =>
 Rd Try.prog (WS.at w4) (sExtract t3 0) fun t5 =>
 Rd Try.prog (WS.at w4) (sExtract t3 1) fun t6 =>
 Do Try.prog (sStore 26 t1 t5) (fun _ w7 =>
 Rd Try.prog (WS.at w7) (sLoadVar 26 t1) fun t8 => k (.tuple #[t8, t6]) w7) w4) w2) w
theorem body79 : Try.f79.body = some (bodyOf Try.f79) := by kernel_rfl
theorem same79 (v0 : Value) (k : Value → World → Prop) (w : World) : wpF Try.prog pl79 (bodyOf Try.f79) (bodyQ Try.prog Try.f79.results.toList k) (initF [v0]) w = S79 v0 k w := by kernel_rfl
theorem enter79 {v0 : Value} {k : Value → World → Prop} {w : World} (h : S79 v0 k w) : CallK Try.prog 79 [v0] k w :=
  call_of_wpF (pl := pl79) mixed Try.func79 body79 (by kernel_rfl) (of_decide_eq_true (by kernel_rfl)) (by kernel_rfl) (by kernel_rfl) (Eq.mpr (same79 v0 k w) h)

/-! loop.example/g00758/spec.DrawUnionOf -/
/-! loop.example/g00758/laws.FnBeside -/
def S5 (v0 v1 : Value) (k : Value → World → Prop) (w : World) : Prop :=
 CallK Try.prog 15 [v0, v1] (fun t1 w2 =>
 CondK t1
  (k (.bool true) w2)
  (CallK Try.prog 36 [v0] (fun t3 w4 =>
  Rd Try.prog (WS.at w4) (sExtract t3 0) fun t5 =>
  Rd Try.prog (WS.at w4) (sExtract t3 1) fun t6 =>
  Do Try.prog (sAlloc 26) (fun t7 w8 =>
  Do Try.prog (sAlloc 26) (fun t9 w10 =>
  Do Try.prog (sStore 26 t7 t5) (fun _ w11 =>
  Do Try.prog (sStore 26 t9 t6) (fun _ w12 =>
  Rd Try.prog (WS.at w12) (sLoad 26 t7) fun t13 =>
  Rd Try.prog (WS.at w12) (sLoad 26 t9) fun t14 =>
  CallK Try.prog 37 [t13, t14] (fun t15 w16 =>
  Rd Try.prog (WS.at w16) (sExtract t15 0) fun t17 =>
  Rd Try.prog (WS.at w16) (sExtract t15 1) fun t18 =>
  Do Try.prog (sAlloc 26) (fun t19 w20 =>
  Do Try.prog (sStore 26 t19 t17) (fun _ w21 =>
  Rd Try.prog (WS.at w21) (sLoad 26 t7) fun t22 =>
  Rd Try.prog (WS.at w21) (sLoad 26 t9) fun t23 =>
  CallK Try.prog 38 [t22, t23] (fun t24 w25 =>
  Rd Try.prog (WS.at w25) (sExtract t24 0) fun t26 =>
  Rd Try.prog (WS.at w25) (sExtract t24 1) fun t27 =>
  Do Try.prog (sAlloc 26) (fun t28 w29 =>
  Do Try.prog (sStore 26 t28 t26) (fun _ w30 =>
  Rd Try.prog (WS.at w30) (sLoad 26 t7) fun t31 =>
  Rd Try.prog (WS.at w30) (sLoad 26 t9) fun t32 =>
  CallK Try.prog 39 [t31, t32] (fun t33 w34 =>
  Rd Try.prog (WS.at w34) (sExtract t33 0) fun t35 =>
  Rd Try.prog (WS.at w34) (sExtract t33 1) fun t36 =>
  Do Try.prog (sAlloc 26) (fun t37 w38 =>
  Do Try.prog (sStore 26 t37 t35) (fun _ w39 =>
  Rd Try.prog (WS.at w39) (sLoad 26 t7) fun t40 =>
  Rd Try.prog (WS.at w39) (sLoad 26 t9) fun t41 =>
  CallK Try.prog 40 [t40, t41] (fun t42 w43 =>
  Rd Try.prog (WS.at w43) (sExtract t42 0) fun t44 =>
  Rd Try.prog (WS.at w43) (sExtract t42 1) fun t45 =>
  Do Try.prog (sAlloc 26) (fun t46 w47 =>
  Do Try.prog (sStore 26 t46 t44) (fun _ w48 =>
  Rd Try.prog (WS.at w48) (sBin .neq 4 false t18 t27) fun t49 =>
  GuardK t49 false (fun k w' => Rd Try.prog (WS.at w48) (sLoad 26 t19) fun v => k v w') (fun t50 w51 =>
  GuardK t49 false (fun k w' => Rd Try.prog (WS.at w51) (sLoad 26 t28) fun v => k v w') (fun t52 w53 =>
  GuardK t49 false (fun k w' => CallK Try.prog 41 [t50, t52] k w') (fun t54 w55 =>
  GuardK t49 false (fun k w' => Rd Try.prog (WS.at w55) (sUn .not t54) fun v => k v w') (fun t56 w57 =>
  Rd Try.prog (WS.at w57) (sPick t49 (.bool true) t56) fun t58 =>
  GuardK t58 false (fun k w' => k t36 w') (fun t59 w60 =>
  GuardK t58 false (fun k w' => k t45 w') (fun t61 w62 =>
  GuardK t58 false (fun k w' => Rd Try.prog (WS.at w62) (sBin .neq 4 false t59 t61) fun v => k v w') (fun t63 w64 =>
  Rd Try.prog (WS.at w64) (sPick t58 (.bool true) t63) fun t65 =>
  GuardK t65 false (fun k w' => Rd Try.prog (WS.at w64) (sLoad 26 t37) fun v => k v w') (fun t66 w67 =>
  GuardK t65 false (fun k w' => Rd Try.prog (WS.at w67) (sLoad 26 t46) fun v => k v w') (fun t68 w69 =>
  GuardK t65 false (fun k w' => CallK Try.prog 41 [t66, t68] k w') (fun t70 w71 =>
  GuardK t65 false (fun k w' => Rd Try.prog (WS.at w71) (sUn .not t70) fun v => k v w') (fun t72 w73 =>
  Rd Try.prog (WS.at w73) (sPick t65 (.bool true) t72) fun t74 =>
  CondK t74
   (k (.bool false) w73)
   (Join (fun K75 =>
   Rd Try.prog (WS.at w73) (sLoad 26 t7) fun t78 =>
   CallK Try.prog 42 [t78] (fun t79 w80 =>
   GuardK t79 true (fun k w' => Rd Try.prog (WS.at w80) (sLoad 26 t9) fun v => k v w') (fun t81 w82 =>
   GuardK t79 true (fun k w' => CallK Try.prog 42 [t81] k w') (fun t83 w84 =>
   Rd Try.prog (WS.at w84) (sPick t79 t83 (.bool false)) fun t85 =>
   GuardK t85 true (fun k w' => Rd Try.prog (WS.at w84) (sFieldAddr 26 t7 1) fun v => k v w') (fun t86 w87 =>
   GuardK t85 true (fun k w' => Rd Try.prog (WS.at w87) (sLoad 3 t86) fun v => k v w') (fun t88 w89 =>
   GuardK t85 true (fun k w' => Rd Try.prog (WS.at w89) (sFieldAddr 26 t9 1) fun v => k v w') (fun t90 w91 =>
   GuardK t85 true (fun k w' => Rd Try.prog (WS.at w91) (sLoad 3 t90) fun v => k v w') (fun t92 w93 =>
   GuardK t85 true (fun k w' => Rd Try.prog (WS.at w93) (sBin .eql 3 false t88 t92) fun v => k v w') (fun t94 w95 =>
   Rd Try.prog (WS.at w95) (sPick t85 t94 (.bool false)) fun t96 =>
   CondK t96
    (CallK Try.prog 43 [v1] (fun t97 w98 =>
    Rd Try.prog (WS.at w98) (sExtract t97 0) fun t99 =>
    Rd Try.prog (WS.at w98) (sExtract t97 1) fun t100 =>
    Do Try.prog (sAlloc 26) (fun t101 w102 =>
    Do Try.prog (sStore 26 t101 t99) (fun _ w103 =>
    Rd Try.prog (WS.at w103) (sLoad 26 t7) fun t104 =>
    CallK Try.prog 44 [t104, t100] (fun t105 w106 =>
    CondK t105
     (Rd Try.prog (WS.at w106) (sLoad 26 t7) fun t107 =>
     CallK Try.prog 26 [t107, t100] (fun t108 w109 =>
     Rd Try.prog (WS.at w109) (sExtract t108 0) fun t110 =>
     Rd Try.prog (WS.at w109) (sExtract t108 1) fun t111 =>
     Rd Try.prog (WS.at w109) (sLoad 26 t9) fun t112 =>
     CallK Try.prog 26 [t112, t100] (fun t113 w114 =>
     Rd Try.prog (WS.at w114) (sExtract t113 0) fun t115 =>
     Rd Try.prog (WS.at w114) (sExtract t113 1) fun t116 =>
     Rd Try.prog (WS.at w114) (sUn .not t111) fun t117 =>
     GuardK t117 false (fun k w' => k t116 w') (fun t118 w119 =>
     GuardK t117 false (fun k w' => Rd Try.prog (WS.at w119) (sUn .not t118) fun v => k v w') (fun t120 w121 =>
     Rd Try.prog (WS.at w121) (sPick t117 (.bool true) t120) fun t122 =>
     CondK t122
      (k (.bool false) w121)
      (Join (fun K123 =>
      CondK t18
       (Rd Try.prog (WS.at w121) (sLoad 26 t19) fun t126 =>
       CallK Try.prog 26 [t126, t100] (fun t127 w128 =>
       Rd Try.prog (WS.at w128) (sExtract t127 0) fun t129 =>
       Rd Try.prog (WS.at w128) (sExtract t127 1) fun t130 =>
       Rd Try.prog (WS.at w128) (sUn .not t130) fun t131 =>
       GuardK t131 false (fun k w' => k t129 w') (fun t132 w133 =>
       GuardK t131 false (fun k w' => k t110 w') (fun t134 w135 =>
       GuardK t131 false (fun k w' => k t134 w') (fun t136 w137 =>
       GuardK t136 false (fun k w' => k t115 w') (fun t138 w139 =>
       GuardK t131 false (fun k w' => Rd Try.prog (WS.at w139) (sPick t136 (.bool true) t138) fun v => k v w') (fun t140 w141 =>
       GuardK t131 false (fun k w' => Rd Try.prog (WS.at w141) (sBin .neq 4 false t132 t140) fun v => k v w') (fun t142 w143 =>
       Rd Try.prog (WS.at w143) (sPick t131 (.bool true) t142) fun t144 =>
       CondK t144
        (k (.bool false) w143)
        (K123 (F.upd (F.upd (F.upd (F.upd (F.upd (F.upd (F.upd (F.upd (F.upd (F.upd (F.upd (F.upd (F.upd (F.upd (F.upd (F.upd (F.upd (F.upd (F.upd (F.upd (F.upd (F.upd (F.upd (F.upd (F.upd (F.upd (F.upd (F.upd (F.upd (F.upd (F.upd (F.upd (F.upd (F.upd (F.upd (F.upd (F.upd (F.upd (F.upd (F.upd (F.upd (F.upd (F.upd (F.upd (F.upd (F.upd (F.upd (F.upd (F.upd (F.upd (F.upd (F.upd (F.upd (F.upd (F.upd (F.upd (F.upd (F.upd (F.upd (F.upd (F.upd (F.upd (F.upd (F.upd (F.upd (F.upd (F.upd (F.upd (F.upd (F.upd (F.upd (F.upd (F.upd (F.upd (F.upd (F.upd (F.upd (F.upd (F.upd (F.upd (F.upd (F.upd (F.upd (F.upd (F.upd (F.upd (F.upd (F.upd (F.upd (F.upd (F.upd (F.upd (F.upd (F.upd (F.upd (F.upd (F.upd (F.upd (F.upd (F.upd (F.upd (F.upd (F.upd (F.upd (F.upd (F.upd (F.upd (F.upd (F.upd (F.upd (F.upd (F.upd (F.upd (F.upd (F.upd (F.upd (F.upd (F.upd (F.upd (F.upd (F.upd (F.upd (F.upd (F.upd (F.upd (F.upd (F.upd (initF [v0, v1]) 4 (.bool false)) 46 v0) 47 v1) 48 t1) 50 v0) 51 t3) 49 t3) 52 t5) 53 t6) 5 t7) 6 t9) 55 t13) 56 t14) 57 t15) 54 t15) 58 t17) 59 t18) 7 t19) 8 t18) 61 t22) 62 t23) 63 t24) 60 t24) 64 t26) 65 t27) 9 t28) 10 t27) 67 t31) 68 t32) 69 t33) 66 t33) 70 t35) 71 t36) 11 t37) 12 t36) 73 t40) 74 t41) 75 t42) 72 t42) 76 t44) 77 t45) 13 t46) 14 t45) 78 t18) 79 t27) 80 t49) 81 t49) 82 t50) 83 t52) 84 t54) 85 t56) 86 t58) 87 t58) 88 t59) 89 t61) 90 t63) 91 t65) 92 t65) 93 t66) 94 t68) 95 t70) 96 t72) 97 t74) 98 t78) 99 t79) 100 t79) 101 t81) 102 t83) 103 t85) 104 t85) 105 t86) 106 t88) 107 t90) 108 t92) 109 t94) 110 t96) 112 v1) 113 t97) 111 t97) 114 t99) 115 t100) 15 t101) 16 t100) 116 t104) 117 t100) 118 t105) 120 t107) 121 t100) 122 t108) 119 t108) 123 t110) 124 t111) 17 t110) 18 t111) 126 t112) 127 t100) 128 t113) 125 t113) 129 t115) 130 t116) 19 t115) 20 t116) 131 t111) 132 t117) 133 t117) 134 t118) 135 t120) 136 t122) 137 t18) 139 t126) 140 t100) 141 t127) 138 t127) 142 t129) 143 t130) 21 t129) 22 t130) 144 t130) 145 t131) 146 t131) 147 t132) 148 t134) 149 t136) 150 t138) 151 t140) 152 t142) 153 t144) w143)) w141) w139) w137) w135) w133) w128) w121)
       (K123 (F.upd (F.upd (F.upd (F.upd (F.upd (F.upd (F.upd (F.upd (F.upd (F.upd (F.upd (F.upd (F.upd (F.upd (F.upd (F.upd (F.upd (F.upd (F.upd (F.upd (F.upd (F.upd (F.upd (F.upd (F.upd (F.upd (F.upd (F.upd (F.upd (F.upd (F.upd (F.upd (F.upd (F.upd (F.upd (F.upd (F.upd (F.upd (F.upd (F.upd (F.upd (F.upd (F.upd (F.upd (F.upd (F.upd (F.upd (F.upd (F.upd (F.upd (F.upd (F.upd (F.upd (F.upd (F.upd (F.upd (F.upd (F.upd (F.upd (F.upd (F.upd (F.upd (F.upd (F.upd (F.upd (F.upd (F.upd (F.upd (F.upd (F.upd (F.upd (F.upd (F.upd (F.upd (F.upd (F.upd (F.upd (F.upd (F.upd (F.upd (F.upd (F.upd (F.upd (F.upd (F.upd (F.upd (F.upd (F.upd (F.upd (F.upd (F.upd (F.upd (F.upd (F.upd (F.upd (F.upd (F.upd (F.upd (F.upd (F.upd (F.upd (F.upd (F.upd (F.upd (F.upd (F.upd (F.upd (F.upd (F.upd (initF [v0, v1]) 4 (.bool false)) 46 v0) 47 v1) 48 t1) 50 v0) 51 t3) 49 t3) 52 t5) 53 t6) 5 t7) 6 t9) 55 t13) 56 t14) 57 t15) 54 t15) 58 t17) 59 t18) 7 t19) 8 t18) 61 t22) 62 t23) 63 t24) 60 t24) 64 t26) 65 t27) 9 t28) 10 t27) 67 t31) 68 t32) 69 t33) 66 t33) 70 t35) 71 t36) 11 t37) 12 t36) 73 t40) 74 t41) 75 t42) 72 t42) 76 t44) 77 t45) 13 t46) 14 t45) 78 t18) 79 t27) 80 t49) 81 t49) 82 t50) 83 t52) 84 t54) 85 t56) 86 t58) 87 t58) 88 t59) 89 t61) 90 t63) 91 t65) 92 t65) 93 t66) 94 t68) 95 t70) 96 t72) 97 t74) 98 t78) 99 t79) 100 t79) 101 t81) 102 t83) 103 t85) 104 t85) 105 t86) 106 t88) 107 t90) 108 t92) 109 t94) 110 t96) 112 v1) 113 t97) 111 t97) 114 t99) 115 t100) 15 t101) 16 t100) 116 t104) 117 t100) 118 t105) 120 t107) 121 t100) 122 t108) 119 t108) 123 t110) 124 t111) 17 t110) 18 t111) 126 t112) 127 t100) 128 t113) 125 t113) 129 t115) 130 t116) 19 t115) 20 t116) 131 t111) 132 t117) 133 t117) 134 t118) 135 t120) 136 t122) 137 t18) w121)) (fun f124 w125 =>
      CondK (f124 12)
       (LoopF [155, 156, 157, 158, 162, 163, 164, 165, 166, 161, 167, 168, 25, 26, 170, 171, 172, 173, 174, 169, 175, 176, 27, 28, 177, 178, 179, 180, 181, 182, 183, 184, 185, 186, 187, 188, 189, 23, 159, 160, 24] (fun Q145 f146 w147 =>
        Rd Try.prog (WS.at w147) (sBuiltin .len #[27] 3 [false] [(f146 16)]) fun t148 =>
        Rd Try.prog (WS.at w147) (sBin .leq 3 false (f146 24) t148) fun t149 =>
        CondK t149
         (Rd Try.prog (WS.at w147.drew) (sLoad 26 (f146 5)) fun t150 =>
         Rd Try.prog WS.any (sSlice 27 (f146 16) none (some (f146 24)) none) fun t151 =>
         CallK Try.prog 26 [t150, t151] (fun t152 w153 =>
         Rd Try.prog WS.any (sExtract t152 0) fun t154 =>
         Rd Try.prog WS.any (sExtract t152 1) fun t155 =>
         Rd Try.prog (WS.at w153.drew) (sLoad 26 (f146 6)) fun t156 =>
         Rd Try.prog WS.any (sSlice 27 (f146 16) (some (f146 24)) none none) fun t157 =>
         CallK Try.prog 26 [t156, t157] (fun t158 w159 =>
         Rd Try.prog WS.any (sExtract t158 0) fun t160 =>
         Rd Try.prog WS.any (sExtract t158 1) fun t161 =>
         GuardK (f146 23) false (fun k w' => k t155 w') (fun t162 w163 =>
         GuardK (f146 23) false (fun k w' => k t162 w') (fun t164 w165 =>
         GuardK t164 true (fun k w' => k t161 w') (fun t166 w167 =>
         GuardK (f146 23) false (fun k w' => Rd Try.prog (WS.at w167) (sPick t164 t166 (.bool false)) fun v => k v w') (fun t168 w169 =>
         GuardK (f146 23) false (fun k w' => k t168 w') (fun t170 w171 =>
         GuardK t170 true (fun k w' => k t154 w') (fun t172 w173 =>
         GuardK (f146 23) false (fun k w' => Rd Try.prog (WS.at w173) (sPick t170 t172 (.bool false)) fun v => k v w') (fun t174 w175 =>
         GuardK (f146 23) false (fun k w' => k t174 w') (fun t176 w177 =>
         GuardK t176 true (fun k w' => k t160 w') (fun t178 w179 =>
         GuardK (f146 23) false (fun k w' => Rd Try.prog (WS.at w179) (sPick t176 t178 (.bool false)) fun v => k v w') (fun t180 w181 =>
         Rd Try.prog (WS.at w181) (sPick (f146 23) (.bool true) t180) fun t182 =>
         Rd Try.prog (WS.at w181) (sBin .add 3 true (f146 24) (.int .i64 1)) fun t183 =>
         Q145 .normal (F.upd (F.upd (F.upd (F.upd (F.upd (F.upd (F.upd (F.upd (F.upd (F.upd (F.upd (F.upd (F.upd (F.upd (F.upd (F.upd (F.upd (F.upd (F.upd (F.upd (F.upd (F.upd (F.upd (F.upd (F.upd (F.upd (F.upd (F.upd (F.upd (F.upd (F.upd (F.upd (F.upd (F.upd (F.upd (F.upd (F.upd (F.upd (F.upd (F.upd (F.upd f146 155 (f146 24)) 156 (f146 16)) 157 t148) 158 t149) 162 t150) 163 (f146 16)) 164 (f146 24)) 165 t151) 166 t152) 161 t152) 167 t154) 168 t155) 25 t154) 26 t155) 170 t156) 171 (f146 16)) 172 (f146 24)) 173 t157) 174 t158) 169 t158) 175 t160) 176 t161) 27 t160) 28 t161) 177 (f146 23)) 178 (f146 23)) 179 t162) 180 t164) 181 t166) 182 t168) 183 t170) 184 t172) 185 t174) 186 t176) 187 t178) 188 t180) 189 t182) 23 t182) 159 (f146 24)) 160 t183) 24 t183) w181) w179) w177) w175) w173) w171) w169) w167) w165) w163) w159) w153.drew) w147.drew)
         (Q145 (.exit 0) (F.upd (F.upd (F.upd (F.upd f146 155 (f146 24)) 156 (f146 16)) 157 t148) 158 t149) w147))
        (blockQ 0 (seqQ (fun f184 w185 =>
       Rd Try.prog (WS.at w185) (sLoad 26 (f184 11)) fun t186 =>
       CallK Try.prog 26 [t186, (f184 16)] (fun t187 w188 =>
       Rd Try.prog (WS.at w188) (sExtract t187 0) fun t189 =>
       Rd Try.prog (WS.at w188) (sExtract t187 1) fun t190 =>
       Rd Try.prog (WS.at w188) (sUn .not t190) fun t191 =>
       GuardK t191 false (fun k w' => k t189 w') (fun t192 w193 =>
       GuardK t191 false (fun k w' => k (f184 23) w') (fun t194 w195 =>
       GuardK t191 false (fun k w' => Rd Try.prog (WS.at w195) (sBin .neq 4 false t192 t194) fun v => k v w') (fun t196 w197 =>
       Rd Try.prog (WS.at w197) (sPick t191 (.bool true) t196) fun t198 =>
       CondK t198
        (k (.bool false) w197)
        (K75 (F.upd (F.upd (F.upd (F.upd (F.upd (F.upd (F.upd (F.upd (F.upd (F.upd (F.upd (F.upd (F.upd (F.upd (F.upd f184 191 t186) 192 (f184 16)) 193 t187) 190 t187) 194 t189) 195 t190) 29 t189) 30 t190) 196 t190) 197 t191) 198 t191) 199 t192) 200 t194) 201 t196) 202 t198) w197)) w195) w193) w188) w185) (seqQ K75 (bodyQ Try.prog [.tmp 4] k))))
        (F.upd (F.upd (F.upd f124 154 (f124 12)) 23 (.bool false)) 24 (.int .i64 0)) w125)
       (K75 (F.upd f124 154 (f124 12)) w125)))) w119) w114) w109) w106)
     (K75 (F.upd (F.upd (F.upd (F.upd (F.upd (F.upd (F.upd (F.upd (F.upd (F.upd (F.upd (F.upd (F.upd (F.upd (F.upd (F.upd (F.upd (F.upd (F.upd (F.upd (F.upd (F.upd (F.upd (F.upd (F.upd (F.upd (F.upd (F.upd (F.upd (F.upd (F.upd (F.upd (F.upd (F.upd (F.upd (F.upd (F.upd (F.upd (F.upd (F.upd (F.upd (F.upd (F.upd (F.upd (F.upd (F.upd (F.upd (F.upd (F.upd (F.upd (F.upd (F.upd (F.upd (F.upd (F.upd (F.upd (F.upd (F.upd (F.upd (F.upd (F.upd (F.upd (F.upd (F.upd (F.upd (F.upd (F.upd (F.upd (F.upd (F.upd (F.upd (F.upd (F.upd (F.upd (F.upd (F.upd (F.upd (F.upd (F.upd (F.upd (F.upd (F.upd (F.upd (F.upd (F.upd (F.upd (initF [v0, v1]) 4 (.bool false)) 46 v0) 47 v1) 48 t1) 50 v0) 51 t3) 49 t3) 52 t5) 53 t6) 5 t7) 6 t9) 55 t13) 56 t14) 57 t15) 54 t15) 58 t17) 59 t18) 7 t19) 8 t18) 61 t22) 62 t23) 63 t24) 60 t24) 64 t26) 65 t27) 9 t28) 10 t27) 67 t31) 68 t32) 69 t33) 66 t33) 70 t35) 71 t36) 11 t37) 12 t36) 73 t40) 74 t41) 75 t42) 72 t42) 76 t44) 77 t45) 13 t46) 14 t45) 78 t18) 79 t27) 80 t49) 81 t49) 82 t50) 83 t52) 84 t54) 85 t56) 86 t58) 87 t58) 88 t59) 89 t61) 90 t63) 91 t65) 92 t65) 93 t66) 94 t68) 95 t70) 96 t72) 97 t74) 98 t78) 99 t79) 100 t79) 101 t81) 102 t83) 103 t85) 104 t85) 105 t86) 106 t88) 107 t90) 108 t92) 109 t94) 110 t96) 112 v1) 113 t97) 111 t97) 114 t99) 115 t100) 15 t101) 16 t100) 116 t104) 117 t100) 118 t105) w106)) w103) w102) w98) w95)
    (K75 (F.upd (F.upd (F.upd (F.upd (F.upd (F.upd (F.upd (F.upd (F.upd (F.upd (F.upd (F.upd (F.upd (F.upd (F.upd (F.upd (F.upd (F.upd (F.upd (F.upd (F.upd (F.upd (F.upd (F.upd (F.upd (F.upd (F.upd (F.upd (F.upd (F.upd (F.upd (F.upd (F.upd (F.upd (F.upd (F.upd (F.upd (F.upd (F.upd (F.upd (F.upd (F.upd (F.upd (F.upd (F.upd (F.upd (F.upd (F.upd (F.upd (F.upd (F.upd (F.upd (F.upd (F.upd (F.upd (F.upd (F.upd (F.upd (F.upd (F.upd (F.upd (F.upd (F.upd (F.upd (F.upd (F.upd (F.upd (F.upd (F.upd (F.upd (F.upd (F.upd (F.upd (F.upd (F.upd (F.upd (initF [v0, v1]) 4 (.bool false)) 46 v0) 47 v1) 48 t1) 50 v0) 51 t3) 49 t3) 52 t5) 53 t6) 5 t7) 6 t9) 55 t13) 56 t14) 57 t15) 54 t15) 58 t17) 59 t18) 7 t19) 8 t18) 61 t22) 62 t23) 63 t24) 60 t24) 64 t26) 65 t27) 9 t28) 10 t27) 67 t31) 68 t32) 69 t33) 66 t33) 70 t35) 71 t36) 11 t37) 12 t36) 73 t40) 74 t41) 75 t42) 72 t42) 76 t44) 77 t45) 13 t46) 14 t45) 78 t18) 79 t27) 80 t49) 81 t49) 82 t50) 83 t52) 84 t54) 85 t56) 86 t58) 87 t58) 88 t59) 89 t61) 90 t63) 91 t65) 92 t65) 93 t66) 94 t68) 95 t70) 96 t72) 97 t74) 98 t78) 99 t79) 100 t79) 101 t81) 102 t83) 103 t85) 104 t85) 105 t86) 106 t88) 107 t90) 108 t92) 109 t94) 110 t96) w95)) w93) w91) w89) w87) w84) w82) w80) w73) (fun f76 w77 =>
   CallK Try.prog 45 [(f76 1)] (fun t201 w202 =>
   Do Try.prog (sAlloc 26) (fun t203 w204 =>
   Do Try.prog (sStore 26 t203 t201) (fun _ w205 =>
   Rd Try.prog (WS.at w205) (sLoad 26 t203) fun t206 =>
   CallK Try.prog 46 [t206] (fun t207 w208 =>
   Rd Try.prog (WS.at w208) (sExtract t207 0) fun t209 =>
   Rd Try.prog (WS.at w208) (sExtract t207 1) fun t210 =>
   Do Try.prog (sAlloc 26) (fun t211 w212 =>
   Do Try.prog (sStore 26 t211 t209) (fun _ w213 =>
   Rd Try.prog (WS.at w213) (sLoad 26 t203) fun t214 =>
   CallK Try.prog 47 [t214] (fun t215 w216 =>
   Rd Try.prog (WS.at w216) (sExtract t215 0) fun t217 =>
   Rd Try.prog (WS.at w216) (sExtract t215 1) fun t218 =>
   Do Try.prog (sAlloc 26) (fun t219 w220 =>
   Do Try.prog (sStore 26 t219 t217) (fun _ w221 =>
   Rd Try.prog (WS.at w221) (sBin .neq 4 false t210 t218) fun t222 =>
   GuardK t222 false (fun k w' => Rd Try.prog (WS.at w221) (sLoad 26 t211) fun v => k v w') (fun t223 w224 =>
   GuardK t222 false (fun k w' => Rd Try.prog (WS.at w224) (sLoad 26 t219) fun v => k v w') (fun t225 w226 =>
   GuardK t222 false (fun k w' => CallK Try.prog 41 [t223, t225] k w') (fun t227 w228 =>
   GuardK t222 false (fun k w' => Rd Try.prog (WS.at w228) (sUn .not t227) fun v => k v w') (fun t229 w230 =>
   Rd Try.prog (WS.at w230) (sPick t222 (.bool true) t229) fun t231 =>
   CondK t231
    (k (.bool false) w230)
    (Join (fun K232 =>
    CondK t210
     (Rd Try.prog (WS.at w230) (sLoad 26 t211) fun t235 =>
     CallK Try.prog 26 [t235, (.slice none 0 0)] (fun t236 w237 =>
     Rd Try.prog (WS.at w237) (sExtract t236 0) fun t238 =>
     Rd Try.prog (WS.at w237) (sExtract t236 1) fun t239 =>
     Rd Try.prog (WS.at w237) (sUn .not t239) fun t240 =>
     GuardK t240 false (fun k w' => k t238 w') (fun t241 w242 =>
     GuardK t240 false (fun k w' => Rd Try.prog (WS.at w242) (sUn .not t241) fun v => k v w') (fun t243 w244 =>
     Rd Try.prog (WS.at w244) (sPick t240 (.bool true) t243) fun t245 =>
     CondK t245
      (k (.bool false) w244)
      (Rd Try.prog (WS.at w244) (sLoad 26 t203) fun t246 =>
      CallK Try.prog 23 [t246, (.int .i64 2)] (fun t247 w248 =>
      Rd Try.prog (WS.at w248) (sExtract t247 0) fun t249 =>
      Rd Try.prog (WS.at w248) (sExtract t247 1) fun t250 =>
      Rd Try.prog (WS.at w248) (sBuiltin .len #[35] 3 [false] [t249]) fun t251 =>
      LoopF [244, 245, 246, 41, 247, 248, 249, 250, 251, 252, 43, 254, 255, 256, 257, 258, 259, 260, 253, 261, 262, 44, 45, 263, 264, 265, 266, 267, 268, 269, 270, 271, 272, 4, 273, 249, 274, 243] (fun Q252 f253 w254 =>
       Rd Try.prog (WS.at w254) (sBin .lss 3 false (f253 243) (f253 242)) fun t255 =>
       CondK t255
        (Rd Try.prog (WS.at w254) (sIndexAddr 35 (f253 241) (f253 243)) fun t256 =>
        Rd Try.prog (WS.at w254) (sLoad 27 t256) fun t257 =>
        Rd Try.prog (WS.at w254) (sBuiltin .len #[35] 3 [false] [(f253 38)]) fun t258 =>
        LoopF [250, 251, 252, 43, 254, 255, 256, 257, 258, 259, 260, 253, 261, 262, 44, 45, 263, 264, 265, 266, 267, 268, 269, 270, 271, 272, 4, 273, 249] (fun Q259 f260 w261 =>
         Rd Try.prog (WS.at w261) (sBin .lss 3 false (f260 249) (f260 248)) fun t262 =>
         CondK t262
          (Rd Try.prog (WS.at w261) (sIndexAddr 35 (f260 247) (f260 249)) fun t263 =>
          Rd Try.prog (WS.at w261) (sLoad 27 t263) fun t264 =>
          ∃ S265 : World → Prop, ∃ h266 : S265 w261.drew,
          Rd Try.prog ⟨S265, w261.drew, h266⟩ (sLoad 26 (f260 32)) fun t267 =>
          Do Try.prog (sBuildSlice 27 0 []) (fun t268 w269 =>
          S265 w269 ∧ Do Try.prog (sBuiltin .append #[27, 27] 27 [false, false] [t268, (f260 41)]) (fun t270 w271 =>
          S265 w271 ∧ Do Try.prog (sBuiltin .append #[27, 27] 27 [false, false] [t270, t264]) (fun t272 w273 =>
          S265 w273 ∧ CallK Try.prog 26 [t267, t272] (fun t274 w275 =>
          Rd Try.prog WS.any (sExtract t274 0) fun t276 =>
          Rd Try.prog WS.any (sExtract t274 1) fun t277 =>
          Rd Try.prog (WS.at w275) (sUn .not (f260 39)) fun t278 =>
          GuardK t278 false (fun k w' => k t277 w') (fun t279 w280 =>
          GuardK t278 false (fun k w' => Rd Try.prog (WS.at w280) (sUn .not t279) fun v => k v w') (fun t281 w282 =>
          Rd Try.prog (WS.at w282) (sPick t278 (.bool true) t281) fun t283 =>
          GuardK t283 false (fun k w' => k t276 w') (fun t284 w285 =>
          GuardK t283 false (fun k w' => Rd Try.prog (WS.at w285) (sUn .not t284) fun v => k v w') (fun t286 w287 =>
          Rd Try.prog (WS.at w287) (sPick t283 (.bool true) t286) fun t288 =>
          CondK t288
           (Q259 .ret (F.upd (F.upd (F.upd (F.upd (F.upd (F.upd (F.upd (F.upd (F.upd (F.upd (F.upd (F.upd (F.upd (F.upd (F.upd (F.upd (F.upd (F.upd (F.upd (F.upd (F.upd (F.upd (F.upd (F.upd (F.upd (F.upd (F.upd f260 250 t262) 251 t263) 252 t264) 43 t264) 254 t267) 256 (f260 41)) 258 t264) 255 t268) 257 t270) 259 t272) 260 t274) 253 t274) 261 t276) 262 t277) 44 t276) 45 t277) 263 (f260 39)) 264 t278) 265 t278) 266 t279) 267 t281) 268 t283) 269 t283) 270 t284) 271 t286) 272 t288) 4 (.bool false)) w287)
           (Rd Try.prog (WS.at w287) (sBin .add 3 true (f260 249) (.int .i64 1)) fun t289 =>
           Q259 .normal (F.upd (F.upd (F.upd (F.upd (F.upd (F.upd (F.upd (F.upd (F.upd (F.upd (F.upd (F.upd (F.upd (F.upd (F.upd (F.upd (F.upd (F.upd (F.upd (F.upd (F.upd (F.upd (F.upd (F.upd (F.upd (F.upd (F.upd (F.upd f260 250 t262) 251 t263) 252 t264) 43 t264) 254 t267) 256 (f260 41)) 258 t264) 255 t268) 257 t270) 259 t272) 260 t274) 253 t274) 261 t276) 262 t277) 44 t276) 45 t277) 263 (f260 39)) 264 t278) 265 t278) 266 t279) 267 t281) 268 t283) 269 t283) 270 t284) 271 t286) 272 t288) 273 t289) 249 t289) w287)) w285) w282) w280) w275) w273) w271) w269) w261.drew)
          (Q259 (.exit 4) (F.upd f260 250 t262) w261))
         (blockQ 4 (blockQ 3 (seqQ (fun f290 w291 =>
        Rd Try.prog (WS.at w291) (sBin .add 3 true (f290 243) (.int .i64 1)) fun t292 =>
        Q252 .normal (F.upd (F.upd f290 274 t292) 243 t292) w291) Q252)))
         (F.upd (F.upd (F.upd (F.upd (F.upd (F.upd (F.upd f253 244 t255) 245 t256) 246 t257) 41 t257) 247 (f253 38)) 248 t258) 249 (.int .i64 0)) w254)
        (Q252 (.exit 2) (F.upd f253 244 t255) w254))
       (blockQ 2 (seqQ K232 (bodyQ Try.prog [.tmp 4] k)))
       (F.upd (F.upd (F.upd (F.upd (F.upd (F.upd (F.upd (F.upd (F.upd (F.upd (F.upd (F.upd (F.upd (F.upd (F.upd (F.upd (F.upd (F.upd (F.upd (F.upd (F.upd (F.upd (F.upd (F.upd (F.upd (F.upd (F.upd (F.upd (F.upd (F.upd (F.upd (F.upd (F.upd (F.upd (F.upd (F.upd (F.upd (F.upd (F.upd (F.upd (F.upd (F.upd (F.upd (F.upd (F.upd (F.upd (F.upd (F.upd (F.upd (F.upd f76 203 (f76 1)) 204 t201) 31 t203) 206 t206) 207 t207) 205 t207) 208 t209) 209 t210) 32 t211) 33 t210) 211 t214) 212 t215) 210 t215) 213 t217) 214 t218) 34 t219) 35 t218) 215 t210) 216 t218) 217 t222) 218 t222) 219 t223) 220 t225) 221 t227) 222 t229) 223 t231) 224 t210) 226 t235) 227 t236) 225 t236) 228 t238) 229 t239) 36 t238) 37 t239) 230 t239) 231 t240) 232 t240) 233 t241) 234 t243) 235 t245) 237 t246) 238 t247) 236 t247) 239 t249) 240 t250) 38 t249) 39 t250) 241 t249) 242 t251) 243 (.int .i64 0)) w248) w244)) w242) w237) w230)
     (K232 (F.upd (F.upd (F.upd (F.upd (F.upd (F.upd (F.upd (F.upd (F.upd (F.upd (F.upd (F.upd (F.upd (F.upd (F.upd (F.upd (F.upd (F.upd (F.upd (F.upd (F.upd (F.upd (F.upd (F.upd (F.upd (F.upd (F.upd f76 203 (f76 1)) 204 t201) 31 t203) 206 t206) 207 t207) 205 t207) 208 t209) 209 t210) 32 t211) 33 t210) 211 t214) 212 t215) 210 t215) 213 t217) 214 t218) 34 t219) 35 t218) 215 t210) 216 t218) 217 t222) 218 t222) 219 t223) 220 t225) 221 t227) 222 t229) 223 t231) 224 t210) w230)) (fun f233 w234 =>
    k (.bool true) w234))) w228) w226) w224) w221) w220) w216) w213) w212) w208) w205) w204) w202) w77))) w71) w69) w67) w64) w62) w60) w57) w55) w53) w51) w48) w47) w43) w39) w38) w34) w30) w29) w25) w21) w20) w16) w12) w11) w10) w8) w4) w2)) w
/-! loop.example/g00758/impl.GoodGrammar -/
/-! loop.example/g00758/impl.GoodWord -/
end Go.Proofs.Ytegcjkhebecgbaa

/- What is known and stays so; the laws' own small functions: big, sameInts, sameLists, containsList, sameRules, sameGrammar, has. -/
set_option linter.unusedVariables false
set_option linter.unusedSimpArgs false
set_option maxRecDepth 100000
namespace Go.Sh
open Go
/-- Facts that hold in each world to come. -/
def Kn (w : World) (L : List (World → Prop)) : Prop := ∀ (i : Nat) (P : World → Prop), L[i]? = some P → ∀ w', Gr w w' → P w'
section
variable {w w' : World} {L : List (World → Prop)} {P : World → Prop}
theorem Kn.step (H : Kn w L) (g : Gr w w') : Kn w' L := fun i P hi w'' g' => H i P hi w'' (gr_trans g g')
theorem Kn.drew (H : Kn w L) : Kn w.drew L := H.step (gr_drew w)
theorem Kn.get (H : Kn w L) (i : Nat) (hi : L[i]? = some P) : P w := H i P hi w (Gr.refl w)
theorem Kn.nil (w : World) : Kn w [fun w' => Gr w w'] := fun i P hi w' g => by
  match i, hi with
  | 0, hi => obtain rfl := Option.some.inj hi; exact g
  | i + 1, hi => simp at hi
theorem Kn.add (H : Kn w L) (h : ∀ w', Gr w w' → P w') : Kn w (L ++ [P]) := fun i Q hi w' g => by
  rw [List.getElem?_append] at hi
  split at hi
  · exact H i Q hi w' g
  · rename_i hn
    match hk : i - L.length, hi with
    | 0, hi => simp at hi; subst hi; exact h w' g
    | k + 1, hi => simp at hi
end
abbrev kI (X : Option Addr) (xs : List Int) (c : Nat) : World → Prop := fun w => Ints w X xs ∧ xs.length ≤ c
abbrev kG (Y : Option Addr) (cy : Nat) (rs : List RuleL) : World → Prop := fun w => rs.length ≤ cy ∧ RulesF (fun _ => True) w Y rs
abbrev kS (X : Option Addr) (ls : List (List Int)) : World → Prop := fun w => Intss w X ls
abbrev kB (b : Nat) (cs : List Value) (t : TypeId) : World → Prop := fun w => Box w b cs t
section
variable {w w' : World} {L : List (World → Prop)}
theorem Kn.addI (H : Kn w L) {X : Option Addr} {xs : List Int} {c : Nat} (h : Ints w X xs) (hc : xs.length ≤ c) : Kn w (L ++ [kI X xs c]) := H.add fun w' g => ⟨h.gr g, hc⟩
theorem Kn.addG (H : Kn w L) {Y : Option Addr} {cy : Nat} {rs : List RuleL} (hc : rs.length ≤ cy) (h : RulesF (fun _ => True) w Y rs) : Kn w (L ++ [kG Y cy rs]) := H.add fun w' g => ⟨hc, h.gr g⟩
theorem Kn.addS (H : Kn w L) {X : Option Addr} {ls : List (List Int)} (h : Intss w X ls) : Kn w (L ++ [kS X ls]) := H.add fun w' g => h.gr g
theorem Kn.addB (H : Kn w L) {b : Nat} {cs : List Value} {t : TypeId} (h : Box w b cs t) : Kn w (L ++ [kB b cs t]) := H.add fun w' g => h.gr g
theorem gvK {Y : Option Addr} {cy : Nat} {gm : Gram} (h : kG Y cy gm.rules w) : GramV (fun _ => True) w (.agg #[.int .i64 gm.nons, .int .i64 gm.toks, .slice Y gm.rules.length cy]) gm := ⟨Y, cy, rfl, h.1, h.2⟩
end
/-- A box filled at once. -/
theorem do_new {P : Program} {k : Value → World → Prop} {w : World} {L : List (World → Prop)} {t sz by' : Nat} {z : Value} {cs : List Value} (H : Kn w L) (I : Inf P t z sz by') (hs : szOf P t sz) (hz : z.cells.size = sz) (hl : cs.length = sz) (h1 : cs.all Value.oneCell' = true) (hv : (Value.agg cs.toArray).cells = cs.toArray)
    (h : ∀ b w', Kn w' (L ++ [kB b cs t]) → k (.pointer (some ⟨b, 0, none⟩)) w') : Do P (sAlloc t) (fun p w1 => Do P (sStore t p (.agg cs.toArray)) (fun _ w2 => k p w2) w1) w := by
  refine do_alloc_of I fun b w1 g1 hb B1 => ?_
  refine do_store (n := sz) hs (by rw [hv]; simpa using hl) (fun u hu => ?_) B1 (by simp [hz]) fun w2 g2 _ B2 => ?_
  · rw [hv] at hu
    exact List.all_eq_true.1 h1 u (by simpa using hu)
  · have g : Gr w w2 := gr_mod g1 g2 fun q hq => by
      obtain rfl := Option.some.inj hq
      exact hb
    refine h b w2 ((H.step g).addB ?_)
    have e : List.take 0 z.cells.toList ++ (Value.agg cs.toArray).cells.toList ++ List.drop (0 + sz) z.cells.toList = cs := by
      rw [hv, List.drop_eq_nil_of_le (by simp [hz])]
      simp
    rw [← e]
    exact B2
end Go.Sh
namespace Go.Proofs.Ytegcjkhebecgbaa
open Go Go.Sh Go.RowKit
theorem big_c {w : World} {X Y : Option Addr} {n m c d : Nat} (hn : n ≤ 9223372036854775807) (hm : m ≤ 9223372036854775807) {k : Value → World → Prop} (hk : ∀ b, k (.bool b) w) :
    CallK Try.prog 15 [.slice X n c, .slice Y m d] k w := by
  refine enter15 ?_
  unfold S15
  simp only [bin_add, bin_sub, bin_mul, bin_eql, bin_neq, bin_lss, bin_leq, bin_gtr, bin_geq, un_not, un_neg, zq4, zq3, zq1, zq2, zq0, cond_true', cond_false', zq14, zq15, zq16, zq17, zq13, zq10, zq12, zq11, zq7, zq5, zq6, zq9, zq8, resK_nil, resK_tmp, ite_T, ite_F, upd_at, add_plain, add_zero', Nat.reduceEqDiff, fa8_0, fa8_1, fa8_2, fa8_3, fa14_0, fa14_1, fa19_0, len22, len24, fa26_0, fa26_1, fa26_2, len27, fa33_0, fa33_1, len35, fa77_0, fa77_1, fa88_0, fa88_1, fa88_2, fa88_3, fa88_4, fa88_5, fa114_0, fa114_1, fa114_2, fa124_0, fa124_1, len134, len136, len154, fa156_0, fa156_1, fa156_2, fa156_3, fa156_4, fa156_5, fa156_6, fa184_0, fa184_1, fa200_0, fa200_1, fa200_2, fa200_3, fa215_0, fa215_1, fa215_2, fa215_3, fa215_4, len218, len271, fa274_0, fa274_1, fa274_2, fa303_0, fa303_1, fa303_2, fa303_3, fa314_0, fa314_1, fa314_2, fa314_3, fa314_4, fa314_5, fa314_6, fa314_7, fa314_8, fa314_9, fa314_10]
  by_cases h : (1048576 : Int) < n
  · simp only [h, decide_true, bin_add, bin_sub, bin_mul, bin_eql, bin_neq, bin_lss, bin_leq, bin_gtr, bin_geq, un_not, un_neg, zq4, zq3, zq1, zq2, zq0, cond_true', cond_false', zq14, zq15, zq16, zq17, zq13, zq10, zq12, zq11, zq7, zq5, zq6, zq9, zq8, resK_nil, resK_tmp, ite_T, ite_F, upd_at, add_plain, add_zero', Nat.reduceEqDiff, fa8_0, fa8_1, fa8_2, fa8_3, fa14_0, fa14_1, fa19_0, len22, len24, fa26_0, fa26_1, fa26_2, len27, fa33_0, fa33_1, len35, fa77_0, fa77_1, fa88_0, fa88_1, fa88_2, fa88_3, fa88_4, fa88_5, fa114_0, fa114_1, fa114_2, fa124_0, fa124_1, len134, len136, len154, fa156_0, fa156_1, fa156_2, fa156_3, fa156_4, fa156_5, fa156_6, fa184_0, fa184_1, fa200_0, fa200_1, fa200_2, fa200_3, fa215_0, fa215_1, fa215_2, fa215_3, fa215_4, len218, len271, fa274_0, fa274_1, fa274_2, fa303_0, fa303_1, fa303_2, fa303_3, fa314_0, fa314_1, fa314_2, fa314_3, fa314_4, fa314_5, fa314_6, fa314_7, fa314_8, fa314_9, fa314_10]
    exact hk _
  · simp only [h, decide_false, bin_add, bin_sub, bin_mul, bin_eql, bin_neq, bin_lss, bin_leq, bin_gtr, bin_geq, un_not, un_neg, zq4, zq3, zq1, zq2, zq0, cond_true', cond_false', zq14, zq15, zq16, zq17, zq13, zq10, zq12, zq11, zq7, zq5, zq6, zq9, zq8, resK_nil, resK_tmp, ite_T, ite_F, upd_at, add_plain, add_zero', Nat.reduceEqDiff, fa8_0, fa8_1, fa8_2, fa8_3, fa14_0, fa14_1, fa19_0, len22, len24, fa26_0, fa26_1, fa26_2, len27, fa33_0, fa33_1, len35, fa77_0, fa77_1, fa88_0, fa88_1, fa88_2, fa88_3, fa88_4, fa88_5, fa114_0, fa114_1, fa114_2, fa124_0, fa124_1, len134, len136, len154, fa156_0, fa156_1, fa156_2, fa156_3, fa156_4, fa156_5, fa156_6, fa184_0, fa184_1, fa200_0, fa200_1, fa200_2, fa200_3, fa215_0, fa215_1, fa215_2, fa215_3, fa215_4, len218, len271, fa274_0, fa274_1, fa274_2, fa303_0, fa303_1, fa303_2, fa303_3, fa314_0, fa314_1, fa314_2, fa314_3, fa314_4, fa314_5, fa314_6, fa314_7, fa314_8, fa314_9, fa314_10]
    exact hk _
theorem sameInts_c {w : World} {X Y : Option Addr} {c d : Nat} {xs ys : List Int} (hx : Ints w X xs) (hy : Ints w Y ys) {k : Value → World → Prop} (hk : ∀ w', Gr w w' → k (.bool (decide (xs = ys))) w') :
    CallK Try.prog 34 [.slice X xs.length c, .slice Y ys.length d] k w := by
  refine enter34 ?_
  unfold S34
  simp only [bin_add, bin_sub, bin_mul, bin_eql, bin_neq, bin_lss, bin_leq, bin_gtr, bin_geq, un_not, un_neg, zq4, zq3, zq1, zq2, zq0, cond_true', cond_false', zq14, zq15, zq16, zq17, zq13, zq10, zq12, zq11, zq7, zq5, zq6, zq9, zq8, resK_nil, resK_tmp, ite_T, ite_F, upd_at, add_plain, add_zero', Nat.reduceEqDiff, fa8_0, fa8_1, fa8_2, fa8_3, fa14_0, fa14_1, fa19_0, len22, len24, fa26_0, fa26_1, fa26_2, len27, fa33_0, fa33_1, len35, fa77_0, fa77_1, fa88_0, fa88_1, fa88_2, fa88_3, fa88_4, fa88_5, fa114_0, fa114_1, fa114_2, fa124_0, fa124_1, len134, len136, len154, fa156_0, fa156_1, fa156_2, fa156_3, fa156_4, fa156_5, fa156_6, fa184_0, fa184_1, fa200_0, fa200_1, fa200_2, fa200_3, fa215_0, fa215_1, fa215_2, fa215_3, fa215_4, len218, len271, fa274_0, fa274_1, fa274_2, fa303_0, fa303_1, fa303_2, fa303_3, fa314_0, fa314_1, fa314_2, fa314_3, fa314_4, fa314_5, fa314_6, fa314_7, fa314_8, fa314_9, fa314_10]
  by_cases hl : xs.length = ys.length
  · simp only [Int.ofNat_inj, hl, decide_true, Bool.not_true, bin_add, bin_sub, bin_mul, bin_eql, bin_neq, bin_lss, bin_leq, bin_gtr, bin_geq, un_not, un_neg, zq4, zq3, zq1, zq2, zq0, cond_true', cond_false', zq14, zq15, zq16, zq17, zq13, zq10, zq12, zq11, zq7, zq5, zq6, zq9, zq8, resK_nil, resK_tmp, ite_T, ite_F, upd_at, add_plain, add_zero', Nat.reduceEqDiff, fa8_0, fa8_1, fa8_2, fa8_3, fa14_0, fa14_1, fa19_0, len22, len24, fa26_0, fa26_1, fa26_2, len27, fa33_0, fa33_1, len35, fa77_0, fa77_1, fa88_0, fa88_1, fa88_2, fa88_3, fa88_4, fa88_5, fa114_0, fa114_1, fa114_2, fa124_0, fa124_1, len134, len136, len154, fa156_0, fa156_1, fa156_2, fa156_3, fa156_4, fa156_5, fa156_6, fa184_0, fa184_1, fa200_0, fa200_1, fa200_2, fa200_3, fa215_0, fa215_1, fa215_2, fa215_3, fa215_4, len218, len271, fa274_0, fa274_1, fa274_2, fa303_0, fa303_1, fa303_2, fa303_3, fa314_0, fa314_1, fa314_2, fa314_3, fa314_4, fa314_5, fa314_6, fa314_7, fa314_8, fa314_9, fa314_10]
    rw [← hl]
    refine loop_to xs.length 0 (fun i f w' => i ≤ xs.length ∧ f 13 = .int .i64 i ∧ Gr w w' ∧ xs.take i = ys.take i) ⟨Nat.zero_le _, rfl, Gr.refl w, rfl⟩ ?_
    rintro i f w1 N hag ⟨hi, h13, hg, hpre⟩ hN
    have h0 : f 0 = .slice X xs.length c := hag 0 (by decide)
    have h1 : f 1 = .slice Y xs.length d := hag 1 (by decide)
    have h12 : f 12 = .int .i64 xs.length := hag 12 (by decide)
    simp only [h0, h1, h12, h13, bin_add, bin_sub, bin_mul, bin_eql, bin_neq, bin_lss, bin_leq, bin_gtr, bin_geq, un_not, un_neg, zq4, zq3, zq1, zq2, zq0, cond_true', cond_false', zq14, zq15, zq16, zq17, zq13, zq10, zq12, zq11, zq7, zq5, zq6, zq9, zq8, resK_nil, resK_tmp, ite_T, ite_F, upd_at, add_plain, add_zero', Nat.reduceEqDiff, fa8_0, fa8_1, fa8_2, fa8_3, fa14_0, fa14_1, fa19_0, len22, len24, fa26_0, fa26_1, fa26_2, len27, fa33_0, fa33_1, len35, fa77_0, fa77_1, fa88_0, fa88_1, fa88_2, fa88_3, fa88_4, fa88_5, fa114_0, fa114_1, fa114_2, fa124_0, fa124_1, len134, len136, len154, fa156_0, fa156_1, fa156_2, fa156_3, fa156_4, fa156_5, fa156_6, fa184_0, fa184_1, fa200_0, fa200_1, fa200_2, fa200_3, fa215_0, fa215_1, fa215_2, fa215_3, fa215_4, len218, len271, fa274_0, fa274_1, fa274_2, fa303_0, fa303_1, fa303_2, fa303_3, fa314_0, fa314_1, fa314_2, fa314_3, fa314_4, fa314_5, fa314_6, fa314_7, fa314_8, fa314_9, fa314_10]
    by_cases hlt : i < xs.length
    · have hlt' : (i : Int) < xs.length := by omega
      have := hx.le
      simp only [hlt', decide_true, bin_add, bin_sub, bin_mul, bin_eql, bin_neq, bin_lss, bin_leq, bin_gtr, bin_geq, un_not, un_neg, zq4, zq3, zq1, zq2, zq0, cond_true', cond_false', zq14, zq15, zq16, zq17, zq13, zq10, zq12, zq11, zq7, zq5, zq6, zq9, zq8, resK_nil, resK_tmp, ite_T, ite_F, upd_at, add_plain, add_zero', Nat.reduceEqDiff, fa8_0, fa8_1, fa8_2, fa8_3, fa14_0, fa14_1, fa19_0, len22, len24, fa26_0, fa26_1, fa26_2, len27, fa33_0, fa33_1, len35, fa77_0, fa77_1, fa88_0, fa88_1, fa88_2, fa88_3, fa88_4, fa88_5, fa114_0, fa114_1, fa114_2, fa124_0, fa124_1, len134, len136, len154, fa156_0, fa156_1, fa156_2, fa156_3, fa156_4, fa156_5, fa156_6, fa184_0, fa184_1, fa200_0, fa200_1, fa200_2, fa200_3, fa215_0, fa215_1, fa215_2, fa215_3, fa215_4, len218, len271, fa274_0, fa274_1, fa274_2, fa303_0, fa303_1, fa303_2, fa303_3, fa314_0, fa314_1, fa314_2, fa314_3, fa314_4, fa314_5, fa314_6, fa314_7, fa314_8, fa314_9, fa314_10]
      rw [ixn27 hx.ptr hlt, ld3 ((hx.gr (gr_trans hg (gr_drew w1))).cell i hlt), ixn27 (hl ▸ hy.ptr) hlt, ld3 ((hy.gr (gr_trans hg (gr_drew w1))).cell i (by omega))]
      simp only [bin_add, bin_sub, bin_mul, bin_eql, bin_neq, bin_lss, bin_leq, bin_gtr, bin_geq, un_not, un_neg, zq4, zq3, zq1, zq2, zq0, cond_true', cond_false', zq14, zq15, zq16, zq17, zq13, zq10, zq12, zq11, zq7, zq5, zq6, zq9, zq8, resK_nil, resK_tmp, ite_T, ite_F, upd_at, add_plain, add_zero', Nat.reduceEqDiff, fa8_0, fa8_1, fa8_2, fa8_3, fa14_0, fa14_1, fa19_0, len22, len24, fa26_0, fa26_1, fa26_2, len27, fa33_0, fa33_1, len35, fa77_0, fa77_1, fa88_0, fa88_1, fa88_2, fa88_3, fa88_4, fa88_5, fa114_0, fa114_1, fa114_2, fa124_0, fa124_1, len134, len136, len154, fa156_0, fa156_1, fa156_2, fa156_3, fa156_4, fa156_5, fa156_6, fa184_0, fa184_1, fa200_0, fa200_1, fa200_2, fa200_3, fa215_0, fa215_1, fa215_2, fa215_3, fa215_4, len218, len271, fa274_0, fa274_1, fa274_2, fa303_0, fa303_1, fa303_2, fa303_3, fa314_0, fa314_1, fa314_2, fa314_3, fa314_4, fa314_5, fa314_6, fa314_7, fa314_8, fa314_9, fa314_10]
      by_cases he : xs.getD i 0 = ys.getD i 0
      · simp only [he, decide_true, Bool.not_true, bin_add, bin_sub, bin_mul, bin_eql, bin_neq, bin_lss, bin_leq, bin_gtr, bin_geq, un_not, un_neg, zq4, zq3, zq1, zq2, zq0, cond_true', cond_false', zq14, zq15, zq16, zq17, zq13, zq10, zq12, zq11, zq7, zq5, zq6, zq9, zq8, resK_nil, resK_tmp, ite_T, ite_F, upd_at, add_plain, add_zero', Nat.reduceEqDiff, fa8_0, fa8_1, fa8_2, fa8_3, fa14_0, fa14_1, fa19_0, len22, len24, fa26_0, fa26_1, fa26_2, len27, fa33_0, fa33_1, len35, fa77_0, fa77_1, fa88_0, fa88_1, fa88_2, fa88_3, fa88_4, fa88_5, fa114_0, fa114_1, fa114_2, fa124_0, fa124_1, len134, len136, len154, fa156_0, fa156_1, fa156_2, fa156_3, fa156_4, fa156_5, fa156_6, fa184_0, fa184_1, fa200_0, fa200_1, fa200_2, fa200_3, fa215_0, fa215_1, fa215_2, fa215_3, fa215_4, len218, len271, fa274_0, fa274_1, fa274_2, fa303_0, fa303_1, fa303_2, fa303_3, fa314_0, fa314_1, fa314_2, fa314_3, fa314_4, fa314_5, fa314_6, fa314_7, fa314_8, fa314_9, fa314_10]
        rw [i64_of (by omega) (by omega)]
        refine hN _ _ hlt ⟨by omega, rfl, gr_trans hg (gr_drew w1), ?_⟩
        rw [take_snoc hlt, take_snoc (by omega), hpre, he]
      · simp only [he, decide_false, Bool.not_false, bin_add, bin_sub, bin_mul, bin_eql, bin_neq, bin_lss, bin_leq, bin_gtr, bin_geq, un_not, un_neg, zq4, zq3, zq1, zq2, zq0, cond_true', cond_false', zq14, zq15, zq16, zq17, zq13, zq10, zq12, zq11, zq7, zq5, zq6, zq9, zq8, resK_nil, resK_tmp, ite_T, ite_F, upd_at, add_plain, add_zero', Nat.reduceEqDiff, fa8_0, fa8_1, fa8_2, fa8_3, fa14_0, fa14_1, fa19_0, len22, len24, fa26_0, fa26_1, fa26_2, len27, fa33_0, fa33_1, len35, fa77_0, fa77_1, fa88_0, fa88_1, fa88_2, fa88_3, fa88_4, fa88_5, fa114_0, fa114_1, fa114_2, fa124_0, fa124_1, len134, len136, len154, fa156_0, fa156_1, fa156_2, fa156_3, fa156_4, fa156_5, fa156_6, fa184_0, fa184_1, fa200_0, fa200_1, fa200_2, fa200_3, fa215_0, fa215_1, fa215_2, fa215_3, fa215_4, len218, len271, fa274_0, fa274_1, fa274_2, fa303_0, fa303_1, fa303_2, fa303_3, fa314_0, fa314_1, fa314_2, fa314_3, fa314_4, fa314_5, fa314_6, fa314_7, fa314_8, fa314_9, fa314_10]
        have := hk _ (gr_trans hg (gr_drew w1))
        rwa [decide_eq_false (fun e => he (by rw [e]))] at this
    · simp only [show ¬ (i : Int) < xs.length from by omega, decide_false, bin_add, bin_sub, bin_mul, bin_eql, bin_neq, bin_lss, bin_leq, bin_gtr, bin_geq, un_not, un_neg, zq4, zq3, zq1, zq2, zq0, cond_true', cond_false', zq14, zq15, zq16, zq17, zq13, zq10, zq12, zq11, zq7, zq5, zq6, zq9, zq8, resK_nil, resK_tmp, ite_T, ite_F, upd_at, add_plain, add_zero', Nat.reduceEqDiff, fa8_0, fa8_1, fa8_2, fa8_3, fa14_0, fa14_1, fa19_0, len22, len24, fa26_0, fa26_1, fa26_2, len27, fa33_0, fa33_1, len35, fa77_0, fa77_1, fa88_0, fa88_1, fa88_2, fa88_3, fa88_4, fa88_5, fa114_0, fa114_1, fa114_2, fa124_0, fa124_1, len134, len136, len154, fa156_0, fa156_1, fa156_2, fa156_3, fa156_4, fa156_5, fa156_6, fa184_0, fa184_1, fa200_0, fa200_1, fa200_2, fa200_3, fa215_0, fa215_1, fa215_2, fa215_3, fa215_4, len218, len271, fa274_0, fa274_1, fa274_2, fa303_0, fa303_1, fa303_2, fa303_3, fa314_0, fa314_1, fa314_2, fa314_3, fa314_4, fa314_5, fa314_6, fa314_7, fa314_8, fa314_9, fa314_10]
      have := hk _ hg
      rwa [decide_eq_true] at this
      rwa [List.take_of_length_le (by omega), List.take_of_length_le (by omega)] at hpre
  · simp only [Int.ofNat_inj, hl, decide_false, Bool.not_false, bin_add, bin_sub, bin_mul, bin_eql, bin_neq, bin_lss, bin_leq, bin_gtr, bin_geq, un_not, un_neg, zq4, zq3, zq1, zq2, zq0, cond_true', cond_false', zq14, zq15, zq16, zq17, zq13, zq10, zq12, zq11, zq7, zq5, zq6, zq9, zq8, resK_nil, resK_tmp, ite_T, ite_F, upd_at, add_plain, add_zero', Nat.reduceEqDiff, fa8_0, fa8_1, fa8_2, fa8_3, fa14_0, fa14_1, fa19_0, len22, len24, fa26_0, fa26_1, fa26_2, len27, fa33_0, fa33_1, len35, fa77_0, fa77_1, fa88_0, fa88_1, fa88_2, fa88_3, fa88_4, fa88_5, fa114_0, fa114_1, fa114_2, fa124_0, fa124_1, len134, len136, len154, fa156_0, fa156_1, fa156_2, fa156_3, fa156_4, fa156_5, fa156_6, fa184_0, fa184_1, fa200_0, fa200_1, fa200_2, fa200_3, fa215_0, fa215_1, fa215_2, fa215_3, fa215_4, len218, len271, fa274_0, fa274_1, fa274_2, fa303_0, fa303_1, fa303_2, fa303_3, fa314_0, fa314_1, fa314_2, fa314_3, fa314_4, fa314_5, fa314_6, fa314_7, fa314_8, fa314_9, fa314_10]
    have := hk _ (Gr.refl w)
    rwa [decide_eq_false (fun e => hl (by rw [e]))] at this
end Go.Proofs.Ytegcjkhebecgbaa

/- Contracts: Derives, InLanguage, SequenceDerives. -/
set_option linter.unusedVariables false
set_option linter.unusedSimpArgs false
set_option maxRecDepth 100000
namespace Go.Sh
open Go
def wordG (gm : Gram) (ws : List Int) : Bool := goodG gm && wordB gm.toks ws
noncomputable def inLV (gm : Gram) (ws : List Int) : Bool × Bool := if wordG gm ws = true then (inL gm.rules ws, true) else (false, false)
theorem wordB_of {toks : Int} {ws : List Int} (h : wordB toks ws = true) : ws.length ≤ 10 ∧ ∀ t ∈ ws, 0 ≤ t ∧ t ≤ toks - 1 := by
  simp only [wordB, allB, inB, Bool.and_eq_true, decide_eq_true_eq, List.all_eq_true] at h
  exact h
end Go.Sh
namespace Go.Proofs.Ytegcjkhebecgbaa
open Go Go.Sh Go.RowKit
section
variable {w : World} {X Z Y : Option Addr} {cx cz cy : Nat} {gm : Gram} {ws xs : List Int} {k : Value → World → Prop}
abbrev grv (gm : Gram) (Y : Option Addr) (cy : Nat) : Value := .agg #[.int .i64 gm.nons, .int .i64 gm.toks, .slice Y gm.rules.length cy]
set_option maxHeartbeats 1600000 in
theorem implInLanguage_c (hG : kG Y cy gm.rules w) (hX : kI X ws cx w) (hk : ∀ w', Gr w w' → k (.tuple #[.bool (inLV gm ws).1, .bool (inLV gm ws).2]) w') :
    CallK Try.prog 26 [grv gm Y cy, .slice X ws.length cx] k w := by
  refine enter26 ?_
  unfold S26
  have H := ((Kn.nil w).addG hG.1 hG.2).addI hX.1 hX.2
  refine do_box fun b1 w1 g1 hb B1 => ?_
  have H := (H.step g1).addB B1
  rw [ldB_agg agg26 sz26 rfl (H.get 3 rfl)]
  refine isGrammar_c (gvK (H.get 1 rfl)) fun w2 g => ?_
  have H := H.step g
  unfold inLV wordG at hk
  cases hg : goodG gm
  · simp only [Bool.not_false, bin_add, bin_sub, bin_mul, bin_eql, bin_neq, bin_lss, bin_leq, bin_gtr, bin_geq, un_not, un_neg, zq4, zq3, zq1, zq2, zq0, cond_true', cond_false', zq14, zq15, zq16, zq17, zq13, zq10, zq12, zq11, zq7, zq5, zq6, zq9, zq8, resK_nil, resK_tmp, ite_T, ite_F, upd_at, add_plain, add_zero', Nat.reduceEqDiff, fa8_0, fa8_1, fa8_2, fa8_3, fa14_0, fa14_1, fa19_0, len22, len24, fa26_0, fa26_1, fa26_2, len27, fa33_0, fa33_1, len35, fa77_0, fa77_1, fa88_0, fa88_1, fa88_2, fa88_3, fa88_4, fa88_5, fa114_0, fa114_1, fa114_2, fa124_0, fa124_1, len134, len136, len154, fa156_0, fa156_1, fa156_2, fa156_3, fa156_4, fa156_5, fa156_6, fa184_0, fa184_1, fa200_0, fa200_1, fa200_2, fa200_3, fa215_0, fa215_1, fa215_2, fa215_3, fa215_4, len218, len271, fa274_0, fa274_1, fa274_2, fa303_0, fa303_1, fa303_2, fa303_3, fa314_0, fa314_1, fa314_2, fa314_3, fa314_4, fa314_5, fa314_6, fa314_7, fa314_8, fa314_9, fa314_10]
    rw [hg, Bool.false_and, if_neg Bool.false_ne_true] at hk
    exact hk _ (H.get 0 rfl)
  rw [hg, Bool.true_and] at hk
  have hn := good_nons hg
  have ht := good_toks hg
  simp only [Bool.not_true, bin_add, bin_sub, bin_mul, bin_eql, bin_neq, bin_lss, bin_leq, bin_gtr, bin_geq, un_not, un_neg, zq4, zq3, zq1, zq2, zq0, cond_true', cond_false', zq14, zq15, zq16, zq17, zq13, zq10, zq12, zq11, zq7, zq5, zq6, zq9, zq8, resK_nil, resK_tmp, ite_T, ite_F, upd_at, add_plain, add_zero', Nat.reduceEqDiff, fa8_0, fa8_1, fa8_2, fa8_3, fa14_0, fa14_1, fa19_0, len22, len24, fa26_0, fa26_1, fa26_2, len27, fa33_0, fa33_1, len35, fa77_0, fa77_1, fa88_0, fa88_1, fa88_2, fa88_3, fa88_4, fa88_5, fa114_0, fa114_1, fa114_2, fa124_0, fa124_1, len134, len136, len154, fa156_0, fa156_1, fa156_2, fa156_3, fa156_4, fa156_5, fa156_6, fa184_0, fa184_1, fa200_0, fa200_1, fa200_2, fa200_3, fa215_0, fa215_1, fa215_2, fa215_3, fa215_4, len218, len271, fa274_0, fa274_1, fa274_2, fa303_0, fa303_1, fa303_2, fa303_3, fa314_0, fa314_1, fa314_2, fa314_3, fa314_4, fa314_5, fa314_6, fa314_7, fa314_8, fa314_9, fa314_10]
  rw [ldB3 (H.get 3 rfl) rfl]
  refine isWord_c (H.get 2 rfl).1 rfl (by omega) (by omega) fun w3 g => ?_
  have H := H.step g
  cases hw : wordB gm.toks ws
  · simp only [Bool.not_false, bin_add, bin_sub, bin_mul, bin_eql, bin_neq, bin_lss, bin_leq, bin_gtr, bin_geq, un_not, un_neg, zq4, zq3, zq1, zq2, zq0, cond_true', cond_false', zq14, zq15, zq16, zq17, zq13, zq10, zq12, zq11, zq7, zq5, zq6, zq9, zq8, resK_nil, resK_tmp, ite_T, ite_F, upd_at, add_plain, add_zero', Nat.reduceEqDiff, fa8_0, fa8_1, fa8_2, fa8_3, fa14_0, fa14_1, fa19_0, len22, len24, fa26_0, fa26_1, fa26_2, len27, fa33_0, fa33_1, len35, fa77_0, fa77_1, fa88_0, fa88_1, fa88_2, fa88_3, fa88_4, fa88_5, fa114_0, fa114_1, fa114_2, fa124_0, fa124_1, len134, len136, len154, fa156_0, fa156_1, fa156_2, fa156_3, fa156_4, fa156_5, fa156_6, fa184_0, fa184_1, fa200_0, fa200_1, fa200_2, fa200_3, fa215_0, fa215_1, fa215_2, fa215_3, fa215_4, len218, len271, fa274_0, fa274_1, fa274_2, fa303_0, fa303_1, fa303_2, fa303_3, fa314_0, fa314_1, fa314_2, fa314_3, fa314_4, fa314_5, fa314_6, fa314_7, fa314_8, fa314_9, fa314_10]
    rw [hw, if_neg Bool.false_ne_true] at hk
    exact hk _ (H.get 0 rfl)
  rw [hw, if_pos rfl] at hk
  simp only [Bool.not_true, bin_add, bin_sub, bin_mul, bin_eql, bin_neq, bin_lss, bin_leq, bin_gtr, bin_geq, un_not, un_neg, zq4, zq3, zq1, zq2, zq0, cond_true', cond_false', zq14, zq15, zq16, zq17, zq13, zq10, zq12, zq11, zq7, zq5, zq6, zq9, zq8, resK_nil, resK_tmp, ite_T, ite_F, upd_at, add_plain, add_zero', Nat.reduceEqDiff, fa8_0, fa8_1, fa8_2, fa8_3, fa14_0, fa14_1, fa19_0, len22, len24, fa26_0, fa26_1, fa26_2, len27, fa33_0, fa33_1, len35, fa77_0, fa77_1, fa88_0, fa88_1, fa88_2, fa88_3, fa88_4, fa88_5, fa114_0, fa114_1, fa114_2, fa124_0, fa124_1, len134, len136, len154, fa156_0, fa156_1, fa156_2, fa156_3, fa156_4, fa156_5, fa156_6, fa184_0, fa184_1, fa200_0, fa200_1, fa200_2, fa200_3, fa215_0, fa215_1, fa215_2, fa215_3, fa215_4, len218, len271, fa274_0, fa274_1, fa274_2, fa303_0, fa303_1, fa303_2, fa303_3, fa314_0, fa314_1, fa314_2, fa314_3, fa314_4, fa314_5, fa314_6, fa314_7, fa314_8, fa314_9, fa314_10]
  have hW := wordB_of hw
  rw [ldB_agg agg26 sz26 rfl (H.get 3 rfl)]
  refine spans_c (gvK (H.get 1 rfl)) hg (H.get 2 rfl).1 rfl hW.1 (fun t ht' => by have := hW.2 t ht'; omega) fun w4 bT HT => ?_
  have H := H.step HT.gr
  simp only [bin_add, bin_sub, bin_mul, bin_eql, bin_neq, bin_lss, bin_leq, bin_gtr, bin_geq, un_not, un_neg, zq4, zq3, zq1, zq2, zq0, cond_true', cond_false', zq14, zq15, zq16, zq17, zq13, zq10, zq12, zq11, zq7, zq5, zq6, zq9, zq8, resK_nil, resK_tmp, ite_T, ite_F, upd_at, add_plain, add_zero', Nat.reduceEqDiff, fa8_0, fa8_1, fa8_2, fa8_3, fa14_0, fa14_1, fa19_0, len22, len24, fa26_0, fa26_1, fa26_2, len27, fa33_0, fa33_1, len35, fa77_0, fa77_1, fa88_0, fa88_1, fa88_2, fa88_3, fa88_4, fa88_5, fa114_0, fa114_1, fa114_2, fa124_0, fa124_1, len134, len136, len154, fa156_0, fa156_1, fa156_2, fa156_3, fa156_4, fa156_5, fa156_6, fa184_0, fa184_1, fa200_0, fa200_1, fa200_2, fa200_3, fa215_0, fa215_1, fa215_2, fa215_3, fa215_4, len218, len271, fa274_0, fa274_1, fa274_2, fa303_0, fa303_1, fa303_2, fa303_3, fa314_0, fa314_1, fa314_2, fa314_3, fa314_4, fa314_5, fa314_6, fa314_7, fa314_8, fa314_9, fa314_10]
  refine rdi (ixa122 (by decide) (by decide)) ?_
  refine rdi (ixa121 (by decide) (by decide)) ?_
  refine rdi (ixa120 (by omega) (by omega)) ?_
  simp only [Int.toNat_natCast, bin_add, bin_sub, bin_mul, bin_eql, bin_neq, bin_lss, bin_leq, bin_gtr, bin_geq, un_not, un_neg, zq4, zq3, zq1, zq2, zq0, cond_true', cond_false', zq14, zq15, zq16, zq17, zq13, zq10, zq12, zq11, zq7, zq5, zq6, zq9, zq8, resK_nil, resK_tmp, ite_T, ite_F, upd_at, add_plain, add_zero', Nat.reduceEqDiff, fa8_0, fa8_1, fa8_2, fa8_3, fa14_0, fa14_1, fa19_0, len22, len24, fa26_0, fa26_1, fa26_2, len27, fa33_0, fa33_1, len35, fa77_0, fa77_1, fa88_0, fa88_1, fa88_2, fa88_3, fa88_4, fa88_5, fa114_0, fa114_1, fa114_2, fa124_0, fa124_1, len134, len136, len154, fa156_0, fa156_1, fa156_2, fa156_3, fa156_4, fa156_5, fa156_6, fa184_0, fa184_1, fa200_0, fa200_1, fa200_2, fa200_3, fa215_0, fa215_1, fa215_2, fa215_3, fa215_4, len218, len271, fa274_0, fa274_1, fa274_2, fa303_0, fa303_1, fa303_2, fa303_3, fa314_0, fa314_1, fa314_2, fa314_3, fa314_4, fa314_5, fa314_6, fa314_7, fa314_8, fa314_9, fa314_10]
  have hoff : 0 + (0 + 1) + Int.toNat 0 * 121 + Int.toNat 0 * 11 + ws.length = 0 * 121 + 0 * 11 + ws.length + 1 := by
    rw [show Int.toNat 0 = 0 from rfl]
    omega
  rw [hoff]
  refine rdi (ldB4 (HT.box 0 rfl) (cellsT_at (by decide) (by decide) (by omega))) ?_
  exact hk _ (H.get 0 rfl)
end
end Go.Proofs.Ytegcjkhebecgbaa

/- Contracts: DrawDerives, DrawShortWords, DrawInLanguage, DrawSpansOf, DrawSequenceDerives. -/
set_option linter.unusedVariables false
set_option linter.unusedSimpArgs false
set_option maxRecDepth 100000
namespace Go.Proofs.Ytegcjkhebecgbaa
open Go Go.Sh Go.RowKit
theorem inf114' : Inf Try.prog 114 (.agg #[.slice none 0 0, .int .i64 0, .int .u64 0]) 3 40 := inf_of (by kernel_rfl)
theorem bd114 {S : WS} {k : Value → Prop} {ps : List (Nat × Value)} {cells : Array Value} (hf : Instr.fill (#[(0, 1), (1, 1), (2, 1)][·]?) #[.slice none 0 0, .int .i64 0, .int .u64 0] ps = some cells) : Rd Try.prog S (sBuild 114 ps) k = k (.agg cells) :=
  rd_build3 Try.underlying114 inf114' sz22 sz3 sz112 hf
theorem rng7 : Array.range 7 = #[0, 1, 2, 3, 4, 5, 6] := by decide
abbrev zg : List Value := [.int .i64 0, .int .i64 0, .slice none 0 0]
section
variable {w0 w : World} {E : List Thing} {C : Option Addr} {cap : Nat} {bs : List Int} {k : Value → World → Prop}
/-- A draw begins: a place for the grammar, a cursor. -/
theorem draw0 {K : Value → Value → Value → World → Prop} (h : ∀ b1 b4 w', Apt w w' [cur b4 (.slice C bs.length cap) 0, bx b1 zg 26] → K (ptrv b1) (.agg #[.slice C bs.length cap, .int .i64 0, .int .u64 0]) (ptrv b4) w') :
    Do Try.prog (sAlloc 26) (fun t1 w2 => Rd Try.prog (WS.at w2) (sBuild 114 [(0, .slice C bs.length cap)]) fun t3 => Do Try.prog (sBox 114 t3) (fun t4 w5 => K t1 t3 t4 w5) w2) w := by
  have H := Apt.nil w
  refine allocH H inf26 fun b1 w1 H => ?_
  refine rdi (bd114 (cells := #[.slice C bs.length cap, .int .i64 0, .int .u64 0]) rfl) ?_
  refine boxH H fun b4 w2 H => ?_
  simp only [List.nil_append, List.cons_append] at H
  have H := H.shutCur (N := 0) (tc := TC) (bc := b4) (cv := .slice C bs.length cap) (a := 0) (s := 0) 1 rfl (by omega) (by omega)
  simp only [List.set_cons_succ, List.set_cons_zero] at H
  exact h b1 b4 w2 (H.perm (List.Perm.swap _ _ _))
theorem rdS26 {S : WS} {k : Value → Prop} {b e : Nat} {cs : List Value} (hl : cs.length = 3) (h : ∀ w', S.S w' → Box w' b cs e) : Rd Try.prog S (sLoad 26 (ptrv b)) k = k (.agg cs.toArray) := by
  refine rd_loadAgg agg26 sz26 (cs := cs) hl fun w' hw j hj => ?_
  rw [show (⟨b, 0, none⟩ : Addr).add j = ⟨b, 0 + j, none⟩ from add_plain b 0 j, Nat.zero_add, (h w' hw).cell j]
  exact List.getElem?_eq_getElem hj
theorem gowK {ft : Nat → Prop} {Y : Option Addr} {cy : Nat} {rs : List RuleL} (h : OwnG 33 ft w 0 Y cy rs) : kG Y cy rs w := by
  have h1 := h.read
  obtain ⟨cells, hr, _⟩ := h
  exact ⟨hr.cap.1, h1⟩
set_option maxHeartbeats 1600000 in
theorem drawShortWords_c (hC : Byts w C bs) (hk : ∀ w' gm ft Y cy most, Drawn 101 gm → Apt w w' [gth ft Y cy gm.rules] → k (.tuple #[grv gm Y cy, .int .i64 most]) w') :
    CallK Try.prog 22 [.slice C bs.length cap] k w := by
  refine enter22 ?_
  unfold S22
  refine draw0 fun b1 b4 w1 H => ?_
  refine any_c H hC (by omega) fun w2 gm ft Y cy hd H => ?_
  refine buildH H u27 inf3 (ints [0, 1, 2, 3, 3, 4, 5]) (by decide) (by decide) (by simp [Instr.fill, madeCells, Value.cells, rng7, ints]) rfl fun b8 w3 H => ?_
  simp only [List.cons_append, List.nil_append] at H
  refine among_c (xs := [0, 1, 2, 3, 3, 4, 5]) H 0 rfl hC (by omega) (fun w' H => Apt.ints H 3 (xs := [0, 1, 2, 3, 3, 4, 5]) rfl) rfl (by simp) (by simp) fun w4 j hj H => ?_
  simp only [List.set_cons_zero] at H
  generalize ([0, 1, 2, 3, 3, 4, 5] : List Int).getD j 0 = most
  refine storeH H 2 rfl sz26 rfl rfl rfl fun w8 H => ?_
  simp only [List.cons_append, List.nil_append, List.set_cons_zero, List.set_cons_succ] at H
  rw [rd_loadVar, ldB_agg agg26 sz26 rfl (H.box 2 rfl)]
  have H := ((H.erase 0).erase 2).erase 1
  simp only [List.eraseIdx_cons_zero, List.eraseIdx_cons_succ] at H
  exact hk w8 gm ft Y cy most hd H
end
end Go.Proofs.Ytegcjkhebecgbaa

/- What the drawn laws do: comparisons of yes and no, boxes of rules, bytes that are known. -/
set_option linter.unusedVariables false
set_option linter.unusedSimpArgs false
set_option maxRecDepth 100000
namespace Go.Proofs.Ytegcjkhebecgbaa
open Go Go.Sh Go.RowKit
abbrev kC (C : Option Addr) (bs : List Int) : World → Prop := fun w => Byts w C bs
section
variable {S : WS} {k : Value → Prop}
theorem bneq {c x y : Bool} : Rd Try.prog S (sBin .neq 4 c (.bool x) (.bool y)) k = k (.bool (!(x == y))) := bin_neq_bool Try.underlying4
theorem beql {c x y : Bool} : Rd Try.prog S (sBin .eql 4 c (.bool x) (.bool y)) k = k (.bool (x == y)) := bin_eql_bool Try.underlying4
theorem extract3_0 {a b c : Value} : Rd Try.prog S (sExtract (.tuple #[a, b, c]) 0) k = k a := extract_three_0
theorem extract3_1 {a b c : Value} : Rd Try.prog S (sExtract (.tuple #[a, b, c]) 1) k = k b := extract_three_1
theorem extract3_2 {a b c : Value} : Rd Try.prog S (sExtract (.tuple #[a, b, c]) 2) k = k c := extract_three_2
end
section
variable {w w' : World} {L : List (World → Prop)}
theorem knC (H : Kn w L) {C : Option Addr} {bs : List Int} (h : Byts w C bs) : Kn w (L ++ [kC C bs]) := H.add fun w' g => h.gr g
/-- A grammar is put into a place of its own. -/
theorem newG {k : Value → World → Prop} (H : Kn w L) {gm : Gram} {Y : Option Addr} {cy : Nat} (h : ∀ b w', Kn w' (L ++ [kB b [.int .i64 gm.nons, .int .i64 gm.toks, .slice Y gm.rules.length cy] 26]) → k (ptrv b) w') :
    Do Try.prog (sAlloc 26) (fun p w1 => Do Try.prog (sStore 26 p (grv gm Y cy)) (fun _ w2 => k p w2) w1) w :=
  do_new (cs := [.int .i64 gm.nons, .int .i64 gm.toks, .slice Y gm.rules.length cy]) H inf26 sz26 rfl rfl rfl rfl h
/-- A rule is put into a place of its own. -/
theorem newR {k : Value → World → Prop} (H : Kn w L) {l : Int} {Y : Option Addr} {n c : Nat} (h : ∀ b w', Kn w' (L ++ [kB b [.int .i64 l, .slice Y n c] 33]) → k (ptrv b) w') :
    Do Try.prog (sAlloc 33) (fun p w1 => Do Try.prog (sStore 33 p (.agg #[.int .i64 l, .slice Y n c])) (fun _ w2 => k p w2) w1) w :=
  do_new (cs := [.int .i64 l, .slice Y n c]) H inf33 sz33 rfl rfl rfl rfl h
end
end Go.Proofs.Ytegcjkhebecgbaa

/- Cc: bodies of functions as terms of the frame calculus, printed by shgen.py of this repository. -/
set_option linter.unusedVariables false
set_option maxRecDepth 100000
namespace Go.Proofs.Ytegcjkhebecgbaa
open Go Go.Sh

/-! loop.example/g00758/spec.l1Has -/
def pl244 : Plans := fun _ => ⟨false, [], .nil⟩
def S244 (v0 v1 : Value) (k : Value → World → Prop) (w : World) : Prop :=
 Rd Try.prog (WS.at w) (sBuiltin .len #[27] 3 [false] [v0]) fun t1 =>
 LoopF [10, 11, 12, 6, 13, 14, 15, 4, 16, 9] (fun Q2 f3 w4 =>
  Rd Try.prog (WS.at w4) (sBin .lss 3 false (f3 9) (f3 8)) fun t5 =>
  CondK t5
   (Rd Try.prog (WS.at w4) (sIndexAddr 27 (f3 7) (f3 9)) fun t6 =>
   Rd Try.prog (WS.at w4) (sLoad 3 t6) fun t7 =>
   Rd Try.prog (WS.at w4) (sBin .eql 3 false t7 (f3 1)) fun t8 =>
   CondK t8
    (Q2 .ret (F.upd (F.upd (F.upd (F.upd (F.upd (F.upd (F.upd (F.upd f3 10 t5) 11 t6) 12 t7) 6 t7) 13 t7) 14 (f3 1)) 15 t8) 4 (.bool true)) w4)
    (Rd Try.prog (WS.at w4) (sBin .add 3 true (f3 9) (.int .i64 1)) fun t9 =>
    Q2 .normal (F.upd (F.upd (F.upd (F.upd (F.upd (F.upd (F.upd (F.upd (F.upd f3 10 t5) 11 t6) 12 t7) 6 t7) 13 t7) 14 (f3 1)) 15 t8) 16 t9) 9 t9) w4))
   (Q2 (.exit 0) (F.upd f3 10 t5) w4))
  (blockQ 0 (seqQ (fun f10 w11 =>
 k (.bool false) w11) (bodyQ Try.prog [.tmp 4] k)))
  (F.upd (F.upd (F.upd (F.upd (initF [v0, v1]) 4 (.bool false)) 7 v0) 8 t1) 9 (.int .i64 0)) w
theorem body244 : Try.f244.body = some (bodyOf Try.f244) := by kernel_rfl
theorem same244 (v0 v1 : Value) (k : Value → World → Prop) (w : World) : wpF Try.prog pl244 (bodyOf Try.f244) (bodyQ Try.prog Try.f244.results.toList k) (initF [v0, v1]) w = S244 v0 v1 k w := by kernel_rfl
theorem enter244 {v0 v1 : Value} {k : Value → World → Prop} {w : World} (h : S244 v0 v1 k w) : CallK Try.prog 244 [v0, v1] k w :=
  call_of_wpF (pl := pl244) mixed Try.func244 body244 (by kernel_rfl) (of_decide_eq_true (by kernel_rfl)) (by kernel_rfl) (by kernel_rfl) (Eq.mpr (same244 v0 v1 k w) h)

/-! loop.example/g00758/spec.l1Put -/
def pl274 : Plans := fun _ => ⟨false, [], .nil⟩
def S274 (v0 v1 : Value) (k : Value → World → Prop) (w : World) : Prop :=
 LoopF [7, 8, 9, 10, 11, 12, 13, 14, 15, 16, 17, 18, 19, 20, 5] (fun Q1 f2 w3 =>
  Rd Try.prog (WS.at w3) (sBuiltin .len #[27] 3 [false] [(f2 0)]) fun t4 =>
  Rd Try.prog (WS.at w3) (sBin .lss 3 false (f2 5) t4) fun t5 =>
  GuardK t5 true (fun k w' => k (f2 0) w') (fun t6 w7 =>
  GuardK t5 true (fun k w' => k (f2 5) w') (fun t8 w9 =>
  GuardK t5 true (fun k w' => Rd Try.prog (WS.at w9) (sIndexAddr 27 t6 t8) fun v => k v w') (fun t10 w11 =>
  GuardK t5 true (fun k w' => Rd Try.prog (WS.at w11) (sLoad 3 t10) fun v => k v w') (fun t12 w13 =>
  GuardK t5 true (fun k w' => k (f2 1) w') (fun t14 w15 =>
  GuardK t5 true (fun k w' => Rd Try.prog (WS.at w15) (sBin .lss 3 false t12 t14) fun v => k v w') (fun t16 w17 =>
  Rd Try.prog (WS.at w17) (sPick t5 t16 (.bool false)) fun t18 =>
  CondK t18
   (Rd Try.prog (WS.at w17) (sBin .add 3 true (f2 5) (.int .i64 1)) fun t19 =>
   Q1 .normal (F.upd (F.upd (F.upd (F.upd (F.upd (F.upd (F.upd (F.upd (F.upd (F.upd (F.upd (F.upd (F.upd (F.upd (F.upd f2 7 (f2 5)) 8 (f2 0)) 9 t4) 10 t5) 11 t5) 12 t6) 13 t8) 14 t10) 15 t12) 16 t14) 17 t16) 18 t18) 19 (f2 5)) 20 t19) 5 t19) w17)
   (Q1 (.exit 0) (F.upd (F.upd (F.upd (F.upd (F.upd (F.upd (F.upd (F.upd (F.upd (F.upd (F.upd (F.upd f2 7 (f2 5)) 8 (f2 0)) 9 t4) 10 t5) 11 t5) 12 t6) 13 t8) 14 t10) 15 t12) 16 t14) 17 t16) 18 t18) w17)) w15) w13) w11) w9) w7) w3)
  (blockQ 0 (seqQ (fun f20 w21 =>
 Rd Try.prog (WS.at w21) (sBuiltin .len #[27] 3 [false] [(f20 0)]) fun t22 =>
 Rd Try.prog (WS.at w21) (sBin .lss 3 false (f20 5) t22) fun t23 =>
 GuardK t23 true (fun k w' => k (f20 0) w') (fun t24 w25 =>
 GuardK t23 true (fun k w' => k (f20 5) w') (fun t26 w27 =>
 GuardK t23 true (fun k w' => Rd Try.prog (WS.at w27) (sIndexAddr 27 t24 t26) fun v => k v w') (fun t28 w29 =>
 GuardK t23 true (fun k w' => Rd Try.prog (WS.at w29) (sLoad 3 t28) fun v => k v w') (fun t30 w31 =>
 GuardK t23 true (fun k w' => k (f20 1) w') (fun t32 w33 =>
 GuardK t23 true (fun k w' => Rd Try.prog (WS.at w33) (sBin .eql 3 false t30 t32) fun v => k v w') (fun t34 w35 =>
 Rd Try.prog (WS.at w35) (sPick t23 t34 (.bool false)) fun t36 =>
 CondK t36
  (k (f20 0) w35)
  (Do Try.prog (sBuildSlice 27 0 []) (fun t37 w38 =>
  Rd Try.prog (WS.at w38) (sSlice 27 (f20 0) none (some (f20 5)) none) fun t39 =>
  Do Try.prog (sBuiltin .append #[27, 27] 27 [false, false] [t37, t39]) (fun t40 w41 =>
  Do Try.prog (sBuildSlice 27 1 [(0, (f20 1))]) (fun t42 w43 =>
  Do Try.prog (sBuiltin .append #[27, 27] 27 [false, false] [t40, t42]) (fun t44 w45 =>
  Rd Try.prog (WS.at w45) (sSlice 27 (f20 0) (some (f20 5)) none none) fun t46 =>
  Do Try.prog (sBuiltin .append #[27, 27] 27 [false, false] [t44, t46]) (fun t47 w48 =>
  k t47 w48) w45) w43) w41) w38) w35)) w33) w31) w29) w27) w25) w21) (bodyQ Try.prog [.tmp 4] k)))
  (F.upd (F.upd (initF [v0, v1]) 4 (.slice none 0 0)) 5 (.int .i64 0)) w
theorem body274 : Try.f274.body = some (bodyOf Try.f274) := by kernel_rfl
theorem same274 (v0 v1 : Value) (k : Value → World → Prop) (w : World) : wpF Try.prog pl274 (bodyOf Try.f274) (bodyQ Try.prog Try.f274.results.toList k) (initF [v0, v1]) w = S274 v0 v1 k w := by kernel_rfl
theorem enter274 {v0 v1 : Value} {k : Value → World → Prop} {w : World} (h : S274 v0 v1 k w) : CallK Try.prog 274 [v0, v1] k w :=
  call_of_wpF (pl := pl274) mixed Try.func274 body274 (by kernel_rfl) (of_decide_eq_true (by kernel_rfl)) (by kernel_rfl) (by kernel_rfl) (Eq.mpr (same274 v0 v1 k w) h)

/-! loop.example/g00758/spec.l3Close -/
def pl192 : Plans := fun _ => ⟨false, [], .nil⟩
def S192 (v0 v1 : Value) (k : Value → World → Prop) (w : World) : Prop :=
 Do Try.prog (sBox 26 v0) (fun t1 w2 =>
 LoopF [12, 6, 13, 14, 15, 16, 17, 18, 19, 8, 20, 21, 22, 23, 24, 9, 25, 26, 27, 28, 29, 30, 31, 11, 32, 33, 34, 35, 36, 37, 38, 39, 40, 41, 42, 43, 44, 45, 46, 47, 48, 9, 49, 28, 50, 51, 52, 53, 54, 5, 6, 55, 16] (fun Q3 f4 w5 =>
  CondK (f4 6)
   (Rd Try.prog (WS.at w5) (sFieldAddr 26 (f4 2) 2) fun t6 =>
   Rd Try.prog (WS.at w5) (sLoad 24 t6) fun t7 =>
   Rd Try.prog (WS.at w5) (sBuiltin .len #[24] 3 [false] [t7]) fun t8 =>
   LoopF [17, 18, 19, 8, 20, 21, 22, 23, 24, 9, 25, 26, 27, 28, 29, 30, 31, 11, 32, 33, 34, 35, 36, 37, 38, 39, 40, 41, 42, 43, 44, 45, 46, 47, 48, 9, 49, 28, 50, 51, 52, 53, 54, 5, 6, 55, 16] (fun Q9 f10 w11 =>
    Rd Try.prog (WS.at w11) (sBin .lss 3 false (f10 16) (f10 15)) fun t12 =>
    CondK t12
     (Join (fun K13 =>
     Rd Try.prog (WS.at w11) (sIndexAddr 24 (f10 14) (f10 16)) fun t16 =>
     Rd Try.prog (WS.at w11) (sLoad 33 t16) fun t17 =>
     Do Try.prog (sAlloc 33) (fun t18 w19 =>
     Do Try.prog (sStore 33 t18 t17) (fun _ w20 =>
     Rd Try.prog (WS.at w20) (sFieldAddr 33 t18 0) fun t21 =>
     Rd Try.prog (WS.at w20) (sLoad 3 t21) fun t22 =>
     CallK Try.prog 244 [(f10 5), t22] (fun t23 w24 =>
     Rd Try.prog (WS.at w24) (sUn .not t23) fun t25 =>
     Rd Try.prog (WS.at w24) (sFieldAddr 33 t18 1) fun t26 =>
     Rd Try.prog (WS.at w24) (sLoad 27 t26) fun t27 =>
     Rd Try.prog (WS.at w24) (sBuiltin .len #[27] 3 [false] [t27]) fun t28 =>
     LoopF [29, 30, 31, 11, 32, 33, 34, 35, 36, 37, 38, 39, 40, 41, 42, 43, 44, 45, 46, 47, 48, 9, 49, 28] (fun Q29 f30 w31 =>
      Rd Try.prog (WS.at w31) (sBin .lss 3 false (f30 28) (f30 27)) fun t32 =>
      CondK t32
       (Rd Try.prog (WS.at w31) (sIndexAddr 27 (f30 26) (f30 28)) fun t33 =>
       Rd Try.prog (WS.at w31) (sLoad 3 t33) fun t34 =>
       GuardK (f30 9) true (fun k w' => k t34 w') (fun t35 w36 =>
       GuardK (f30 9) true (fun k w' => Rd Try.prog (WS.at w36) (sBin .lss 3 true t35 (.int .i64 0)) fun v => k v w') (fun t37 w38 =>
       GuardK (f30 9) true (fun k w' => k t37 w') (fun t39 w40 =>
       GuardK t39 true (fun k w' => k (f30 1) w') (fun t41 w42 =>
       GuardK (f30 9) true (fun k w' => Rd Try.prog (WS.at w42) (sPick t39 t41 (.bool false)) fun v => k v w') (fun t43 w44 =>
       GuardK (f30 9) true (fun k w' => k t43 w') (fun t45 w46 =>
       GuardK t45 false (fun k w' => k t34 w') (fun t47 w48 =>
       GuardK t45 false (fun k w' => Rd Try.prog (WS.at w48) (sBin .geq 3 true t47 (.int .i64 0)) fun v => k v w') (fun t49 w50 =>
       GuardK t45 false (fun k w' => k t49 w') (fun t51 w52 =>
       GuardK t51 true (fun k w' => k (f30 5) w') (fun t53 w54 =>
       GuardK t51 true (fun k w' => k t34 w') (fun t55 w56 =>
       GuardK t51 true (fun k w' => CallK Try.prog 244 [t53, t55] k w') (fun t57 w58 =>
       GuardK t45 false (fun k w' => Rd Try.prog (WS.at w58) (sPick t51 t57 (.bool false)) fun v => k v w') (fun t59 w60 =>
       GuardK (f30 9) true (fun k w' => Rd Try.prog (WS.at w60) (sPick t45 (.bool true) t59) fun v => k v w') (fun t61 w62 =>
       Rd Try.prog (WS.at w62) (sPick (f30 9) t61 (.bool false)) fun t63 =>
       Rd Try.prog (WS.at w62) (sBin .add 3 true (f30 28) (.int .i64 1)) fun t64 =>
       Q29 .normal (F.upd (F.upd (F.upd (F.upd (F.upd (F.upd (F.upd (F.upd (F.upd (F.upd (F.upd (F.upd (F.upd (F.upd (F.upd (F.upd (F.upd (F.upd (F.upd (F.upd (F.upd (F.upd (F.upd (F.upd f30 29 t32) 30 t33) 31 t34) 11 t34) 32 (f30 9)) 33 (f30 9)) 34 t35) 35 t37) 36 t39) 37 t41) 38 t43) 39 t45) 40 t47) 41 t49) 42 t51) 43 t53) 44 t55) 45 t57) 46 t59) 47 t61) 48 t63) 9 t63) 49 t64) 28 t64) w62) w60) w58) w56) w54) w52) w50) w48) w46) w44) w42) w40) w38) w36) w31)
       (Q29 (.exit 4) (F.upd f30 29 t32) w31))
      (blockQ 4 (seqQ (fun f65 w66 =>
     CondK (f65 9)
      (Rd Try.prog (WS.at w66) (sFieldAddr 33 (f65 8) 0) fun t67 =>
      Rd Try.prog (WS.at w66) (sLoad 3 t67) fun t68 =>
      CallK Try.prog 274 [(f65 5), t68] (fun t69 w70 =>
      K13 (F.upd (F.upd (F.upd (F.upd (F.upd (F.upd (F.upd f65 50 (f65 9)) 51 (f65 5)) 52 t67) 53 t68) 54 t69) 5 t69) 6 (.bool true)) w70) w66)
      (K13 (F.upd f65 50 (f65 9)) w66)) (blockQ 3 (seqQ K13 Q9))))
      (F.upd (F.upd (F.upd (F.upd (F.upd (F.upd (F.upd (F.upd (F.upd (F.upd (F.upd (F.upd (F.upd (F.upd f10 17 t12) 18 t16) 19 t17) 8 t18) 20 (f10 5)) 21 t21) 22 t22) 23 t23) 24 t25) 9 t25) 25 t26) 26 t27) 27 t28) 28 (.int .i64 0)) w24) w20) w19) w11) (fun f14 w15 =>
     Rd Try.prog (WS.at w15) (sBin .add 3 true (f14 16) (.int .i64 1)) fun t73 =>
     Q9 .normal (F.upd (F.upd f14 55 t73) 16 t73) w15))
     (Q9 (.exit 2) (F.upd f10 17 t12) w11))
    (blockQ 2 (blockQ 1 Q3))
    (F.upd (F.upd (F.upd (F.upd (F.upd (F.upd f4 12 (f4 6)) 6 (.bool false)) 13 t6) 14 t7) 15 t8) 16 (.int .i64 0)) w5)
   (Q3 (.exit 0) (F.upd f4 12 (f4 6)) w5))
  (blockQ 0 (seqQ (fun f74 w75 =>
 k (f74 5) w75) (bodyQ Try.prog [.tmp 4] k)))
  (F.upd (F.upd (F.upd (F.upd (initF [v0, v1]) 2 t1) 4 (.slice none 0 0)) 5 (.slice none 0 0)) 6 (.bool true)) w2) w
theorem body192 : Try.f192.body = some (bodyOf Try.f192) := by kernel_rfl
theorem same192 (v0 v1 : Value) (k : Value → World → Prop) (w : World) : wpF Try.prog pl192 (bodyOf Try.f192) (bodyQ Try.prog Try.f192.results.toList k) (initF [v0, v1]) w = S192 v0 v1 k w := by kernel_rfl
theorem enter192 {v0 v1 : Value} {k : Value → World → Prop} {w : World} (h : S192 v0 v1 k w) : CallK Try.prog 192 [v0, v1] k w :=
  call_of_wpF (pl := pl192) mixed Try.func192 body192 (by kernel_rfl) (of_decide_eq_true (by kernel_rfl)) (by kernel_rfl) (by kernel_rfl) (Eq.mpr (same192 v0 v1 k w) h)

/-! loop.example/g00758/spec.l3Reached -/
def pl193 : Plans := fun _ => ⟨false, [], .nil⟩
def S193 (v0 : Value) (k : Value → World → Prop) (w : World) : Prop :=
 Do Try.prog (sBox 26 v0) (fun t1 w2 =>
 Do Try.prog (sBuildSlice 27 1 [(0, (.int .i64 0))]) (fun t3 w4 =>
 LoopF [10, 4, 11, 12, 13, 14, 15, 16, 17, 6, 18, 19, 20, 21, 22, 23, 24, 8, 25, 26, 27, 28, 29, 30, 31, 32, 33, 34, 35, 36, 37, 38, 39, 40, 41, 3, 4, 42, 21, 43, 14] (fun Q5 f6 w7 =>
  CondK (f6 4)
   (Rd Try.prog (WS.at w7) (sFieldAddr 26 (f6 1) 2) fun t8 =>
   Rd Try.prog (WS.at w7) (sLoad 24 t8) fun t9 =>
   Rd Try.prog (WS.at w7) (sBuiltin .len #[24] 3 [false] [t9]) fun t10 =>
   LoopF [15, 16, 17, 6, 18, 19, 20, 21, 22, 23, 24, 8, 25, 26, 27, 28, 29, 30, 31, 32, 33, 34, 35, 36, 37, 38, 39, 40, 41, 3, 4, 42, 21, 43, 14] (fun Q11 f12 w13 =>
    Rd Try.prog (WS.at w13) (sBin .lss 3 false (f12 14) (f12 13)) fun t14 =>
    CondK t14
     (Rd Try.prog (WS.at w13) (sIndexAddr 24 (f12 12) (f12 14)) fun t15 =>
     Rd Try.prog (WS.at w13) (sLoad 33 t15) fun t16 =>
     Do Try.prog (sAlloc 33) (fun t17 w18 =>
     Do Try.prog (sStore 33 t17 t16) (fun _ w19 =>
     Rd Try.prog (WS.at w19) (sFieldAddr 33 t17 1) fun t20 =>
     Rd Try.prog (WS.at w19) (sLoad 27 t20) fun t21 =>
     Rd Try.prog (WS.at w19) (sBuiltin .len #[27] 3 [false] [t21]) fun t22 =>
     LoopF [22, 23, 24, 8, 25, 26, 27, 28, 29, 30, 31, 32, 33, 34, 35, 36, 37, 38, 39, 40, 41, 3, 4, 42, 21] (fun Q23 f24 w25 =>
      Rd Try.prog (WS.at w25) (sBin .lss 3 false (f24 21) (f24 20)) fun t26 =>
      CondK t26
       (Join (fun K27 =>
       Rd Try.prog (WS.at w25) (sIndexAddr 27 (f24 19) (f24 21)) fun t30 =>
       Rd Try.prog (WS.at w25) (sLoad 3 t30) fun t31 =>
       Rd Try.prog (WS.at w25) (sBin .geq 3 true t31 (.int .i64 0)) fun t32 =>
       GuardK t32 true (fun k w' => k (f24 3) w') (fun t33 w34 =>
       GuardK t32 true (fun k w' => Rd Try.prog (WS.at w34) (sFieldAddr 33 (f24 6) 0) fun v => k v w') (fun t35 w36 =>
       GuardK t32 true (fun k w' => Rd Try.prog (WS.at w36) (sLoad 3 t35) fun v => k v w') (fun t37 w38 =>
       GuardK t32 true (fun k w' => CallK Try.prog 244 [t33, t37] k w') (fun t39 w40 =>
       Rd Try.prog (WS.at w40) (sPick t32 t39 (.bool false)) fun t41 =>
       GuardK t41 true (fun k w' => k (f24 3) w') (fun t42 w43 =>
       GuardK t41 true (fun k w' => k t31 w') (fun t44 w45 =>
       GuardK t41 true (fun k w' => CallK Try.prog 244 [t42, t44] k w') (fun t46 w47 =>
       GuardK t41 true (fun k w' => Rd Try.prog (WS.at w47) (sUn .not t46) fun v => k v w') (fun t48 w49 =>
       Rd Try.prog (WS.at w49) (sPick t41 t48 (.bool false)) fun t50 =>
       CondK t50
        (CallK Try.prog 274 [(f24 3), t31] (fun t51 w52 =>
        K27 (F.upd (F.upd (F.upd (F.upd (F.upd (F.upd (F.upd (F.upd (F.upd (F.upd (F.upd (F.upd (F.upd (F.upd (F.upd (F.upd (F.upd (F.upd (F.upd (F.upd (F.upd (F.upd (F.upd f24 22 t26) 23 t30) 24 t31) 8 t31) 25 t31) 26 t32) 27 t32) 28 t33) 29 t35) 30 t37) 31 t39) 32 t41) 33 t41) 34 t42) 35 t44) 36 t46) 37 t48) 38 t50) 39 (f24 3)) 40 t31) 41 t51) 3 t51) 4 (.bool true)) w52) w49)
        (K27 (F.upd (F.upd (F.upd (F.upd (F.upd (F.upd (F.upd (F.upd (F.upd (F.upd (F.upd (F.upd (F.upd (F.upd (F.upd (F.upd (F.upd (F.upd f24 22 t26) 23 t30) 24 t31) 8 t31) 25 t31) 26 t32) 27 t32) 28 t33) 29 t35) 30 t37) 31 t39) 32 t41) 33 t41) 34 t42) 35 t44) 36 t46) 37 t48) 38 t50) w49)) w47) w45) w43) w40) w38) w36) w34) w25) (fun f28 w29 =>
       Rd Try.prog (WS.at w29) (sBin .add 3 true (f28 21) (.int .i64 1)) fun t53 =>
       Q23 .normal (F.upd (F.upd f28 42 t53) 21 t53) w29))
       (Q23 (.exit 4) (F.upd f24 22 t26) w25))
      (blockQ 4 (blockQ 3 (seqQ (fun f54 w55 =>
     Rd Try.prog (WS.at w55) (sBin .add 3 true (f54 14) (.int .i64 1)) fun t56 =>
     Q11 .normal (F.upd (F.upd f54 43 t56) 14 t56) w55) Q11)))
      (F.upd (F.upd (F.upd (F.upd (F.upd (F.upd (F.upd (F.upd f12 15 t14) 16 t15) 17 t16) 6 t17) 18 t20) 19 t21) 20 t22) 21 (.int .i64 0)) w19) w18) w13)
     (Q11 (.exit 2) (F.upd f12 15 t14) w13))
    (blockQ 2 (blockQ 1 Q5))
    (F.upd (F.upd (F.upd (F.upd (F.upd (F.upd f6 10 (f6 4)) 4 (.bool false)) 11 t8) 12 t9) 13 t10) 14 (.int .i64 0)) w7)
   (Q5 (.exit 0) (F.upd f6 10 (f6 4)) w7))
  (blockQ 0 (seqQ (fun f57 w58 =>
 k (f57 3) w58) (bodyQ Try.prog [.tmp 2] k)))
  (F.upd (F.upd (F.upd (F.upd (F.upd (initF [v0]) 1 t1) 2 (.slice none 0 0)) 9 t3) 3 t3) 4 (.bool true)) w4) w2) w
theorem body193 : Try.f193.body = some (bodyOf Try.f193) := by kernel_rfl
theorem same193 (v0 : Value) (k : Value → World → Prop) (w : World) : wpF Try.prog pl193 (bodyOf Try.f193) (bodyQ Try.prog Try.f193.results.toList k) (initF [v0]) w = S193 v0 k w := by kernel_rfl
theorem enter193 {v0 : Value} {k : Value → World → Prop} {w : World} (h : S193 v0 k w) : CallK Try.prog 193 [v0] k w :=
  call_of_wpF (pl := pl193) mixed Try.func193 body193 (by kernel_rfl) (of_decide_eq_true (by kernel_rfl)) (by kernel_rfl) (by kernel_rfl) (Eq.mpr (same193 v0 k w) h)

/-! loop.example/g00758/spec.l3Useful -/
def pl190 : Plans := fun i => match i with
  | 13 => ⟨true, [9, 11], .step 0 .any (.step 1 .held (.step 2 .any (.step 3 .held (.step 4 .any (.step 5 .held (.step 6 .one (.step 7 .any (.step 8 .one (.step 9 .last (.step 10 .any (.step 11 .last (.nil))))))))))))⟩
  | _ => ⟨false, [], .nil⟩
def S190 (v0 : Value) (k : Value → World → Prop) (w : World) : Prop :=
 Do Try.prog (sBox 26 v0) (fun t1 w2 =>
 Do Try.prog (sAlloc 26) (fun t3 w4 =>
 Rd Try.prog (WS.at w4) (sLoad 26 t1) fun t5 =>
 CallK Try.prog 192 [t5, (.bool true)] (fun t6 w7 =>
 Rd Try.prog (WS.at w7) (sFieldAddr 26 t1 0) fun t8 =>
 Rd Try.prog (WS.at w7) (sLoad 3 t8) fun t9 =>
 Rd Try.prog (WS.at w7) (sFieldAddr 26 t1 1) fun t10 =>
 Rd Try.prog (WS.at w7) (sLoad 3 t10) fun t11 =>
 Rd Try.prog (WS.at w7) (sBuild 26 [(0, t9), (1, t11)]) fun t12 =>
 Do Try.prog (sAlloc 26) (fun t13 w14 =>
 Do Try.prog (sStore 26 t13 t12) (fun _ w15 =>
 Rd Try.prog (WS.at w15) (sFieldAddr 26 t1 2) fun t16 =>
 Rd Try.prog (WS.at w15) (sLoad 24 t16) fun t17 =>
 Rd Try.prog (WS.at w15) (sBuiltin .len #[24] 3 [false] [t17]) fun t18 =>
 LoopF [25, 26, 27, 6, 28, 29, 30, 31, 7, 32, 33, 34, 35, 36, 37, 38, 9, 39, 40, 41, 42, 43, 44, 45, 46, 47, 48, 7, 49, 35, 50, 51, 52, 53, 54, 55, 56, 57, 58, 59, 60, 61, 62, 24] (fun Q19 f20 w21 =>
  Rd Try.prog (WS.at w21) (sBin .lss 3 false (f20 24) (f20 23)) fun t22 =>
  CondK t22
   (Join (fun K23 =>
   Rd Try.prog (WS.at w21) (sIndexAddr 24 (f20 22) (f20 24)) fun t26 =>
   Rd Try.prog (WS.at w21) (sLoad 33 t26) fun t27 =>
   Do Try.prog (sAlloc 33) (fun t28 w29 =>
   Do Try.prog (sStore 33 t28 t27) (fun _ w30 =>
   Rd Try.prog (WS.at w30) (sFieldAddr 33 t28 0) fun t31 =>
   Rd Try.prog (WS.at w30) (sLoad 3 t31) fun t32 =>
   CallK Try.prog 244 [(f20 3), t32] (fun t33 w34 =>
   Rd Try.prog (WS.at w34) (sFieldAddr 33 t28 1) fun t35 =>
   Rd Try.prog (WS.at w34) (sLoad 27 t35) fun t36 =>
   Rd Try.prog (WS.at w34) (sBuiltin .len #[27] 3 [false] [t36]) fun t37 =>
   LoopF [36, 37, 38, 9, 39, 40, 41, 42, 43, 44, 45, 46, 47, 48, 7, 49, 35] (fun Q38 f39 w40 =>
    Rd Try.prog (WS.at w40) (sBin .lss 3 false (f39 35) (f39 34)) fun t41 =>
    CondK t41
     (Rd Try.prog (WS.at w40) (sIndexAddr 27 (f39 33) (f39 35)) fun t42 =>
     Rd Try.prog (WS.at w40) (sLoad 3 t42) fun t43 =>
     GuardK (f39 7) true (fun k w' => k t43 w') (fun t44 w45 =>
     GuardK (f39 7) true (fun k w' => Rd Try.prog (WS.at w45) (sBin .lss 3 true t44 (.int .i64 0)) fun v => k v w') (fun t46 w47 =>
     GuardK (f39 7) true (fun k w' => k t46 w') (fun t48 w49 =>
     GuardK t48 false (fun k w' => k (f39 3) w') (fun t50 w51 =>
     GuardK t48 false (fun k w' => k t43 w') (fun t52 w53 =>
     GuardK t48 false (fun k w' => CallK Try.prog 244 [t50, t52] k w') (fun t54 w55 =>
     GuardK (f39 7) true (fun k w' => Rd Try.prog (WS.at w55) (sPick t48 (.bool true) t54) fun v => k v w') (fun t56 w57 =>
     Rd Try.prog (WS.at w57) (sPick (f39 7) t56 (.bool false)) fun t58 =>
     Rd Try.prog (WS.at w57) (sBin .add 3 true (f39 35) (.int .i64 1)) fun t59 =>
     Q38 .normal (F.upd (F.upd (F.upd (F.upd (F.upd (F.upd (F.upd (F.upd (F.upd (F.upd (F.upd (F.upd (F.upd (F.upd (F.upd (F.upd (F.upd f39 36 t41) 37 t42) 38 t43) 9 t43) 39 (f39 7)) 40 (f39 7)) 41 t44) 42 t46) 43 t48) 44 t50) 45 t52) 46 t54) 47 t56) 48 t58) 7 t58) 49 t59) 35 t59) w57) w55) w53) w51) w49) w47) w45) w40)
     (Q38 (.exit 2) (F.upd f39 36 t41) w40))
    (blockQ 2 (seqQ (fun f60 w61 =>
   CondK (f60 7)
    (∃ S62 : World → Prop, ∃ h63 : S62 w61.drew,
    Rd Try.prog WS.any (sFieldAddr 26 (f60 4) 2) fun t64 =>
    Rd Try.prog ⟨S62, w61.drew, h63⟩ (sLoad 24 t64) fun t65 =>
    Rd Try.prog WS.any (sFieldAddr 33 (f60 6) 0) fun t66 =>
    Rd Try.prog ⟨S62, w61.drew, h63⟩ (sLoad 3 t66) fun t67 =>
    Rd Try.prog WS.any (sFieldAddr 33 (f60 6) 1) fun t68 =>
    Rd Try.prog ⟨S62, w61.drew, h63⟩ (sLoad 27 t68) fun t69 =>
    CallK Try.prog 158 [t69] (fun t70 w71 =>
    S62 w71 ∧ Rd Try.prog WS.any (sBuild 33 [(0, t67), (1, t70)]) fun t72 =>
    Do Try.prog (sBuildSlice 24 1 [(0, t72)]) (fun t73 w74 =>
    S62 w74 ∧ Do Try.prog (sBuiltin .append #[24, 24] 24 [false, false] [t65, t73]) (fun t75 w76 =>
    Rd Try.prog WS.any (sFieldAddr 26 (f60 4) 2) fun t77 =>
    Do Try.prog (sStore 24 t77 t75) (fun _ w78 =>
    K23 (F.upd (F.upd (F.upd (F.upd (F.upd (F.upd (F.upd (F.upd (F.upd (F.upd (F.upd (F.upd f60 50 (f60 7)) 51 t64) 52 t65) 53 t66) 54 t67) 55 t68) 56 t69) 57 t70) 58 t72) 59 t73) 60 t75) 61 t77) w78) w76) w74) w71) w61.drew)
    (K23 (F.upd f60 50 (f60 7)) w61)) (blockQ 1 (seqQ K23 Q19))))
    (F.upd (F.upd (F.upd (F.upd (F.upd (F.upd (F.upd (F.upd (F.upd (F.upd (F.upd (F.upd (F.upd f20 25 t22) 26 t26) 27 t27) 6 t28) 28 (f20 3)) 29 t31) 30 t32) 31 t33) 7 t33) 32 t35) 33 t36) 34 t37) 35 (.int .i64 0)) w34) w30) w29) w21) (fun f24 w25 =>
   Rd Try.prog (WS.at w25) (sBin .add 3 true (f24 24) (.int .i64 1)) fun t81 =>
   Q19 .normal (F.upd (F.upd f24 62 t81) 24 t81) w25))
   (Q19 (.exit 0) (F.upd f20 25 t22) w21))
  (blockQ 0 (seqQ (fun f82 w83 =>
 Rd Try.prog (WS.at w83) (sLoad 26 (f82 4)) fun t84 =>
 CallK Try.prog 193 [t84] (fun t85 w86 =>
 Rd Try.prog (WS.at w86) (sFieldAddr 26 (f82 1) 0) fun t87 =>
 Rd Try.prog (WS.at w86) (sLoad 3 t87) fun t88 =>
 Rd Try.prog (WS.at w86) (sFieldAddr 26 (f82 1) 1) fun t89 =>
 Rd Try.prog (WS.at w86) (sLoad 3 t89) fun t90 =>
 Rd Try.prog (WS.at w86) (sBuild 26 [(0, t88), (1, t90)]) fun t91 =>
 Do Try.prog (sAlloc 26) (fun t92 w93 =>
 Do Try.prog (sStore 26 t92 t91) (fun _ w94 =>
 Rd Try.prog (WS.at w94) (sFieldAddr 26 (f82 4) 2) fun t95 =>
 Rd Try.prog (WS.at w94) (sLoad 24 t95) fun t96 =>
 Rd Try.prog (WS.at w94) (sBuiltin .len #[24] 3 [false] [t96]) fun t97 =>
 LoopF [74, 75, 76, 13, 77, 78, 79, 80, 81, 82, 83, 84, 85, 86, 87, 73] (fun Q98 f99 w100 =>
  Rd Try.prog (WS.at w100) (sBin .lss 3 false (f99 73) (f99 72)) fun t101 =>
  CondK t101
   (Join (fun K102 =>
   Rd Try.prog (WS.at w100) (sIndexAddr 24 (f99 71) (f99 73)) fun t105 =>
   Rd Try.prog (WS.at w100) (sLoad 33 t105) fun t106 =>
   Do Try.prog (sAlloc 33) (fun t107 w108 =>
   Do Try.prog (sStore 33 t107 t106) (fun _ w109 =>
   Rd Try.prog (WS.at w109) (sFieldAddr 33 t107 0) fun t110 =>
   Rd Try.prog (WS.at w109) (sLoad 3 t110) fun t111 =>
   CallK Try.prog 244 [(f99 10), t111] (fun t112 w113 =>
   CondK t112
    (Rd Try.prog (WS.at w113) (sFieldAddr 26 (f99 11) 2) fun t114 =>
    Rd Try.prog (WS.at w113) (sLoad 24 t114) fun t115 =>
    Rd Try.prog (WS.at w113) (sLoad 33 t107) fun t116 =>
    Do Try.prog (sBuildSlice 24 1 [(0, t116)]) (fun t117 w118 =>
    Do Try.prog (sBuiltin .append #[24, 24] 24 [false, false] [t115, t117]) (fun t119 w120 =>
    Rd Try.prog (WS.at w120) (sFieldAddr 26 (f99 11) 2) fun t121 =>
    Do Try.prog (sStore 24 t121 t119) (fun _ w122 =>
    K102 (F.upd (F.upd (F.upd (F.upd (F.upd (F.upd (F.upd (F.upd (F.upd (F.upd (F.upd (F.upd (F.upd (F.upd f99 74 t101) 75 t105) 76 t106) 13 t107) 77 (f99 10)) 78 t110) 79 t111) 80 t112) 81 t114) 82 t115) 83 t116) 84 t117) 85 t119) 86 t121) w122) w120) w118) w113)
    (K102 (F.upd (F.upd (F.upd (F.upd (F.upd (F.upd (F.upd (F.upd f99 74 t101) 75 t105) 76 t106) 13 t107) 77 (f99 10)) 78 t110) 79 t111) 80 t112) w113)) w109) w108) w100) (fun f103 w104 =>
   Rd Try.prog (WS.at w104) (sBin .add 3 true (f103 73) (.int .i64 1)) fun t123 =>
   Q98 .normal (F.upd (F.upd f103 87 t123) 73 t123) w104))
   (Q98 (.exit 4) (F.upd f99 74 t101) w100))
  (blockQ 4 (seqQ (fun f124 w125 =>
 Rd Try.prog (WS.at w125) (sLoad 26 (f124 11)) fun t126 =>
 Do Try.prog (sStore 26 (f124 2) t126) (fun _ w127 =>
 Rd Try.prog (WS.at w127) (sLoadVar 26 (f124 2)) fun t128 => k t128 w127) w125) (bodyQ Try.prog [.cell 2 26] k)))
  (F.upd (F.upd (F.upd (F.upd (F.upd (F.upd (F.upd (F.upd (F.upd (F.upd (F.upd (F.upd (F.upd f82 63 t84) 64 t85) 10 t85) 65 t87) 66 t88) 67 t89) 68 t90) 69 t91) 11 t92) 70 t95) 71 t96) 72 t97) 73 (.int .i64 0)) w94) w93) w86) w83) (bodyQ Try.prog [.cell 2 26] k)))
  (F.upd (F.upd (F.upd (F.upd (F.upd (F.upd (F.upd (F.upd (F.upd (F.upd (F.upd (F.upd (F.upd (F.upd (F.upd (initF [v0]) 1 t1) 2 t3) 14 t5) 15 t6) 3 t6) 16 t8) 17 t9) 18 t10) 19 t11) 20 t12) 4 t13) 21 t16) 22 t17) 23 t18) 24 (.int .i64 0)) w15) w14) w7) w4) w2) w
theorem body190 : Try.f190.body = some (bodyOf Try.f190) := by kernel_rfl
theorem same190 (v0 : Value) (k : Value → World → Prop) (w : World) : wpF Try.prog pl190 (bodyOf Try.f190) (bodyQ Try.prog Try.f190.results.toList k) (initF [v0]) w = S190 v0 k w := by kernel_rfl
theorem enter190 {v0 : Value} {k : Value → World → Prop} {w : World} (h : S190 v0 k w) : CallK Try.prog 190 [v0] k w :=
  call_of_wpF (pl := pl190) mixed Try.func190 body190 (by kernel_rfl) (of_decide_eq_true (by kernel_rfl)) (by kernel_rfl) (by kernel_rfl) (Eq.mpr (same190 v0 k w) h)

/-! loop.example/g00758/spec.l3Growing -/
/-! loop.example/g00758/spec.UsefulOf -/
def pl64 : Plans := fun _ => ⟨false, [], .nil⟩
def S64 (v0 : Value) (k : Value → World → Prop) (w : World) : Prop :=
 Do Try.prog (sBox 26 v0) (fun t1 w2 =>
 Do Try.prog (sAlloc 26) (fun t3 w4 =>
 Rd Try.prog (WS.at w4) (sLoad 26 t1) fun t5 =>
 CallK Try.prog 127 [t5] (fun t6 w7 =>
 Rd Try.prog (WS.at w7) (sUn .not t6) fun t8 =>
 CondK t8
  (Rd Try.prog (WS.at w7) (sBuild 26 []) fun t9 =>
  Do Try.prog (sStore 26 t3 t9) (fun _ w10 =>
  Rd Try.prog (WS.at w10) (sLoadVar 26 t3) fun t11 => k (.tuple #[t11, (.bool false)]) w10) w7)
  (Rd Try.prog (WS.at w7) (sLoad 26 t1) fun t12 =>
  CallK Try.prog 190 [t12] (fun t13 w14 =>
  Do Try.prog (sStore 26 t3 t13) (fun _ w15 =>
  Rd Try.prog (WS.at w15) (sLoadVar 26 t3) fun t16 => k (.tuple #[t16, (.bool true)]) w15) w14) w7)) w4) w2) w
theorem body64 : Try.f64.body = some (bodyOf Try.f64) := by kernel_rfl
theorem same64 (v0 : Value) (k : Value → World → Prop) (w : World) : wpF Try.prog pl64 (bodyOf Try.f64) (bodyQ Try.prog Try.f64.results.toList k) (initF [v0]) w = S64 v0 k w := by kernel_rfl
theorem enter64 {v0 : Value} {k : Value → World → Prop} {w : World} (h : S64 v0 k w) : CallK Try.prog 64 [v0] k w :=
  call_of_wpF (pl := pl64) mixed Try.func64 body64 (by kernel_rfl) (of_decide_eq_true (by kernel_rfl)) (by kernel_rfl) (by kernel_rfl) (Eq.mpr (same64 v0 k w) h)

/-! loop.example/g00758/spec.DrawIsUseful -/
/-! loop.example/g00758/spec.IsUseful -/
/-! loop.example/g00758/spec.NullableOf -/
/-! loop.example/g00758/spec.ProductiveOf -/
/-! loop.example/g00758/spec.ReachedOf -/
/-! loop.example/g00758/spec.GrowingOf -/
/-! loop.example/g00758/spec.LeastLong -/
/-! loop.example/g00758/spec.DrawGoodGrammar -/
/-! loop.example/g00758/spec.DrawIsFinite -/
/-! loop.example/g00758/spec.DrawLeastLong -/
def S62 (v0 : Value) (k : Value → World → Prop) (w : World) : Prop :=
 Do Try.prog (sAlloc 26) (fun t1 w2 =>
 CallK Try.prog 173 [v0] (fun t3 w4 =>
 Do Try.prog (sStore 26 t1 t3) (fun _ w5 =>
 Rd Try.prog (WS.at w5) (sLoadVar 26 t1) fun t6 => k t6 w5) w4) w2) w
/-! loop.example/g00758/spec.DrawLongEnough -/
/-! loop.example/g00758/spec.DrawStarOf -/
/-! loop.example/g00758/spec.DrawSizeOf -/
end Go.Proofs.Ytegcjkhebecgbaa

/- Contracts: l1Has, l1Put; rising lists as sets. -/
set_option linter.unusedVariables false
set_option linter.unusedSimpArgs false
set_option maxRecDepth 100000
namespace Go.Sh
open Go
/-- A number comes to its place, once. -/
def putL (n : Int) : List Int → List Int
  | [] => [n]
  | x :: xs => if x < n then x :: putL n xs else if x = n then x :: xs else n :: x :: xs
abbrev RiseI (xs : List Int) : Prop := xs.Pairwise fun a b => a < b
theorem rise_cons {x : Int} {xs : List Int} : RiseI (x :: xs) ↔ (∀ b ∈ xs, x < b) ∧ RiseI xs := List.pairwise_cons
theorem putL_mem {n m : Int} : ∀ {xs : List Int}, m ∈ putL n xs ↔ m = n ∨ m ∈ xs := by
  intro xs
  induction xs with
  | nil => simp [putL]
  | cons x xs ih =>
    unfold putL
    split
    · rw [List.mem_cons, ih, List.mem_cons]
      constructor
      · rintro (h | h | h)
        · exact .inr (.inl h)
        · exact .inl h
        · exact .inr (.inr h)
      · rintro (h | h | h)
        · exact .inr (.inl h)
        · exact .inl h
        · exact .inr (.inr h)
    · split
      · rename_i h
        subst h
        rw [List.mem_cons]
        constructor
        · exact fun h => .inr h
        · rintro (h | h)
          · exact .inl h
          · exact h
      · rw [List.mem_cons]
theorem putL_rise {n : Int} : ∀ {xs : List Int}, RiseI xs → RiseI (putL n xs) := by
  intro xs
  induction xs with
  | nil => intro _; simp [putL]
  | cons x xs ih =>
    intro h
    rw [rise_cons] at h
    unfold putL
    split
    · rename_i hx
      rw [rise_cons]
      refine ⟨fun b hb => ?_, ih h.2⟩
      rcases putL_mem.1 hb with rfl | hb
      · exact hx
      · exact h.1 b hb
    · split
      · rw [rise_cons]
        exact h
      · rw [rise_cons, rise_cons]
        refine ⟨fun b hb => ?_, h⟩
        rcases List.mem_cons.1 hb with rfl | hb
        · omega
        · have := h.1 b hb
          omega
theorem putL_more {n : Int} : ∀ {xs : List Int}, RiseI xs → n ∉ xs → (putL n xs).length = xs.length + 1 := by
  intro xs
  induction xs with
  | nil => intro _ _; simp [putL]
  | cons x xs ih =>
    intro h hn
    rw [rise_cons] at h
    rw [List.mem_cons] at hn
    unfold putL
    split
    · rw [List.length_cons, ih h.2 (fun e => hn (.inr e)), List.length_cons]
    · split
      · rename_i e
        exact absurd (.inl e.symm) hn
      · simp
theorem putL_split {n : Int} : ∀ {xs : List Int} {k : Nat}, k ≤ xs.length → (∀ j, j < k → xs.getD j 0 < n) → (k < xs.length → ¬ xs.getD k 0 < n) → putL n xs = if k < xs.length ∧ xs.getD k 0 = n then xs else xs.take k ++ n :: xs.drop k := by
  intro xs
  induction xs with
  | nil =>
    intro k hk _ _
    obtain rfl : k = 0 := by simpa using hk
    simp [putL]
  | cons x xs ih =>
    intro k hk h1 h2
    cases k with
    | zero =>
      have h3 := h2 (by simp)
      simp only [List.getD_cons_zero] at h3 ⊢
      unfold putL
      rw [if_neg h3]
      by_cases e : x = n
      · rw [if_pos e, if_pos ⟨by simp, e⟩]
      · rw [if_neg e, if_neg (fun h => e h.2)]
        rfl
    | succ k =>
      have h3 := h1 0 (by omega)
      simp only [List.getD_cons_zero] at h3
      unfold putL
      rw [if_pos h3, ih (k := k) (by simpa using hk) (fun j hj => by have := h1 (j + 1) (by omega); simpa using this) (fun hl => by have := h2 (by simpa using hl); simpa using this)]
      simp only [List.length_cons, List.getD_cons_succ, Nat.add_lt_add_iff_right]
      split <;> rfl
/-- Rising lists with the same members are the same. -/
theorem rise_ext : ∀ {xs ys : List Int}, RiseI xs → RiseI ys → (∀ m, m ∈ xs ↔ m ∈ ys) → xs = ys := by
  intro xs
  induction xs with
  | nil =>
    intro ys _ _ h
    cases ys with
    | nil => rfl
    | cons y ys => exact absurd ((h y).2 (List.mem_cons_self ..)) (by simp)
  | cons x xs ih =>
    intro ys hx hy h
    rw [rise_cons] at hx
    cases ys with
    | nil => exact absurd ((h x).1 (List.mem_cons_self ..)) (by simp)
    | cons y ys =>
      rw [rise_cons] at hy
      have e : x = y := by
        have h1 := (h x).1 (List.mem_cons_self ..)
        have h2 := (h y).2 (List.mem_cons_self ..)
        rcases List.mem_cons.1 h1 with e | h1
        · exact e
        · rcases List.mem_cons.1 h2 with e | h2
          · exact e.symm
          · have := hy.1 x h1
            have := hx.1 y h2
            omega
      subst e
      congr 1
      refine ih hx.2 hy.2 fun m => ?_
      have hm := h m
      rw [List.mem_cons, List.mem_cons] at hm
      constructor
      · intro h1
        rcases hm.1 (.inr h1) with rfl | h2
        · exact absurd (hx.1 m h1) (by omega)
        · exact h2
      · intro h1
        rcases hm.2 (.inr h1) with rfl | h2
        · exact absurd (hy.1 m h1) (by omega)
        · exact h2
open Classical in
/-- The numbers below n for which something holds. -/
noncomputable def setL (n : Nat) (P : Nat → Prop) : List Int := ((List.range n).filter fun a => decide (P a)).map fun (a : Nat) => (a : Int)
open Classical in
theorem setL_mem {n : Nat} {P : Nat → Prop} {m : Int} : m ∈ setL n P ↔ ∃ a : Nat, m = a ∧ a < n ∧ P a := by
  unfold setL
  rw [List.mem_map]
  constructor
  · rintro ⟨a, ha, rfl⟩
    rw [List.mem_filter, List.mem_range, decide_eq_true_eq] at ha
    exact ⟨a, rfl, ha⟩
  · rintro ⟨a, rfl, ha⟩
    exact ⟨a, by rw [List.mem_filter, List.mem_range, decide_eq_true_eq]; exact ha, rfl⟩
theorem setL_rise (n : Nat) (P : Nat → Prop) : RiseI (setL n P) := by
  unfold RiseI setL
  rw [List.pairwise_map]
  refine (List.Pairwise.sublist List.filter_sublist ?_)
  have := List.pairwise_lt_range (n := n)
  exact this.imp fun h => by omega
theorem rise_len : ∀ {xs : List Int} {a n : Int}, RiseI xs → (∀ x ∈ xs, a ≤ x ∧ x < n) → a ≤ n → (xs.length : Int) ≤ n - a := by
  intro xs
  induction xs with
  | nil => intro a n _ _ h; simp; omega
  | cons x xs ih =>
    intro a n h hb ha
    rw [rise_cons] at h
    have h1 := hb x (List.mem_cons_self ..)
    have := ih (a := x + 1) (n := n) h.2 (fun y hy => by have := h.1 y hy; have := hb y (List.mem_cons_of_mem _ hy); omega) (by omega)
    rw [List.length_cons]
    omega
end Go.Sh
namespace Go.Proofs.Ytegcjkhebecgbaa
open Go Go.Sh Go.RowKit
theorem l1Has_c {w : World} {X : Option Addr} {c : Nat} {xs : List Int} {n : Int} (hx : Ints w X xs) {k : Value → World → Prop} (hk : ∀ w', Gr w w' → k (.bool (decide (n ∈ xs))) w') :
    CallK Try.prog 244 [.slice X xs.length c, .int .i64 n] k w := by
  refine enter244 ?_
  unfold S244
  simp only [bin_add, bin_sub, bin_mul, bin_eql, bin_neq, bin_lss, bin_leq, bin_gtr, bin_geq, un_not, un_neg, zq4, zq3, zq1, zq2, zq0, cond_true', cond_false', zq14, zq15, zq16, zq17, zq13, zq10, zq12, zq11, zq7, zq5, zq6, zq9, zq8, resK_nil, resK_tmp, ite_T, ite_F, upd_at, add_plain, add_zero', Nat.reduceEqDiff, fa8_0, fa8_1, fa8_2, fa8_3, fa14_0, fa14_1, fa19_0, len22, len24, fa26_0, fa26_1, fa26_2, len27, fa33_0, fa33_1, len35, fa77_0, fa77_1, fa88_0, fa88_1, fa88_2, fa88_3, fa88_4, fa88_5, fa114_0, fa114_1, fa114_2, fa124_0, fa124_1, len134, len136, len154, fa156_0, fa156_1, fa156_2, fa156_3, fa156_4, fa156_5, fa156_6, fa184_0, fa184_1, fa200_0, fa200_1, fa200_2, fa200_3, fa215_0, fa215_1, fa215_2, fa215_3, fa215_4, len218, len271, fa274_0, fa274_1, fa274_2, fa303_0, fa303_1, fa303_2, fa303_3, fa314_0, fa314_1, fa314_2, fa314_3, fa314_4, fa314_5, fa314_6, fa314_7, fa314_8, fa314_9, fa314_10]
  refine loop_to xs.length 0 (fun i f w' => i ≤ xs.length ∧ f 9 = .int .i64 i ∧ Gr w w' ∧ n ∉ xs.take i) ⟨Nat.zero_le _, rfl, Gr.refl w, by simp⟩ ?_
  rintro i f w1 N hag ⟨hi, h9, hg, hpre⟩ hN
  have h1 : f 1 = .int .i64 n := hag 1 (by decide)
  have h7 : f 7 = .slice X xs.length c := hag 7 (by decide)
  have h8 : f 8 = .int .i64 xs.length := hag 8 (by decide)
  simp only [h1, h7, h8, h9, bin_add, bin_sub, bin_mul, bin_eql, bin_neq, bin_lss, bin_leq, bin_gtr, bin_geq, un_not, un_neg, zq4, zq3, zq1, zq2, zq0, cond_true', cond_false', zq14, zq15, zq16, zq17, zq13, zq10, zq12, zq11, zq7, zq5, zq6, zq9, zq8, resK_nil, resK_tmp, ite_T, ite_F, upd_at, add_plain, add_zero', Nat.reduceEqDiff, fa8_0, fa8_1, fa8_2, fa8_3, fa14_0, fa14_1, fa19_0, len22, len24, fa26_0, fa26_1, fa26_2, len27, fa33_0, fa33_1, len35, fa77_0, fa77_1, fa88_0, fa88_1, fa88_2, fa88_3, fa88_4, fa88_5, fa114_0, fa114_1, fa114_2, fa124_0, fa124_1, len134, len136, len154, fa156_0, fa156_1, fa156_2, fa156_3, fa156_4, fa156_5, fa156_6, fa184_0, fa184_1, fa200_0, fa200_1, fa200_2, fa200_3, fa215_0, fa215_1, fa215_2, fa215_3, fa215_4, len218, len271, fa274_0, fa274_1, fa274_2, fa303_0, fa303_1, fa303_2, fa303_3, fa314_0, fa314_1, fa314_2, fa314_3, fa314_4, fa314_5, fa314_6, fa314_7, fa314_8, fa314_9, fa314_10]
  by_cases hlt : i < xs.length
  · have hlt' : (i : Int) < xs.length := by omega
    have := hx.le
    simp only [hlt', decide_true, bin_add, bin_sub, bin_mul, bin_eql, bin_neq, bin_lss, bin_leq, bin_gtr, bin_geq, un_not, un_neg, zq4, zq3, zq1, zq2, zq0, cond_true', cond_false', zq14, zq15, zq16, zq17, zq13, zq10, zq12, zq11, zq7, zq5, zq6, zq9, zq8, resK_nil, resK_tmp, ite_T, ite_F, upd_at, add_plain, add_zero', Nat.reduceEqDiff, fa8_0, fa8_1, fa8_2, fa8_3, fa14_0, fa14_1, fa19_0, len22, len24, fa26_0, fa26_1, fa26_2, len27, fa33_0, fa33_1, len35, fa77_0, fa77_1, fa88_0, fa88_1, fa88_2, fa88_3, fa88_4, fa88_5, fa114_0, fa114_1, fa114_2, fa124_0, fa124_1, len134, len136, len154, fa156_0, fa156_1, fa156_2, fa156_3, fa156_4, fa156_5, fa156_6, fa184_0, fa184_1, fa200_0, fa200_1, fa200_2, fa200_3, fa215_0, fa215_1, fa215_2, fa215_3, fa215_4, len218, len271, fa274_0, fa274_1, fa274_2, fa303_0, fa303_1, fa303_2, fa303_3, fa314_0, fa314_1, fa314_2, fa314_3, fa314_4, fa314_5, fa314_6, fa314_7, fa314_8, fa314_9, fa314_10]
    rw [ixn27 hx.ptr hlt, ld3 ((hx.gr hg).cell i hlt)]
    simp only [bin_add, bin_sub, bin_mul, bin_eql, bin_neq, bin_lss, bin_leq, bin_gtr, bin_geq, un_not, un_neg, zq4, zq3, zq1, zq2, zq0, cond_true', cond_false', zq14, zq15, zq16, zq17, zq13, zq10, zq12, zq11, zq7, zq5, zq6, zq9, zq8, resK_nil, resK_tmp, ite_T, ite_F, upd_at, add_plain, add_zero', Nat.reduceEqDiff, fa8_0, fa8_1, fa8_2, fa8_3, fa14_0, fa14_1, fa19_0, len22, len24, fa26_0, fa26_1, fa26_2, len27, fa33_0, fa33_1, len35, fa77_0, fa77_1, fa88_0, fa88_1, fa88_2, fa88_3, fa88_4, fa88_5, fa114_0, fa114_1, fa114_2, fa124_0, fa124_1, len134, len136, len154, fa156_0, fa156_1, fa156_2, fa156_3, fa156_4, fa156_5, fa156_6, fa184_0, fa184_1, fa200_0, fa200_1, fa200_2, fa200_3, fa215_0, fa215_1, fa215_2, fa215_3, fa215_4, len218, len271, fa274_0, fa274_1, fa274_2, fa303_0, fa303_1, fa303_2, fa303_3, fa314_0, fa314_1, fa314_2, fa314_3, fa314_4, fa314_5, fa314_6, fa314_7, fa314_8, fa314_9, fa314_10]
    by_cases he : xs.getD i 0 = n
    · simp only [he, decide_true, bin_add, bin_sub, bin_mul, bin_eql, bin_neq, bin_lss, bin_leq, bin_gtr, bin_geq, un_not, un_neg, zq4, zq3, zq1, zq2, zq0, cond_true', cond_false', zq14, zq15, zq16, zq17, zq13, zq10, zq12, zq11, zq7, zq5, zq6, zq9, zq8, resK_nil, resK_tmp, ite_T, ite_F, upd_at, add_plain, add_zero', Nat.reduceEqDiff, fa8_0, fa8_1, fa8_2, fa8_3, fa14_0, fa14_1, fa19_0, len22, len24, fa26_0, fa26_1, fa26_2, len27, fa33_0, fa33_1, len35, fa77_0, fa77_1, fa88_0, fa88_1, fa88_2, fa88_3, fa88_4, fa88_5, fa114_0, fa114_1, fa114_2, fa124_0, fa124_1, len134, len136, len154, fa156_0, fa156_1, fa156_2, fa156_3, fa156_4, fa156_5, fa156_6, fa184_0, fa184_1, fa200_0, fa200_1, fa200_2, fa200_3, fa215_0, fa215_1, fa215_2, fa215_3, fa215_4, len218, len271, fa274_0, fa274_1, fa274_2, fa303_0, fa303_1, fa303_2, fa303_3, fa314_0, fa314_1, fa314_2, fa314_3, fa314_4, fa314_5, fa314_6, fa314_7, fa314_8, fa314_9, fa314_10]
      have := hk _ hg
      rwa [decide_eq_true (by rw [← he]; exact getD_mem hlt)] at this
    · simp only [he, decide_false, bin_add, bin_sub, bin_mul, bin_eql, bin_neq, bin_lss, bin_leq, bin_gtr, bin_geq, un_not, un_neg, zq4, zq3, zq1, zq2, zq0, cond_true', cond_false', zq14, zq15, zq16, zq17, zq13, zq10, zq12, zq11, zq7, zq5, zq6, zq9, zq8, resK_nil, resK_tmp, ite_T, ite_F, upd_at, add_plain, add_zero', Nat.reduceEqDiff, fa8_0, fa8_1, fa8_2, fa8_3, fa14_0, fa14_1, fa19_0, len22, len24, fa26_0, fa26_1, fa26_2, len27, fa33_0, fa33_1, len35, fa77_0, fa77_1, fa88_0, fa88_1, fa88_2, fa88_3, fa88_4, fa88_5, fa114_0, fa114_1, fa114_2, fa124_0, fa124_1, len134, len136, len154, fa156_0, fa156_1, fa156_2, fa156_3, fa156_4, fa156_5, fa156_6, fa184_0, fa184_1, fa200_0, fa200_1, fa200_2, fa200_3, fa215_0, fa215_1, fa215_2, fa215_3, fa215_4, len218, len271, fa274_0, fa274_1, fa274_2, fa303_0, fa303_1, fa303_2, fa303_3, fa314_0, fa314_1, fa314_2, fa314_3, fa314_4, fa314_5, fa314_6, fa314_7, fa314_8, fa314_9, fa314_10]
      rw [i64_of (by omega) (by omega)]
      refine hN _ _ hlt ⟨by omega, rfl, hg, ?_⟩
      rw [take_snoc hlt, List.mem_append, List.mem_singleton]
      exact fun h => h.elim hpre fun e => he e.symm
  · simp only [show ¬ (i : Int) < xs.length from by omega, decide_false, bin_add, bin_sub, bin_mul, bin_eql, bin_neq, bin_lss, bin_leq, bin_gtr, bin_geq, un_not, un_neg, zq4, zq3, zq1, zq2, zq0, cond_true', cond_false', zq14, zq15, zq16, zq17, zq13, zq10, zq12, zq11, zq7, zq5, zq6, zq9, zq8, resK_nil, resK_tmp, ite_T, ite_F, upd_at, add_plain, add_zero', Nat.reduceEqDiff, fa8_0, fa8_1, fa8_2, fa8_3, fa14_0, fa14_1, fa19_0, len22, len24, fa26_0, fa26_1, fa26_2, len27, fa33_0, fa33_1, len35, fa77_0, fa77_1, fa88_0, fa88_1, fa88_2, fa88_3, fa88_4, fa88_5, fa114_0, fa114_1, fa114_2, fa124_0, fa124_1, len134, len136, len154, fa156_0, fa156_1, fa156_2, fa156_3, fa156_4, fa156_5, fa156_6, fa184_0, fa184_1, fa200_0, fa200_1, fa200_2, fa200_3, fa215_0, fa215_1, fa215_2, fa215_3, fa215_4, len218, len271, fa274_0, fa274_1, fa274_2, fa303_0, fa303_1, fa303_2, fa303_3, fa314_0, fa314_1, fa314_2, fa314_3, fa314_4, fa314_5, fa314_6, fa314_7, fa314_8, fa314_9, fa314_10]
    have := hk _ hg
    rw [List.take_of_length_le (by omega)] at hpre
    rwa [decide_eq_false hpre] at this
set_option maxHeartbeats 1600000 in
theorem l1Put_c {w : World} {X : Option Addr} {c : Nat} {xs : List Int} {n : Int} (hx : kI X xs c w) (hl : xs.length ≤ 100000) {k : Value → World → Prop} (hk : ∀ w' X' c', Gr w w' → kI X' (putL n xs) c' w' → k (.slice X' (putL n xs).length c') w') :
    CallK Try.prog 274 [.slice X xs.length c, .int .i64 n] k w := by
  refine enter274 ?_
  unfold S274
  obtain ⟨hi0, hc⟩ := hx
  refine loop_to xs.length 0 (fun i f w' => i ≤ xs.length ∧ f 5 = .int .i64 i ∧ w' = w ∧ ∀ j, j < i → xs.getD j 0 < n) ⟨Nat.zero_le _, rfl, rfl, fun j hj => by omega⟩ ?_
  rintro i f w1 N hag ⟨hi, h5, rfl, hpre⟩ hN
  have h0 : f 0 = .slice X xs.length c := hag 0 (by decide)
  have h1 : f 1 = .int .i64 n := hag 1 (by decide)
  simp only [h0, h1, h5, bin_add, bin_sub, bin_mul, bin_eql, bin_neq, bin_lss, bin_leq, bin_gtr, bin_geq, un_not, un_neg, zq4, zq3, zq1, zq2, zq0, cond_true', cond_false', zq14, zq15, zq16, zq17, zq13, zq10, zq12, zq11, zq7, zq5, zq6, zq9, zq8, resK_nil, resK_tmp, ite_T, ite_F, upd_at, add_plain, add_zero', Nat.reduceEqDiff, fa8_0, fa8_1, fa8_2, fa8_3, fa14_0, fa14_1, fa19_0, len22, len24, fa26_0, fa26_1, fa26_2, len27, fa33_0, fa33_1, len35, fa77_0, fa77_1, fa88_0, fa88_1, fa88_2, fa88_3, fa88_4, fa88_5, fa114_0, fa114_1, fa114_2, fa124_0, fa124_1, len134, len136, len154, fa156_0, fa156_1, fa156_2, fa156_3, fa156_4, fa156_5, fa156_6, fa184_0, fa184_1, fa200_0, fa200_1, fa200_2, fa200_3, fa215_0, fa215_1, fa215_2, fa215_3, fa215_4, len218, len271, fa274_0, fa274_1, fa274_2, fa303_0, fa303_1, fa303_2, fa303_3, fa314_0, fa314_1, fa314_2, fa314_3, fa314_4, fa314_5, fa314_6, fa314_7, fa314_8, fa314_9, fa314_10]
  have fin : (i < xs.length → ¬ xs.getD i 0 < n) → ∀ (K : Value → World → Prop), (∀ w' X' c', Gr w1 w' → kI X' (putL n xs) c' w' → K (.slice X' (putL n xs).length c') w') → ¬ (i < xs.length ∧ xs.getD i 0 = n) →
      Do Try.prog (sBuildSlice 27 0 []) (fun t37 w38 =>
        Rd Try.prog (WS.at w38) (sSlice 27 (.slice X xs.length c) none (some (.int .i64 i)) none) fun t39 =>
        Do Try.prog (sBuiltin .append #[27, 27] 27 [false, false] [t37, t39]) (fun t40 w41 =>
        Do Try.prog (sBuildSlice 27 1 [(0, .int .i64 n)]) (fun t42 w43 =>
        Do Try.prog (sBuiltin .append #[27, 27] 27 [false, false] [t40, t42]) (fun t44 w45 =>
        Rd Try.prog (WS.at w45) (sSlice 27 (.slice X xs.length c) (some (.int .i64 i)) none none) fun t46 =>
        Do Try.prog (sBuiltin .append #[27, 27] 27 [false, false] [t44, t46]) (fun t47 w48 => K t47 w48) w45) w43) w41) w38) w1 := fun hnot K hK hne => by
    have H := Apt.nil w1
    refine buildH H u27 inf3 [] (by decide) (by decide) (by simp [Instr.fill, madeCells]) rfl fun b0 w2 H => ?_
    simp only [List.nil_append] at H
    refine rdi (slh27 (by omega) (by omega)) ?_
    have hs1 : Ints w2 (sub X 0 c 1) (xs.take i) := by
      have := (hi0.gr H.gr).sub (l := 0) (c := c) (Nat.zero_le _) hc i
      simpa using this
    have hlt : (xs.take i).length = i := by simp; omega
    refine apH H 0 (xs := []) rfl hs1 rfl (by rw [hlt]; simp) (by simp; omega) fun X1 d1 w3 H => ?_
    simp only [List.set_cons_zero, List.nil_append] at H ⊢
    refine pushH H 0 rfl rfl (by omega) fun t1 X2 d2 w4 H => ?_
    simp only [List.set_cons_zero] at H
    refine rdi (sll27 (by omega) (by omega)) ?_
    have hs2 : Ints w4 (sub X i c 1) (xs.drop i) := by
      have := (hi0.gr H.gr).sub (l := i) (c := c) hi hc xs.length
      rwa [List.take_of_length_le (by simp)] at this
    rw [Int.toNat_natCast]
    refine apH H 0 rfl hs2 rfl (by simp) (by simp; omega) fun X3 d3 w5 H => ?_
    simp only [List.set_cons_zero] at H
    have e : xs.take i ++ [n] ++ xs.drop i = putL n xs := by
      rw [putL_split hi hpre hnot, if_neg hne, List.append_assoc]
      rfl
    rw [e] at H ⊢
    exact hK w5 X3 d3 H.gr ⟨H.ints 0 rfl, (H.row 0 rfl).cap.1⟩
  by_cases hlt : i < xs.length
  · have hlt' : (i : Int) < xs.length := by omega
    have := hi0.le
    simp only [hlt', decide_true, bin_add, bin_sub, bin_mul, bin_eql, bin_neq, bin_lss, bin_leq, bin_gtr, bin_geq, un_not, un_neg, zq4, zq3, zq1, zq2, zq0, cond_true', cond_false', zq14, zq15, zq16, zq17, zq13, zq10, zq12, zq11, zq7, zq5, zq6, zq9, zq8, resK_nil, resK_tmp, ite_T, ite_F, upd_at, add_plain, add_zero', Nat.reduceEqDiff, fa8_0, fa8_1, fa8_2, fa8_3, fa14_0, fa14_1, fa19_0, len22, len24, fa26_0, fa26_1, fa26_2, len27, fa33_0, fa33_1, len35, fa77_0, fa77_1, fa88_0, fa88_1, fa88_2, fa88_3, fa88_4, fa88_5, fa114_0, fa114_1, fa114_2, fa124_0, fa124_1, len134, len136, len154, fa156_0, fa156_1, fa156_2, fa156_3, fa156_4, fa156_5, fa156_6, fa184_0, fa184_1, fa200_0, fa200_1, fa200_2, fa200_3, fa215_0, fa215_1, fa215_2, fa215_3, fa215_4, len218, len271, fa274_0, fa274_1, fa274_2, fa303_0, fa303_1, fa303_2, fa303_3, fa314_0, fa314_1, fa314_2, fa314_3, fa314_4, fa314_5, fa314_6, fa314_7, fa314_8, fa314_9, fa314_10]
    rw [ixn27 hi0.ptr hlt, ld3 (hi0.cell i hlt)]
    simp only [bin_add, bin_sub, bin_mul, bin_eql, bin_neq, bin_lss, bin_leq, bin_gtr, bin_geq, un_not, un_neg, zq4, zq3, zq1, zq2, zq0, cond_true', cond_false', zq14, zq15, zq16, zq17, zq13, zq10, zq12, zq11, zq7, zq5, zq6, zq9, zq8, resK_nil, resK_tmp, ite_T, ite_F, upd_at, add_plain, add_zero', Nat.reduceEqDiff, fa8_0, fa8_1, fa8_2, fa8_3, fa14_0, fa14_1, fa19_0, len22, len24, fa26_0, fa26_1, fa26_2, len27, fa33_0, fa33_1, len35, fa77_0, fa77_1, fa88_0, fa88_1, fa88_2, fa88_3, fa88_4, fa88_5, fa114_0, fa114_1, fa114_2, fa124_0, fa124_1, len134, len136, len154, fa156_0, fa156_1, fa156_2, fa156_3, fa156_4, fa156_5, fa156_6, fa184_0, fa184_1, fa200_0, fa200_1, fa200_2, fa200_3, fa215_0, fa215_1, fa215_2, fa215_3, fa215_4, len218, len271, fa274_0, fa274_1, fa274_2, fa303_0, fa303_1, fa303_2, fa303_3, fa314_0, fa314_1, fa314_2, fa314_3, fa314_4, fa314_5, fa314_6, fa314_7, fa314_8, fa314_9, fa314_10]
    by_cases hlt2 : xs.getD i 0 < n
    · simp only [hlt2, decide_true, bin_add, bin_sub, bin_mul, bin_eql, bin_neq, bin_lss, bin_leq, bin_gtr, bin_geq, un_not, un_neg, zq4, zq3, zq1, zq2, zq0, cond_true', cond_false', zq14, zq15, zq16, zq17, zq13, zq10, zq12, zq11, zq7, zq5, zq6, zq9, zq8, resK_nil, resK_tmp, ite_T, ite_F, upd_at, add_plain, add_zero', Nat.reduceEqDiff, fa8_0, fa8_1, fa8_2, fa8_3, fa14_0, fa14_1, fa19_0, len22, len24, fa26_0, fa26_1, fa26_2, len27, fa33_0, fa33_1, len35, fa77_0, fa77_1, fa88_0, fa88_1, fa88_2, fa88_3, fa88_4, fa88_5, fa114_0, fa114_1, fa114_2, fa124_0, fa124_1, len134, len136, len154, fa156_0, fa156_1, fa156_2, fa156_3, fa156_4, fa156_5, fa156_6, fa184_0, fa184_1, fa200_0, fa200_1, fa200_2, fa200_3, fa215_0, fa215_1, fa215_2, fa215_3, fa215_4, len218, len271, fa274_0, fa274_1, fa274_2, fa303_0, fa303_1, fa303_2, fa303_3, fa314_0, fa314_1, fa314_2, fa314_3, fa314_4, fa314_5, fa314_6, fa314_7, fa314_8, fa314_9, fa314_10]
      rw [i64_of (by omega) (by omega)]
      refine hN _ _ hlt ⟨by omega, rfl, rfl, fun j hj => ?_⟩
      rcases Nat.lt_succ_iff_lt_or_eq.1 hj with h | rfl
      · exact hpre j h
      · exact hlt2
    · simp only [hlt2, decide_false, h0, h1, h5, bin_add, bin_sub, bin_mul, bin_eql, bin_neq, bin_lss, bin_leq, bin_gtr, bin_geq, un_not, un_neg, zq4, zq3, zq1, zq2, zq0, cond_true', cond_false', zq14, zq15, zq16, zq17, zq13, zq10, zq12, zq11, zq7, zq5, zq6, zq9, zq8, resK_nil, resK_tmp, ite_T, ite_F, upd_at, add_plain, add_zero', Nat.reduceEqDiff, fa8_0, fa8_1, fa8_2, fa8_3, fa14_0, fa14_1, fa19_0, len22, len24, fa26_0, fa26_1, fa26_2, len27, fa33_0, fa33_1, len35, fa77_0, fa77_1, fa88_0, fa88_1, fa88_2, fa88_3, fa88_4, fa88_5, fa114_0, fa114_1, fa114_2, fa124_0, fa124_1, len134, len136, len154, fa156_0, fa156_1, fa156_2, fa156_3, fa156_4, fa156_5, fa156_6, fa184_0, fa184_1, fa200_0, fa200_1, fa200_2, fa200_3, fa215_0, fa215_1, fa215_2, fa215_3, fa215_4, len218, len271, fa274_0, fa274_1, fa274_2, fa303_0, fa303_1, fa303_2, fa303_3, fa314_0, fa314_1, fa314_2, fa314_3, fa314_4, fa314_5, fa314_6, fa314_7, fa314_8, fa314_9, fa314_10]
      rw [ixn27 hi0.ptr hlt, ld3 (hi0.cell i hlt)]
      simp only [bin_add, bin_sub, bin_mul, bin_eql, bin_neq, bin_lss, bin_leq, bin_gtr, bin_geq, un_not, un_neg, zq4, zq3, zq1, zq2, zq0, cond_true', cond_false', zq14, zq15, zq16, zq17, zq13, zq10, zq12, zq11, zq7, zq5, zq6, zq9, zq8, resK_nil, resK_tmp, ite_T, ite_F, upd_at, add_plain, add_zero', Nat.reduceEqDiff, fa8_0, fa8_1, fa8_2, fa8_3, fa14_0, fa14_1, fa19_0, len22, len24, fa26_0, fa26_1, fa26_2, len27, fa33_0, fa33_1, len35, fa77_0, fa77_1, fa88_0, fa88_1, fa88_2, fa88_3, fa88_4, fa88_5, fa114_0, fa114_1, fa114_2, fa124_0, fa124_1, len134, len136, len154, fa156_0, fa156_1, fa156_2, fa156_3, fa156_4, fa156_5, fa156_6, fa184_0, fa184_1, fa200_0, fa200_1, fa200_2, fa200_3, fa215_0, fa215_1, fa215_2, fa215_3, fa215_4, len218, len271, fa274_0, fa274_1, fa274_2, fa303_0, fa303_1, fa303_2, fa303_3, fa314_0, fa314_1, fa314_2, fa314_3, fa314_4, fa314_5, fa314_6, fa314_7, fa314_8, fa314_9, fa314_10]
      by_cases he : xs.getD i 0 = n
      · simp only [he, decide_true, bin_add, bin_sub, bin_mul, bin_eql, bin_neq, bin_lss, bin_leq, bin_gtr, bin_geq, un_not, un_neg, zq4, zq3, zq1, zq2, zq0, cond_true', cond_false', zq14, zq15, zq16, zq17, zq13, zq10, zq12, zq11, zq7, zq5, zq6, zq9, zq8, resK_nil, resK_tmp, ite_T, ite_F, upd_at, add_plain, add_zero', Nat.reduceEqDiff, fa8_0, fa8_1, fa8_2, fa8_3, fa14_0, fa14_1, fa19_0, len22, len24, fa26_0, fa26_1, fa26_2, len27, fa33_0, fa33_1, len35, fa77_0, fa77_1, fa88_0, fa88_1, fa88_2, fa88_3, fa88_4, fa88_5, fa114_0, fa114_1, fa114_2, fa124_0, fa124_1, len134, len136, len154, fa156_0, fa156_1, fa156_2, fa156_3, fa156_4, fa156_5, fa156_6, fa184_0, fa184_1, fa200_0, fa200_1, fa200_2, fa200_3, fa215_0, fa215_1, fa215_2, fa215_3, fa215_4, len218, len271, fa274_0, fa274_1, fa274_2, fa303_0, fa303_1, fa303_2, fa303_3, fa314_0, fa314_1, fa314_2, fa314_3, fa314_4, fa314_5, fa314_6, fa314_7, fa314_8, fa314_9, fa314_10]
        have e : putL n xs = xs := by rw [putL_split hi hpre (fun _ => hlt2), if_pos ⟨hlt, he⟩]
        have := hk w1 X c (Gr.refl _)
        rw [e] at this
        exact this ⟨hi0, hc⟩
      · simp only [he, decide_false, bin_add, bin_sub, bin_mul, bin_eql, bin_neq, bin_lss, bin_leq, bin_gtr, bin_geq, un_not, un_neg, zq4, zq3, zq1, zq2, zq0, cond_true', cond_false', zq14, zq15, zq16, zq17, zq13, zq10, zq12, zq11, zq7, zq5, zq6, zq9, zq8, resK_nil, resK_tmp, ite_T, ite_F, upd_at, add_plain, add_zero', Nat.reduceEqDiff, fa8_0, fa8_1, fa8_2, fa8_3, fa14_0, fa14_1, fa19_0, len22, len24, fa26_0, fa26_1, fa26_2, len27, fa33_0, fa33_1, len35, fa77_0, fa77_1, fa88_0, fa88_1, fa88_2, fa88_3, fa88_4, fa88_5, fa114_0, fa114_1, fa114_2, fa124_0, fa124_1, len134, len136, len154, fa156_0, fa156_1, fa156_2, fa156_3, fa156_4, fa156_5, fa156_6, fa184_0, fa184_1, fa200_0, fa200_1, fa200_2, fa200_3, fa215_0, fa215_1, fa215_2, fa215_3, fa215_4, len218, len271, fa274_0, fa274_1, fa274_2, fa303_0, fa303_1, fa303_2, fa303_3, fa314_0, fa314_1, fa314_2, fa314_3, fa314_4, fa314_5, fa314_6, fa314_7, fa314_8, fa314_9, fa314_10]
        exact fin (fun _ => hlt2) k hk (fun h => he h.2)
  · simp only [show ¬ (i : Int) < xs.length from by omega, decide_false, h0, h1, h5, bin_add, bin_sub, bin_mul, bin_eql, bin_neq, bin_lss, bin_leq, bin_gtr, bin_geq, un_not, un_neg, zq4, zq3, zq1, zq2, zq0, cond_true', cond_false', zq14, zq15, zq16, zq17, zq13, zq10, zq12, zq11, zq7, zq5, zq6, zq9, zq8, resK_nil, resK_tmp, ite_T, ite_F, upd_at, add_plain, add_zero', Nat.reduceEqDiff, fa8_0, fa8_1, fa8_2, fa8_3, fa14_0, fa14_1, fa19_0, len22, len24, fa26_0, fa26_1, fa26_2, len27, fa33_0, fa33_1, len35, fa77_0, fa77_1, fa88_0, fa88_1, fa88_2, fa88_3, fa88_4, fa88_5, fa114_0, fa114_1, fa114_2, fa124_0, fa124_1, len134, len136, len154, fa156_0, fa156_1, fa156_2, fa156_3, fa156_4, fa156_5, fa156_6, fa184_0, fa184_1, fa200_0, fa200_1, fa200_2, fa200_3, fa215_0, fa215_1, fa215_2, fa215_3, fa215_4, len218, len271, fa274_0, fa274_1, fa274_2, fa303_0, fa303_1, fa303_2, fa303_3, fa314_0, fa314_1, fa314_2, fa314_3, fa314_4, fa314_5, fa314_6, fa314_7, fa314_8, fa314_9, fa314_10]
    exact fin (fun h => absurd h hlt) k hk (fun h => hlt h.1)
end Go.Proofs.Ytegcjkhebecgbaa

/- Contracts: words of so many tokens, and all short words of a language, by the program. -/
set_option linter.unusedVariables false
set_option linter.unusedSimpArgs false
set_option maxRecDepth 100000
namespace Go.Sh
open Go
/-- Slices of numbers of which those from place n on are the call's own still. -/
structure OwnSF (e1 e2 : Nat) (w : World) (B : Nat) (X : Option Addr) (c : Nat) (ls : List (List Int)) (ps : Nat → Option Addr × Nat) (n : Nat) : Prop where
  row : ∃ cells, Row w B e1 1 X ls.length c cells ∧ ∀ j, j < ls.length → cells[j]? = some (.slice (ps j).1 (rgt ls j).length (ps j).2)
  own : ∀ j, n ≤ j → j < ls.length → Own e2 w B (ps j).1 (ps j).2 (rgt ls j)
  two : ∀ i j, n ≤ i → n ≤ j → i < ls.length → j < ls.length → i ≠ j → blk (ps i).1 = none ∨ blk (ps i).1 ≠ blk (ps j).1
def FootF (X : Option Addr) (ps : Nat → Option Addr × Nat) (n m : Nat) (q : Nat) : Prop := blk X = some q ∨ ∃ l, n ≤ l ∧ l < m ∧ blk (ps l).1 = some q
section
variable {e1 e2 c n B : Nat} {w w' w0 : World} {X : Option Addr} {ls : List (List Int)} {ps : Nat → Option Addr × Nat} {L : List Thing}
theorem OwnSF.same (h : OwnSF e1 e2 w B X c ls ps n) (hs : ∀ q, FootF X ps n ls.length q → w'.heap[q]? = w.heap[q]?) : OwnSF e1 e2 w' B X c ls ps n := by
  obtain ⟨⟨cells, hr, hc⟩, ho, ht⟩ := h
  exact ⟨⟨cells, hr.same fun q hq => hs q (.inl hq), hc⟩, fun j hn hj => Row.same (ho j hn hj) fun q hq => hs q (.inr ⟨j, hn, hj, hq⟩), ht⟩
theorem OwnSF.up {B' : Nat} (h : OwnSF e1 e2 w B X c ls ps n) (hs : ∀ q, FootF X ps n ls.length q → B' ≤ q) : OwnSF e1 e2 w B' X c ls ps n := by
  obtain ⟨⟨cells, hr, hc⟩, ho, ht⟩ := h
  exact ⟨⟨cells, hr.up fun q hq => hs q (.inl hq), hc⟩, fun j hn hj => Row.up (ho j hn hj) fun q hq => hs q (.inr ⟨j, hn, hj, hq⟩), ht⟩
theorem OwnSF.mono {B' : Nat} (h : OwnSF e1 e2 w B X c ls ps n) (hb : B' ≤ B) : OwnSF e1 e2 w B' X c ls ps n := by
  obtain ⟨⟨cells, hr, hc⟩, ho, ht⟩ := h
  exact ⟨⟨cells, Row.mono hr hb, hc⟩, fun j hn hj => Row.mono (ho j hn hj) hb, ht⟩
theorem OwnSF.foot (h : OwnSF e1 e2 w B X c ls ps n) {q : Nat} (hq : FootF X ps n ls.length q) : B ≤ q ∧ q < w.heap.size := by
  obtain ⟨⟨cells, hr, hc⟩, ho, ht⟩ := h
  rcases hq with hq | ⟨l, hn, hl, hq⟩
  · exact hr.ge hq
  · exact Row.ge (ho l hn hl) hq
theorem OwnSF.ptr (h : OwnSF e1 e2 w B X c ls ps n) (hl : 0 < ls.length) : X = some (ad X) := by
  obtain ⟨⟨cells, hr, hc⟩, _⟩ := h
  exact hr.ptr hl
theorem OwnSF.cell (h : OwnSF e1 e2 w B X c ls ps n) {j : Nat} (hj : j < ls.length) : w.cell? ((ad X).add j) = some (.slice (ps j).1 (rgt ls j).length (ps j).2) := by
  obtain ⟨⟨cells, hr, hc⟩, _⟩ := h
  exact hr.src.cell _ _ (hc j hj)
def lsfi (e1 e2 : Nat) (X : Option Addr) (c : Nat) (ls : List (List Int)) (ps : Nat → Option Addr × Nat) (n : Nat) : Thing := ⟨fun w => OwnSF e1 e2 w 0 X c ls ps n, FootF X ps n ls.length⟩
theorem Apt.lsfi (H : Apt w0 w L) (i : Nat) (hi : L[i]? = some (lsfi e1 e2 X c ls ps n)) : OwnSF e1 e2 w w0.heap.size X c ls ps n := OwnSF.up (H.get i hi) (H.ok i _ hi).lo
theorem Apt.lsf0 (H : Apt w0 w L) (i : Nat) (hi : L[i]? = some (Sh.lssi e1 e2 X c ls ps)) : Apt w0 w (L.set i (Sh.lsfi e1 e2 X c ls ps 0)) := by
  have o := H.lssi i hi
  refine H.set hi (Gx.refl _ w) (fun q hq => .inl ?_) (fun q hq => (o.foot ?_).2) fun w' hs => ?_
  · rcases hq with hq | ⟨l, _, hl, hq⟩
    · exact .inl hq
    · exact .inr ⟨l, hl, hq⟩
  · rcases hq with hq | ⟨l, _, hl, hq⟩
    · exact .inl hq
    · exact .inr ⟨l, hl, hq⟩
  · have o' : OwnSF e1 e2 w w0.heap.size X c ls ps 0 := ⟨o.row, fun j _ hj => o.own j hj, fun i j _ _ hi hj => o.two i j hi hj⟩
    exact (o'.mono (Nat.zero_le _)).same hs
/-- The slice at place n is taken out. -/
theorem Apt.pull (H : Apt w0 w L) (j : Nat) (he : e1 ≠ e2) (hj : L[j]? = some (Sh.lsfi e1 e2 X c ls ps n)) (hn : n < ls.length) : Apt w0 w (L.set j (Sh.lsfi e1 e2 X c ls ps (n + 1)) ++ [rwi e2 1 (ps n).1 (rgt ls n).length (ps n).2 (Sh.ints (rgt ls n))]) := by
  have o := H.lsfi j hj
  have okj := H.ok j _ hj
  have hsub : ∀ q, FootF X ps (n + 1) ls.length q → FootF X ps n ls.length q := fun q hq => by
    rcases hq with hq | ⟨l, h1, hl, hq⟩
    · exact .inl hq
    · exact .inr ⟨l, by omega, hl, hq⟩
  have hin : ∀ q, blk (ps n).1 = some q → FootF X ps n ls.length q := fun q hq => .inr ⟨n, Nat.le_refl _, hn, hq⟩
  have hoff : ∀ q, FootF X ps (n + 1) ls.length q → blk (ps n).1 ≠ some q := fun q hq e => by
    rcases hq with hq | ⟨l, h1, hl, hq⟩
    · obtain ⟨cells, hr, _⟩ := o.row
      rcases row_ne (o.own n (Nat.le_refl _) hn) hr (fun e => he e.symm) with h | h
      · rw [h] at e; cases e
      · exact h (e.trans hq.symm)
    · rcases o.two n l (Nat.le_refl _) (by omega) hn hl (by omega) with h | h
      · rw [h] at e; cases e
      · exact h (e.trans hq.symm)
  have sub : ∀ l x, (L.set j (Sh.lsfi e1 e2 X c ls ps (n + 1)) ++ [rwi e2 1 (ps n).1 (rgt ls n).length (ps n).2 (Sh.ints (rgt ls n))])[l]? = some x → (l = j ∧ x = Sh.lsfi e1 e2 X c ls ps (n + 1)) ∨ (l ≠ j ∧ L[l]? = some x) ∨ (l = L.length ∧ x = rwi e2 1 (ps n).1 (rgt ls n).length (ps n).2 (Sh.ints (rgt ls n))) := fun l x hx => by
    rcases get_snoc hx with h | ⟨h1, h2⟩
    · rcases get_set h with h | h
      · exact .inl h
      · exact .inr (.inl h)
    · rw [List.length_set] at h1
      exact .inr (.inr ⟨h1, h2⟩)
  have ho := o.own n (Nat.le_refl _) hn
  refine ⟨H.gr, fun l x hx => ?_, fun l m x y hlm hx hy q hq hq' => ?_⟩
  · rcases sub l x hx with ⟨_, rfl⟩ | ⟨_, h⟩ | ⟨_, rfl⟩
    · have o' : OwnSF e1 e2 w w0.heap.size X c ls ps (n + 1) := ⟨o.row, fun i hi => o.own i (by omega), fun a b ha hb => o.two a b (by omega) (by omega)⟩
      exact ⟨fun q hq => okj.lo q (hsub q hq), fun q hq => okj.hi q (hsub q hq), fun w' hs => (o'.mono (Nat.zero_le _)).same hs⟩
    · exact H.ok l x h
    · exact ⟨fun q hq => okj.lo q (hin q hq), fun q hq => okj.hi q (hin q hq), rwi_kept ho⟩
  · rcases sub l x hx with ⟨hl, rfl⟩ | ⟨hl, h⟩ | ⟨hl, rfl⟩
    · rcases sub m y hy with ⟨hm, rfl⟩ | ⟨hm, h'⟩ | ⟨hm, rfl⟩
      · exact hlm (hl.trans hm.symm)
      · exact H.two j m _ y (fun e => hm e.symm) hj h' q (hsub q hq) hq'
      · exact hoff q hq hq'
    · rcases sub m y hy with ⟨hm, rfl⟩ | ⟨hm, h'⟩ | ⟨hm, rfl⟩
      · exact H.two l j x _ hl h hj q hq (hsub q hq')
      · exact H.two l m x y hlm h h' q hq hq'
      · exact H.two l j x _ hl h hj q hq (hin q hq')
    · rcases sub m y hy with ⟨hm, rfl⟩ | ⟨hm, h'⟩ | ⟨hm, rfl⟩
      · exact hoff q hq' hq
      · exact H.two m j y _ hm h' hj q hq' (hin q hq)
      · exact hlm (hl.trans hm.symm)
end
end Go.Sh
namespace Go.Proofs.Ytegcjkhebecgbaa
open Go Go.Sh Go.RowKit
abbrev lsf (X : Option Addr) (c : Nat) (ls : List (List Int)) (ps : Nat → Option Addr × Nat) (n : Nat) : Thing := lsfi 27 3 X c ls ps n
theorem wordsOf_c {toks n : Nat} {tk : Int} {w : World} (htk : tk = toks) (ht : toks ≤ 4) (hn : n ≤ 4) {k : Value → World → Prop}
    (hk : ∀ w' U d ps, Gr w w' → OwnSS 27 3 w' w.heap.size U d (wordsN toks n) ps → k (.slice U (wordsN toks n).length d) w') :
    CallK Try.prog 157 [.int .i64 tk, .int .i64 n] k w := by
  subst htk
  refine enter157 ?_
  unfold S157
  have H := Apt.nil w
  refine buildH H u27 inf3 [] (by decide) (by decide) (by simp [Instr.fill, madeCells]) rfl fun b0 w1 H => ?_
  refine buildH H u35 inf27 [.slice (some ⟨b0, 0, none⟩) 0 0] (by decide) (by decide) (by simp [Instr.fill, madeCells, Value.cells, rng1]) rfl fun b1 w2 H => ?_
  simp only [List.nil_append, List.cons_append] at H
  have H := (H.single (i := 1) (j := 0) (by decide) (e2 := 3) (ys := []) rfl rfl).erase 0
  simp only [List.set_cons_zero, List.set_cons_succ, List.eraseIdx_cons_zero, List.eraseIdx_cons_succ] at H
  refine loop_to n 0 (fun m f w' => m ≤ n ∧ f 13 = .int .i64 m ∧ ∃ (U : Option Addr) (d : Nat) (ps : Nat → Option Addr × Nat), f 5 = .slice U (wordsN toks m).length d ∧ Apt w w' [lss U d (wordsN toks m) ps])
    ⟨Nat.zero_le _, rfl, _, _, _, rfl, H⟩ ?_
  rintro m f w3 N hag ⟨hm, h13, U, d, ps, h5, H⟩ hN
  have f0 : f 0 = .int .i64 toks := hag 0 (by decide)
  have f12 : f 12 = .int .i64 n := hag 12 (by decide)
  simp only [f12, h13, h5, f0, go_sem, Nat.reduceEqDiff]
  by_cases hlt : m < n
  case neg =>
    simp only [show ¬ ((m : Int) < n) from by omega, decide_false, go_sem, Nat.reduceEqDiff]
    obtain rfl : m = n := by omega
    exact hk _ U d ps H.gr (H.lssi 0 rfl)
  simp only [show ((m : Int) < n) from by omega, decide_true, go_sem, Nat.reduceEqDiff]
  have hwl := wordsN_le (toks := toks) (n := m) (by omega) (by omega)
  have hwm := fun w => @wordsN_mem toks m w
  have hnext : wordsN toks (m + 1) = (wordsN toks m).flatMap (extW toks) := rfl
  generalize wordsN toks m = ls at *
  refine buildH H u35 inf27 [] (by decide) (by decide) (by simp [Instr.fill, madeCells]) rfl fun b2 w4 H => ?_
  simp only [List.nil_append, List.cons_append] at H
  have H := H.emptySS 1 (e2 := 3) (fun _ => (none, 0)) rfl
  simp only [List.set_cons_zero, List.set_cons_succ] at H
  refine loop_to ls.length 0 (fun i f w' => i ≤ ls.length ∧ f 18 = .int .i64 i ∧ ∃ (X : Option Addr) (c : Nat) (rs : Nat → Option Addr × Nat), f 6 = .slice X ((ls.take i).flatMap (extW toks)).length c ∧
      Apt w w' [lss U d ls ps, lss X c ((ls.take i).flatMap (extW toks)) rs])
    ⟨Nat.zero_le _, rfl, _, _, _, rfl, H⟩ ?_
  rintro i g w5 N2 hag2 ⟨hi, h18, X, c, rs, h6, H⟩ hN2
  have g0 : g 0 = .int .i64 toks := (hag2 0 (by decide)).trans f0
  have g16 : g 16 = .slice U ls.length d := hag2 16 (by decide)
  have g17 : g 17 = .int .i64 ls.length := hag2 17 (by decide)
  have g13 : g 13 = .int .i64 m := (hag2 13 (by decide)).trans h13
  simp only [g0, g16, g17, g13, h18, h6, go_sem, Nat.reduceEqDiff]
  by_cases hlt2 : i < ls.length
  case neg =>
    simp only [show ¬ ((i : Int) < ls.length) from by omega, decide_false, go_sem, Nat.reduceEqDiff]
    rw [List.take_of_length_le (by omega)] at H h6 ⊢
    rw [i64_of (by omega) (by omega)]
    refine hN _ _ hlt ⟨by omega, rfl, X, c, rs, ?_, ?_⟩
    · rw [hnext]
      exact rfl
    · rw [hnext]
      exact H.erase 0
  simp only [show ((i : Int) < ls.length) from by omega, decide_true, go_sem, Nat.reduceEqDiff]
  have o := H.lssi 0 rfl
  have hm2 := hwm _ (rgt_mem hlt2)
  have hflat := flatMap_take_le (ls := ls) (k := toks) i
  have hmul : ls.length * toks ≤ 1024 * 4 := Nat.mul_le_mul hwl (by omega)
  have hel : ∀ t, (extW t (rgt ls i)).length = t := fun t => by simp [extW]
  refine rdi (ixn35 (fun h => o.ptr h) hlt2) ?_
  refine rdi (ld27 (o.cell hlt2)) ?_
  refine loop_to toks 0 (fun t f w' => t ≤ toks ∧ f 23 = .int .i64 t ∧ ∃ (X : Option Addr) (c : Nat) (rs : Nat → Option Addr × Nat), f 6 = .slice X ((ls.take i).flatMap (extW toks) ++ extW t (rgt ls i)).length c ∧
      Apt w w' [lss U d ls ps, lss X c ((ls.take i).flatMap (extW toks) ++ extW t (rgt ls i)) rs])
    ⟨Nat.zero_le _, rfl, X, c, rs, by simp only [extW, List.range_zero, List.map_nil, List.append_nil]; exact h6, by simpa only [extW, List.range_zero, List.map_nil, List.append_nil] using H⟩ ?_
  rintro t r w7 N3 hag3 ⟨ht', r23, X, c, rs, r6, H⟩ hN3
  have r8 : r 8 = .slice (ps i).1 (rgt ls i).length (ps i).2 := hag3 8 (by decide)
  have r22 : r 22 = .int .i64 toks := hag3 22 (by decide)
  have r18 : r 18 = .int .i64 i := (hag3 18 (by decide)).trans h18
  simp only [r8, r22, r23, r6, go_sem, Nat.reduceEqDiff]
  by_cases hlt3 : t < toks
  case neg =>
    simp only [show ¬ ((t : Int) < toks) from by omega, decide_false, r18, go_sem, Nat.reduceEqDiff]
    rw [i64_of (by omega) (by omega)]
    obtain rfl : t = toks := by omega
    refine hN2 _ _ hlt2 ⟨by omega, rfl, X, c, rs, ?_, ?_⟩
    · rw [take_snoc_rgt hlt2, flatMap_snoc]
      exact r6
    · rw [take_snoc_rgt hlt2, flatMap_snoc]
      exact H
  simp only [show ((t : Int) < toks) from by omega, decide_true, go_sem, Nat.reduceEqDiff]
  refine buildH H u27 inf3 [] (by decide) (by decide) (by simp [Instr.fill, madeCells]) rfl fun b3 w8 H => ?_
  simp only [List.nil_append, List.cons_append] at H
  have o := H.lssi 0 rfl
  have hwi := (o.own i hlt2).ints
  refine apH H 2 (xs := []) rfl hwi rfl rfl (by simp; omega) fun X1 d1 w9 H => ?_
  simp only [List.set_cons_zero, List.set_cons_succ, List.nil_append] at H ⊢
  refine pushH H 2 rfl rfl (by omega) fun t1 X2 d2 w10 H => ?_
  simp only [List.set_cons_zero, List.set_cons_succ] at H
  refine pushSSH H 1 2 (by decide) rfl rfl rfl rfl (by rw [List.length_append, hel]; omega) fun t2 X3 c3 w11 rs3 H => ?_
  have H := H.erase 2
  simp only [List.set_cons_zero, List.set_cons_succ, List.eraseIdx_cons_zero, List.eraseIdx_cons_succ] at H
  rw [i64_of (by omega) (by omega)]
  refine hN3 _ _ hlt3 ⟨by omega, rfl, X3, c3, rs3, ?_, ?_⟩
  · rw [extW_succ, ← List.append_assoc]
    rfl
  · rw [extW_succ, ← List.append_assoc]
    exact H
theorem implShortWords_c {F : Nat → Prop} {w : World} {v : Value} {gm : Gram} {most : Int} (hv : GramV F w v gm) {k : Value → World → Prop}
    (hk : ∀ w' U d ps, Gr w w' → OwnSS 27 3 w' w.heap.size U d (shortV gm most).1 ps → k (.tuple #[.slice U (shortV gm most).1.length d, .bool (shortV gm most).2]) w') :
    CallK Try.prog 23 [v, .int .i64 most] k w := by
  obtain ⟨Y, cy, rfl, hc, hy⟩ := hv
  refine enter23 ?_
  unfold S23
  have H := Apt.nil w
  refine boxH H fun b1 w1 H => ?_
  rw [ldB_agg agg26 sz26 rfl (H.box 0 rfl)]
  refine isGrammar_c (gm := gm) ⟨Y, cy, rfl, hc, hy.gr H.gr⟩ fun w2 g2 => ?_
  have H := H.step g2
  unfold shortV at hk
  cases hg : goodG gm
  · simp only [Bool.not_false, go_sem, Nat.reduceEqDiff]
    rw [hg, Bool.false_and, if_neg Bool.false_ne_true] at hk
    exact hk _ none 0 (fun _ => (none, 0)) H.gr (OwnSS.nil _ _ _ _ _)
  simp only [Bool.not_true, go_sem, Nat.reduceEqDiff]
  refine in_c ?_
  rw [hg, Bool.true_and] at hk
  cases hm : inB most 0 4
  · simp only [Bool.not_false, go_sem, Nat.reduceEqDiff]
    rw [hm, if_neg Bool.false_ne_true] at hk
    exact hk _ none 0 (fun _ => (none, 0)) H.gr (OwnSS.nil _ _ _ _ _)
  rw [hm, if_pos rfl] at hk
  obtain ⟨most, rfl⟩ : ∃ m' : Nat, most = m' := by
    simp only [inB, Bool.and_eq_true, decide_eq_true_eq] at hm
    exact ⟨most.toNat, by omega⟩
  have hm4 : most ≤ 4 := by
    simp only [inB, Bool.and_eq_true, decide_eq_true_eq] at hm
    omega
  rw [Int.toNat_natCast] at hk
  dsimp only at hk
  have htk := good_toks hg
  obtain ⟨toks, htoks⟩ : ∃ t : Nat, gm.toks = t := ⟨gm.toks.toNat, by omega⟩
  have htn : gm.toks.toNat = toks := by omega
  simp only [Bool.not_true, go_sem, Nat.reduceEqDiff]
  simp only [List.nil_append] at H
  refine buildH H u35 inf27 [] (by decide) (by decide) (by simp [Instr.fill, madeCells]) rfl fun b2 w3 H => ?_
  simp only [List.nil_append, List.cons_append] at H
  have H := H.emptySS 1 (e2 := 3) (fun _ => (none, 0)) rfl
  simp only [List.set_cons_zero, List.set_cons_succ] at H
  rw [i64_of (by omega) (by omega)]
  refine loop_to (most + 1) 0 (fun n f w' => n ≤ most + 1 ∧ f 21 = .int .i64 n ∧ ∃ (V : Option Addr) (e : Nat) (qs : Nat → Option Addr × Nat), f 6 = .slice V (shortW gm n).length e ∧
      Apt w w' [bx b1 [.int .i64 gm.nons, .int .i64 gm.toks, .slice Y gm.rules.length cy] 26, lss V e (shortW gm n) qs])
    ⟨Nat.zero_le _, rfl, _, _, _, rfl, H⟩ ?_
  rintro n f w4 N hag ⟨hn, h21, V, e, qs, h6, H⟩ hN
  have f20 : f 20 = .int .i64 ((most : Int) + 1) := hag 20 (by decide)
  have f2 : f 2 = ptrv b1 := hag 2 (by decide)
  simp only [f20, f2, h21, h6, go_sem, Nat.reduceEqDiff]
  by_cases hlt0 : n < most + 1
  case neg =>
    simp only [show ¬ ((n : Int) < (most : Int) + 1) from by omega, decide_false, go_sem, Nat.reduceEqDiff]
    obtain rfl : n = most + 1 := by omega
    exact hk _ V e qs H.gr (H.lssi 1 rfl)
  simp only [show ((n : Int) < (most : Int) + 1) from by omega, decide_true, go_sem, Nat.reduceEqDiff]
  rw [ldB3 (H.box 0 rfl) rfl]
  refine wordsOf_c (toks := toks) htoks (by omega) (by omega) fun w5 U d ps g5 o5 => ?_
  have H := H.addLss g5 o5
  have H := H.lsf0 2 rfl
  simp only [List.nil_append, List.cons_append, List.set_cons_zero, List.set_cons_succ] at H
  have hwl := wordsN_le (toks := toks) (n := n) (by omega) (by omega)
  have hwm := fun w => @wordsN_mem toks n w
  have hsl := shortW_len (gm := gm) htk.2 (n := n) (by omega)
  have hshort := shortW_succ gm n
  rw [htn] at hshort
  clear o5
  generalize wordsN toks n = ls at *
  generalize shortW gm n = so at *
  simp only [go_sem, Nat.reduceEqDiff]
  refine loop_to ls.length 0 (fun i f w' => i ≤ ls.length ∧ f 29 = .int .i64 i ∧ ∃ (V : Option Addr) (e : Nat) (qs : Nat → Option Addr × Nat), f 6 = .slice V (so ++ (ls.take i).filter (inL gm.rules)).length e ∧
      Apt w w' [bx b1 [.int .i64 gm.nons, .int .i64 gm.toks, .slice Y gm.rules.length cy] 26, lss V e (so ++ (ls.take i).filter (inL gm.rules)) qs, lsf U d ls ps i])
    ⟨Nat.zero_le _, rfl, V, e, qs, by simp only [List.take_zero, List.filter_nil, List.append_nil]; exact h6, by simpa only [List.take_zero, List.filter_nil, List.append_nil] using H⟩ ?_
  rintro i g w6 N2 hag2 ⟨hi, h29, V, e, qs, h6, H⟩ hN2
  have g27 : g 27 = .slice U ls.length d := hag2 27 (by decide)
  have g28 : g 28 = .int .i64 ls.length := hag2 28 (by decide)
  have g2' : g 2 = ptrv b1 := (hag2 2 (by decide)).trans f2
  have g7 : g 7 = .int .i64 n := hag2 7 (by decide)
  have g21 : g 21 = .int .i64 n := (hag2 21 (by decide)).trans h21
  simp only [g27, g28, g2', g7, g21, h29, h6, go_sem, Nat.reduceEqDiff]
  by_cases hlt : i < ls.length
  case neg =>
    simp only [show ¬ ((i : Int) < ls.length) from by omega, decide_false, go_sem, Nat.reduceEqDiff]
    rw [List.take_of_length_le (by omega)] at H h6
    rw [i64_of (by omega) (by omega)]
    refine hN _ _ hlt0 ⟨by omega, rfl, V, e, qs, ?_, ?_⟩
    · rw [hshort]
      exact h6
    · rw [hshort]
      exact H.erase 2
  simp only [show ((i : Int) < ls.length) from by omega, decide_true, go_sem, Nat.reduceEqDiff]
  have o := H.lsfi 2 rfl
  have hm2 := hwm _ (rgt_mem hlt)
  have hwi := (o.own i (Nat.le_refl _) hlt).ints
  have hfl := filter_le (inL gm.rules) (ls.take i)
  rw [List.length_take] at hfl
  have hxt : ∀ t ∈ rgt ls i, 0 ≤ t ∧ t ≤ 100 := fun t hmem => by
    have := hm2.2 t hmem
    omega
  refine rdi (ixn35 (fun h => o.ptr h) hlt) ?_
  refine rdi (ld27 (o.cell hlt)) ?_
  refine rdi (ldB_agg agg26 sz26 rfl (H.box 0 rfl)) ?_
  refine spans_c (gm := gm) ⟨Y, cy, rfl, hc, hy.gr H.gr⟩ hg hwi rfl (by omega) hxt fun w7 bT HT => ?_
  simp only [go_sem, Nat.reduceEqDiff]
  refine rdi (ixa122 (by decide) (by decide)) ?_
  refine rdi (ixa121 (by decide) (by decide)) ?_
  refine rdi (ixa120 (by omega) (by omega)) ?_
  simp only [Int.toNat_natCast, go_sem, Nat.reduceEqDiff]
  have hoff : 0 + (0 + 1) + Int.toNat 0 * 121 + Int.toNat 0 * 11 + n = 0 * 121 + 0 * 11 + (rgt ls i).length + 1 := by
    rw [show Int.toNat 0 = 0 from rfl, hm2.1]
    omega
  rw [hoff]
  refine rdi (ldB4 (HT.box 0 rfl) (cellsT_at (by decide) (by decide) (by omega))) ?_
  have H := (H.step HT.gr).pull 2 (by decide) rfl hlt
  simp only [List.nil_append, List.cons_append, List.set_cons_zero, List.set_cons_succ] at H
  have hsp : spanT gm.rules (rgt ls i) 0 0 (rgt ls i).length = inL gm.rules (rgt ls i) := rfl
  rw [hsp]
  cases hin : inL gm.rules (rgt ls i)
  · simp only [go_sem, Nat.reduceEqDiff]
    rw [i64_of (by omega) (by omega)]
    have hso : so ++ (ls.take (i + 1)).filter (inL gm.rules) = so ++ (ls.take i).filter (inL gm.rules) := by
      rw [take_snoc_rgt hlt, filter_snoc, hin, if_neg Bool.false_ne_true, List.append_nil]
    rw [← hso] at H h6
    exact hN2 _ _ hlt ⟨by omega, rfl, V, e, qs, h6, H.erase 3⟩
  · simp only [go_sem, Nat.reduceEqDiff]
    have hso : so ++ (ls.take (i + 1)).filter (inL gm.rules) = so ++ (ls.take i).filter (inL gm.rules) ++ [rgt ls i] := by
      rw [take_snoc_rgt hlt, filter_snoc, hin, if_pos rfl, List.append_assoc]
    refine pushSSH H 1 3 (by decide) rfl rfl rfl rfl (by rw [List.length_append]; omega) fun t V' e' w8 qs' H => ?_
    have H := H.erase 3
    simp only [List.set_cons_zero, List.set_cons_succ, List.eraseIdx_cons_zero, List.eraseIdx_cons_succ] at H
    rw [i64_of (by omega) (by omega)]
    rw [← hso] at H
    refine hN2 _ _ hlt ⟨by omega, rfl, V', e', qs', ?_, H⟩
    rw [hso]
    exact rfl
end Go.Proofs.Ytegcjkhebecgbaa

/- Contract: what comes again and again, by the program. -/
set_option linter.unusedVariables false
set_option linter.unusedSimpArgs false
set_option maxRecDepth 100000
namespace Go.Proofs.Ytegcjkhebecgbaa
open Go Go.Sh Go.RowKit

end Go.Proofs.Ytegcjkhebecgbaa

/- Bm: bodies of functions as terms of the frame calculus, printed by shgen.py of this repository. -/
set_option linter.unusedVariables false
set_option maxRecDepth 100000
namespace Go.Proofs.Ytegcjkhebecgbaa
open Go Go.Sh

/-! loop.example/g00758/spec.l20Two -/
def pl170 : Plans := fun _ => ⟨false, [], .nil⟩
def S170 (v0 v1 : Value) (k : Value → World → Prop) (w : World) : Prop :=
 Do Try.prog (sBox 26 v0) (fun t1 w2 =>
 Do Try.prog (sBox 26 v1) (fun t3 w4 =>
 Rd Try.prog (WS.at w4) (sLoad 26 t1) fun t5 =>
 CallK Try.prog 127 [t5] (fun t6 w7 =>
 GuardK t6 true (fun k w' => Rd Try.prog (WS.at w7) (sLoad 26 t3) fun v => k v w') (fun t8 w9 =>
 GuardK t6 true (fun k w' => CallK Try.prog 127 [t8] k w') (fun t10 w11 =>
 Rd Try.prog (WS.at w11) (sPick t6 t10 (.bool false)) fun t12 =>
 GuardK t12 true (fun k w' => Rd Try.prog (WS.at w11) (sFieldAddr 26 t1 1) fun v => k v w') (fun t13 w14 =>
 GuardK t12 true (fun k w' => Rd Try.prog (WS.at w14) (sLoad 3 t13) fun v => k v w') (fun t15 w16 =>
 GuardK t12 true (fun k w' => Rd Try.prog (WS.at w16) (sFieldAddr 26 t3 1) fun v => k v w') (fun t17 w18 =>
 GuardK t12 true (fun k w' => Rd Try.prog (WS.at w18) (sLoad 3 t17) fun v => k v w') (fun t19 w20 =>
 GuardK t12 true (fun k w' => Rd Try.prog (WS.at w20) (sBin .eql 3 false t15 t19) fun v => k v w') (fun t21 w22 =>
 Rd Try.prog (WS.at w22) (sPick t12 t21 (.bool false)) fun t23 =>
 k t23 w22) w20) w18) w16) w14) w11) w9) w7) w4) w2) w
theorem body170 : Try.f170.body = some (bodyOf Try.f170) := by kernel_rfl
theorem same170 (v0 v1 : Value) (k : Value → World → Prop) (w : World) : wpF Try.prog pl170 (bodyOf Try.f170) (bodyQ Try.prog Try.f170.results.toList k) (initF [v0, v1]) w = S170 v0 v1 k w := by kernel_rfl
theorem enter170 {v0 v1 : Value} {k : Value → World → Prop} {w : World} (h : S170 v0 v1 k w) : CallK Try.prog 170 [v0, v1] k w :=
  call_of_wpF (pl := pl170) mixed Try.func170 body170 (by kernel_rfl) (of_decide_eq_true (by kernel_rfl)) (by kernel_rfl) (by kernel_rfl) (Eq.mpr (same170 v0 v1 k w) h)

end Go.Proofs.Ytegcjkhebecgbaa

/- Contract: whether two grammars may be set beside each other (the reference's l20Two). -/
set_option linter.unusedVariables false
set_option linter.unusedSimpArgs false
set_option maxRecDepth 100000
namespace Go.Sh
open Go
def twoB (a b : Gram) : Bool := goodG a && goodG b && decide (a.toks = b.toks)
end Go.Sh
namespace Go.Proofs.Ytegcjkhebecgbaa
open Go Go.Sh Go.RowKit

theorem l20Two_c {F E : Nat → Prop} {w : World} {v u : Value} {a b : Gram} (hv : GramV F w v a) (hu : GramV E w u b) {k : Value → World → Prop} (hk : ∀ w', Gr w w' → k (.bool (twoB a b)) w') :
    CallK Try.prog 170 [v, u] k w := by
  obtain ⟨Y, c, rfl, hc, hy⟩ := hv
  obtain ⟨Z, d, rfl, hd, hz⟩ := hu
  refine enter170 ?_
  unfold S170
  refine do_box fun b1 w1 g1 hb1 h1 => ?_
  refine do_box fun b2 w2 g2 hb2 h2 => ?_
  have h1 := h1.gr g2
  have g := gr_trans g1 g2
  rw [ldB_agg agg26 sz26 rfl h1]
  refine goodGrammar_c (gm := a) ⟨Y, c, rfl, hc, hy.gr g⟩ fun w3 g3 => ?_
  have g := gr_trans g g3
  cases ha : goodG a
  · simp only [go_sem, Nat.reduceEqDiff]
    have := hk _ g
    rwa [show twoB a b = false from by simp [twoB, ha]] at this
  simp only [go_sem, Nat.reduceEqDiff]
  rw [ldB_agg agg26 sz26 rfl (h2.gr g3)]
  refine goodGrammar_c (gm := b) ⟨Z, d, rfl, hd, hz.gr g⟩ fun w4 g4 => ?_
  have g := gr_trans g g4
  cases hb : goodG b
  · simp only [go_sem, Nat.reduceEqDiff]
    have := hk _ g
    rwa [show twoB a b = false from by simp [twoB, hb]] at this
  simp only [go_sem, Nat.reduceEqDiff]
  rw [ldB3 (h1.gr (gr_trans g3 g4)) rfl]
  rw [ldB3 (h2.gr (gr_trans g3 g4)) rfl]
  simp only [go_sem, Nat.reduceEqDiff]
  have := hk _ g
  rwa [show twoB a b = decide (a.toks = b.toks) from by simp [twoB, ha, hb]] at this
end Go.Proofs.Ytegcjkhebecgbaa

/- Contracts: words in order, the first unlike word of two lists (the reference), equal lists (the program's library). -/
set_option linter.unusedVariables false
set_option linter.unusedSimpArgs false
set_option maxRecDepth 100000
namespace Go.Sh
open Go
def lexLess : List Int → List Int → Bool
  | x :: xs, y :: ys => if x ≠ y then decide (x < y) else lexLess xs ys
  | _, _ => false
def lessW (a b : List Int) : Bool := if a.length ≠ b.length then decide (a.length < b.length) else lexLess a b
def unlikeL : List (List Int) → List (List Int) → Option (List Int)
  | [], [] => none
  | x :: _, [] => some x
  | [], y :: _ => some y
  | x :: xs, y :: ys => if lessW x y = true then some x else if lessW y x = true then some y else unlikeL xs ys
def unlikeR (ls bs : List (List Int)) : List Int × Bool := match unlikeL ls bs with
  | some x => (x, true)
  | none => ([], false)
theorem lexLess_nil (b : List Int) : lexLess [] b = false := by cases b <;> rfl
theorem lexLess_drop {a b : List Int} {i : Nat} (hi : i < a.length) (hj : i < b.length) : lexLess (a.drop i) (b.drop i) = if a.getD i 0 ≠ b.getD i 0 then decide (a.getD i 0 < b.getD i 0) else lexLess (a.drop (i + 1)) (b.drop (i + 1)) := by
  rw [List.drop_eq_getElem_cons hi, List.drop_eq_getElem_cons hj, lexLess]
  simp [List.getD_eq_getElem?_getD, hi, hj]
theorem lex_eq : ∀ {a b : List Int}, a.length = b.length → lexLess a b = false → lexLess b a = false → a = b := by
  intro a
  induction a with
  | nil =>
    intro b h _ _
    cases b with
    | nil => rfl
    | cons y b => simp at h
  | cons x a ih =>
    intro b h h1 h2
    cases b with
    | nil => simp at h
    | cons y b =>
      unfold lexLess at h1 h2
      by_cases e : x = y
      · subst e
        rw [if_neg (fun h => h rfl)] at h1 h2
        rw [ih (by simpa using h) h1 h2]
      · rw [if_pos e] at h1
        rw [if_pos (fun e' => e e'.symm)] at h2
        simp only [decide_eq_false_iff_not] at h1 h2
        omega
theorem lexLess_self : ∀ a : List Int, lexLess a a = false := by
  intro a
  induction a with
  | nil => rfl
  | cons x a ih => rw [lexLess, if_neg (fun h => h rfl), ih]
theorem lessW_self (a : List Int) : lessW a a = false := by rw [lessW, if_neg (fun h => h rfl), lexLess_self]
theorem lessW_eq {a b : List Int} (h1 : lessW a b = false) (h2 : lessW b a = false) : a = b := by
  unfold lessW at h1 h2
  by_cases e : a.length = b.length
  · rw [if_neg (fun h => h e)] at h1
    rw [if_neg (fun h => h e.symm)] at h2
    exact lex_eq e h1 h2
  · rw [if_pos e] at h1
    rw [if_pos (fun h => e h.symm)] at h2
    simp only [decide_eq_false_iff_not] at h1 h2
    omega
theorem unlike_same : ∀ ls bs : List (List Int), (unlikeL ls bs).isSome = !decide (ls = bs) := by
  intro ls
  induction ls with
  | nil =>
    intro bs
    cases bs <;> simp [unlikeL]
  | cons x ls ih =>
    intro bs
    cases bs with
    | nil => simp [unlikeL]
    | cons y bs =>
      rw [unlikeL]
      cases h1 : lessW x y
      · cases h2 : lessW y x
        · rw [if_neg Bool.false_ne_true, if_neg Bool.false_ne_true, ih, lessW_eq h1 h2]
          simp
        · rw [if_neg Bool.false_ne_true, if_pos rfl]
          have : x ≠ y := fun e => by rw [e, lessW_self] at h2; cases h2
          simp [this]
      · rw [if_pos rfl]
        have : x ≠ y := fun e => by rw [e, lessW_self] at h1; cases h1
        simp [this]
theorem unlikeR_same (ls bs : List (List Int)) : (unlikeR ls bs).2 = !decide (ls = bs) := by
  rw [← unlike_same]
  unfold unlikeR
  cases unlikeL ls bs <;> rfl
theorem drop_rgt {ls : List (List Int)} {i : Nat} (h : i < ls.length) : ls.drop i = rgt ls i :: ls.drop (i + 1) := by
  rw [List.drop_eq_getElem_cons h, rgt_eq h]
theorem unlikeR_of {ls bs : List (List Int)} {x : List Int} (h : unlikeL ls bs = some x) : unlikeR ls bs = (x, true) := by rw [unlikeR, h]
theorem unlikeR_no {ls bs : List (List Int)} (h : unlikeL ls bs = none) : unlikeR ls bs = ([], false) := by rw [unlikeR, h]
end Go.Sh
namespace Go.Proofs.Ytegcjkhebecgbaa
open Go Go.Sh Go.RowKit
theorem l5Less_c {w : World} {X Y : Option Addr} {c d : Nat} {a b : List Int} (hX : Ints w X a) (hY : Ints w Y b) (hl : a.length = b.length) {k : Value → World → Prop} (hk : ∀ w', Gr w w' → k (.bool (lexLess a b)) w') :
    CallK Try.prog 307 [.slice X a.length c, .slice Y b.length d] k w := by
  refine enter307 ?_
  unfold S307
  simp only [go_sem, Nat.reduceEqDiff]
  have hle := hX.le
  refine loop_to a.length 0 (fun i f w' => i ≤ a.length ∧ f 8 = .int .i64 i ∧ Gr w w' ∧ lexLess a b = lexLess (a.drop i) (b.drop i)) ⟨Nat.zero_le _, rfl, Gr.refl _, by simp⟩ ?_
  rintro i f w1 N hag ⟨hi, h8, g, hE⟩ hN
  have f0 : f 0 = .slice X a.length c := hag 0 (by decide)
  have f1 : f 1 = .slice Y b.length d := hag 1 (by decide)
  have f7 : f 7 = .int .i64 a.length := hag 7 (by decide)
  simp only [f0, f1, f7, h8, go_sem, Nat.reduceEqDiff]
  by_cases hlt : i < a.length
  case neg =>
    simp only [show ¬ ((i : Int) < a.length) from by omega, decide_false, go_sem, Nat.reduceEqDiff]
    rw [List.drop_of_length_le (by omega), lexLess_nil] at hE
    rw [hE] at hk
    exact hk _ g
  simp only [show ((i : Int) < a.length) from by omega, decide_true, go_sem, Nat.reduceEqDiff]
  have hj : i < b.length := by omega
  have g1 := gr_trans g (gr_drew _)
  have g2 := gr_trans g1 (gr_drew _)
  refine rdi (ixn27 hX.ptr hlt) (rdi (ld3 ((hX.gr g1).cell i hlt)) (rdi (ixn27 hY.ptr hj) (rdi (ld3 ((hY.gr g1).cell i hj)) ?_)))
  simp only [go_sem, Nat.reduceEqDiff]
  rw [lexLess_drop hlt hj] at hE
  by_cases e : a.getD i 0 = b.getD i 0
  · simp only [e, decide_true, Bool.not_true, go_sem, Nat.reduceEqDiff]
    rw [i64_of (by omega) (by omega)]
    rw [if_neg (fun h => h e)] at hE
    exact hN _ _ hlt ⟨by omega, rfl, g1, hE⟩
  · simp only [e, decide_false, Bool.not_false, go_sem, Nat.reduceEqDiff]
    refine rdi (ixn27 hX.ptr hlt) (rdi (ld3 ((hX.gr g2).cell i hlt)) (rdi (ixn27 hY.ptr hj) (rdi (ld3 ((hY.gr g2).cell i hj)) ?_)))
    simp only [go_sem, Nat.reduceEqDiff]
    rw [if_pos e] at hE
    rw [hE] at hk
    exact hk _ g2
theorem l20Less_c {w : World} {X Y : Option Addr} {c d : Nat} {a b : List Int} (hX : Ints w X a) (hY : Ints w Y b) {k : Value → World → Prop} (hk : ∀ w', Gr w w' → k (.bool (lessW a b)) w') :
    CallK Try.prog 278 [.slice X a.length c, .slice Y b.length d] k w := by
  refine enter278 ?_
  unfold S278
  simp only [go_sem, Nat.reduceEqDiff]
  unfold lessW at hk
  by_cases e : a.length = b.length
  · simp only [show ((a.length : Int) = b.length) from by omega, decide_true, Bool.not_true, go_sem, Nat.reduceEqDiff]
    rw [if_neg (fun h => h e)] at hk
    refine l5Less_c hX hY e fun w1 g1 => ?_
    exact hk _ g1
  · simp only [show ¬ ((a.length : Int) = b.length) from by omega, decide_false, Bool.not_false, go_sem, Nat.reduceEqDiff]
    rw [if_pos e] at hk
    have := hk _ (Gr.refl _)
    rwa [show decide (a.length < b.length) = decide ((a.length : Int) < b.length) from by simp] at this
theorem l20Unlike_c {w : World} {U V : Option Addr} {d e : Nat} {ls bs : List (List Int)} (hA : Intss w U ls) (hB : Intss w V bs) (ha : ∀ x ∈ ls, x.length ≤ 1000) (hb : ∀ x ∈ bs, x.length ≤ 1000) {k : Value → World → Prop}
    (hk : ∀ w' X c, Gr w w' → Own 3 w' w.heap.size X c (unlikeR ls bs).1 → k (.tuple #[.slice X (unlikeR ls bs).1.length c, .bool (unlikeR ls bs).2]) w') :
    CallK Try.prog 198 [.slice U ls.length d, .slice V bs.length e] k w := by
  refine enter198 ?_
  unfold S198
  have hle := hA.le
  have hle2 := hB.le
  refine loop_to ls.length 0 (fun n f w' => n ≤ ls.length ∧ n ≤ bs.length ∧ f 6 = .int .i64 n ∧ f 7 = .int .i64 n ∧ Gr w w' ∧ unlikeL ls bs = unlikeL (ls.drop n) (bs.drop n)) ⟨Nat.zero_le _, Nat.zero_le _, rfl, rfl, Gr.refl _, by simp⟩ ?_
  rintro n f w1 N hag ⟨hn, hn2, h6, h7, g, hE⟩ hN
  have f0 : f 0 = .slice U ls.length d := hag 0 (by decide)
  have f1 : f 1 = .slice V bs.length e := hag 1 (by decide)
  simp only [f0, f1, h6, h7, go_sem, Nat.reduceEqDiff]
  by_cases h1 : n < ls.length
  · simp only [show ((n : Int) < ls.length) from by omega, decide_true, go_sem, Nat.reduceEqDiff]
    obtain ⟨XA, cA, cellA, leA, intA⟩ := (hA.gr g).row n h1
    have lA := ha _ (rgt_mem h1)
    by_cases h2 : n = bs.length
    · subst h2
      simp only [decide_true, go_sem, Nat.reduceEqDiff]
      rw [drop_rgt h1, show bs.drop bs.length = [] from List.drop_of_length_le (Nat.le_refl _), unlikeL] at hE
      rw [unlikeR_of hE] at hk
      have g1 := gr_trans g (gr_drew _)
      refine rdi (ixn35 hA.ptr h1) (rdi (ld27 ((gr_drew w1).cell cellA)) ?_)
      refine l1Own_c (intA.gr (gr_drew _)) rfl (by omega) fun X1 d1 w2 g2 o1 => ?_
      exact hk _ X1 d1 (gr_trans g1 g2) (Row.mono o1 g1.size)
    · simp only [show ¬ ((n : Int) = bs.length) from by omega, show ((n : Int) < ls.length) from by omega, show ¬ ((n : Int) = ls.length) from by omega, decide_true, decide_false, go_sem, Nat.reduceEqDiff]
      have h3 : n < bs.length := by omega
      rw [drop_rgt h1, drop_rgt h3, unlikeL] at hE
      have g1 := gr_trans g (gr_drew _)
      obtain ⟨XA, cA, cellA, leA, intA⟩ := (hA.gr g1).row n h1
      obtain ⟨XB, cB, cellB, leB, intB⟩ := (hB.gr g1).row n h3
      have lB := hb _ (rgt_mem h3)
      refine rdi (ixn35 hA.ptr h1) (rdi (ld27 cellA) (rdi (ixn35 hB.ptr h3) (rdi (ld27 cellB) ?_)))
      refine l20Less_c intA intB fun w2 g2 => ?_
      have G2 := gr_trans g1 g2
      cases hl : lessW (rgt ls n) (rgt bs n)
      · rw [hl, if_neg Bool.false_ne_true] at hE
        simp only [go_sem, Nat.reduceEqDiff]
        have G3 := gr_trans G2 (gr_drew _)
        have cellA := g2.cell cellA
        have cellB := g2.cell cellB
        have intA := intA.gr g2
        have intB := intB.gr g2
        refine rdi (ixn35 hB.ptr h3) (rdi (ld27 ((gr_drew w2).cell cellB)) (rdi (ixn35 hA.ptr h1) (rdi (ld27 ((gr_drew w2).cell cellA)) ?_)))
        refine l20Less_c (intB.gr (gr_drew _)) (intA.gr (gr_drew _)) fun w3 g3 => ?_
        have G4 := gr_trans G3 g3
        cases hl2 : lessW (rgt bs n) (rgt ls n)
        · simp only [go_sem, Nat.reduceEqDiff]
          rw [hl2, if_neg Bool.false_ne_true] at hE
          rw [i64_of (by omega) (by omega)]
          exact hN _ _ h1 ⟨by omega, by omega, rfl, rfl, G4, hE⟩
        · simp only [go_sem, Nat.reduceEqDiff]
          rw [hl2, if_pos rfl] at hE
          rw [unlikeR_of hE] at hk
          obtain ⟨XB, cB, cellB, leB, intB⟩ := (hB.gr G4).row n h3
          refine rdi (ixn35 hB.ptr h3) (rdi (ld27 cellB) ?_)
          refine l1Own_c intB rfl (by omega) fun X1 d1 w4 g4 o1 => ?_
          exact hk _ X1 d1 (gr_trans G4 g4) (Row.mono o1 G4.size)
      · rw [hl, if_pos rfl] at hE
        rw [unlikeR_of hE] at hk
        simp only [go_sem, Nat.reduceEqDiff]
        obtain ⟨XA, cA, cellA, leA, intA⟩ := (hA.gr G2).row n h1
        refine rdi (ixn35 hA.ptr h1) (rdi (ld27 cellA) ?_)
        refine l1Own_c intA rfl (by omega) fun X1 d1 w4 g4 o1 => ?_
        exact hk _ X1 d1 (gr_trans G2 g4) (Row.mono o1 G2.size)
  · simp only [show ¬ ((n : Int) < ls.length) from by omega, decide_false, go_sem, Nat.reduceEqDiff]
    obtain rfl : n = ls.length := by omega
    by_cases h2 : ls.length < bs.length
    · simp only [show ((ls.length : Int) < bs.length) from by omega, show ¬ ((ls.length : Int) = bs.length) from by omega, decide_true, decide_false, go_sem, Nat.reduceEqDiff]
      rw [show ls.drop ls.length = [] from List.drop_of_length_le (Nat.le_refl _), drop_rgt h2, unlikeL] at hE
      rw [unlikeR_of hE] at hk
      have lB := hb _ (rgt_mem h2)
      have g2 := gr_trans (gr_trans g (gr_drew _)) (gr_drew _)
      simp only [show ¬ ((ls.length : Int) < ls.length) from by omega, decide_true, decide_false, go_sem, Nat.reduceEqDiff]
      obtain ⟨XB, cB, cellB, leB, intB⟩ := (hB.gr g2).row _ h2
      refine rdi (ixn35 hB.ptr h2) (rdi (ld27 cellB) ?_)
      refine l1Own_c intB rfl (by omega) fun X1 d1 w4 g4 o1 => ?_
      exact hk _ X1 d1 (gr_trans g2 g4) (Row.mono o1 g2.size)
    · simp only [show ¬ ((ls.length : Int) < bs.length) from by omega, decide_false, go_sem, Nat.reduceEqDiff]
      rw [show ls.drop ls.length = [] from List.drop_of_length_le (Nat.le_refl _), show bs.drop ls.length = [] from List.drop_of_length_le (by omega), unlikeL] at hE
      rw [unlikeR_no hE] at hk
      exact hk _ none 0 g (Row.nil _ _ _ _)
end Go.Proofs.Ytegcjkhebecgbaa

/- Contracts: equal lists (the program's library), SameUpTo of the reference and of the program. -/
set_option linter.unusedVariables false
set_option linter.unusedSimpArgs false
set_option maxRecDepth 100000
namespace Go.Sh
open Go
theorem drop_eq_iff {a b : List Int} {i : Nat} (hi : i < a.length) (hj : i < b.length) : a.drop i = b.drop i ↔ a.getD i 0 = b.getD i 0 ∧ a.drop (i + 1) = b.drop (i + 1) := by
  rw [List.drop_eq_getElem_cons hi, List.drop_eq_getElem_cons hj, List.cons.injEq]
  simp [List.getD_eq_getElem?_getD, hi, hj]
theorem drops_eq_iff {a b : List (List Int)} {i : Nat} (hi : i < a.length) (hj : i < b.length) : a.drop i = b.drop i ↔ rgt a i = rgt b i ∧ a.drop (i + 1) = b.drop (i + 1) := by
  rw [drop_rgt hi, drop_rgt hj, List.cons.injEq]
noncomputable def sameV (a b : Gram) (most : Int) : Bool × Bool := if (shortV a most).2 = true ∧ (shortV b most).2 = true ∧ twoB a b = true then (decide ((shortV a most).1 = (shortV b most).1), true) else (false, false)
theorem shortV_mem {gm : Gram} {most : Int} {x : List Int} (h : x ∈ (shortV gm most).1) : x.length ≤ 1000 := by
  unfold shortV at h
  by_cases hh : (goodG gm && inB most 0 4) = true
  · rw [if_pos hh] at h
    have := (shortW_mem h).1
    simp only [inB, Bool.and_eq_true, decide_eq_true_eq] at hh
    omega
  · rw [if_neg hh] at h
    simp at h
theorem shortV_good {gm : Gram} {most : Int} (h : (shortV gm most).2 = true) : goodG gm = true := by
  unfold shortV at h
  by_cases hh : (goodG gm && inB most 0 4) = true
  · simp only [Bool.and_eq_true] at hh
    exact hh.1
  · rw [if_neg hh] at h
    cases h
end Go.Sh
namespace Go.Proofs.Ytegcjkhebecgbaa
open Go Go.Sh Go.RowKit
theorem equalI_c {w : World} {X Y : Option Addr} {c d n m : Nat} {a b : List Int} (hX : Ints w X a) (hY : Ints w Y b) (hn : n = a.length) (hm : m = b.length) {k : Value → World → Prop} (hk : ∀ w', Gr w w' → k (.bool (decide (a = b))) w') :
    CallK Try.prog 180 [.slice X n c, .slice Y m d] k w := by
  subst hn hm
  refine enter180 ?_
  unfold S180
  have hle := hX.le
  simp only [go_sem, Nat.reduceEqDiff]
  by_cases hl : a.length = b.length
  case neg =>
    simp only [show ¬ ((a.length : Int) = b.length) from by omega, decide_false, Bool.not_false, go_sem, Nat.reduceEqDiff]
    have := hk _ (Gr.refl w)
    rwa [show decide (a = b) = false from decide_eq_false fun e => hl (by rw [e])] at this
  simp only [show ((a.length : Int) = b.length) from by omega, decide_true, Bool.not_true, go_sem, Nat.reduceEqDiff]
  refine loop_to a.length 0 (fun i f w' => i ≤ a.length ∧ f 13 = .int .i64 i ∧ Gr w w' ∧ (a = b ↔ a.drop i = b.drop i)) ⟨Nat.zero_le _, rfl, Gr.refl _, by simp⟩ ?_
  rintro i f w1 N hag ⟨hi, h13, g, hE⟩ hN
  have f0 : f 0 = .slice X a.length c := hag 0 (by decide)
  have f1 : f 1 = .slice Y b.length d := hag 1 (by decide)
  have f12 : f 12 = .int .i64 b.length := hag 12 (by decide)
  simp only [f0, f1, f12, h13, go_sem, Nat.reduceEqDiff]
  by_cases hlt : i < a.length
  case neg =>
    simp only [show ¬ ((i : Int) < b.length) from by omega, decide_false, go_sem, Nat.reduceEqDiff]
    rw [List.drop_of_length_le (by omega), List.drop_of_length_le (by omega)] at hE
    have := hk _ g
    rwa [show decide (a = b) = true from decide_eq_true (hE.2 rfl)] at this
  simp only [show ((i : Int) < b.length) from by omega, decide_true, go_sem, Nat.reduceEqDiff]
  have hj : i < b.length := by omega
  have g1 := gr_trans g (gr_drew _)
  refine rdi (ixn27 hX.ptr hlt) (rdi (ld3 ((hX.gr g1).cell i hlt)) (rdi (ixn27 hY.ptr hj) (rdi (ld3 ((hY.gr g1).cell i hj)) ?_)))
  simp only [go_sem, Nat.reduceEqDiff]
  rw [drop_eq_iff hlt hj] at hE
  by_cases e : a.getD i 0 = b.getD i 0
  · simp only [e, decide_true, Bool.not_true, go_sem, Nat.reduceEqDiff]
    rw [i64_of (by omega) (by omega)]
    exact hN _ _ hlt ⟨by omega, rfl, g1, hE.trans ⟨fun h => h.2, fun h => ⟨e, h⟩⟩⟩
  · simp only [e, decide_false, Bool.not_false, go_sem, Nat.reduceEqDiff]
    have := hk _ g1
    rwa [show decide (a = b) = false from decide_eq_false fun h => e (hE.1 h).1] at this
theorem equalFunc_c {w : World} {U V : Option Addr} {d e n m : Nat} {ls bs : List (List Int)} (hA : Intss w U ls) (hB : Intss w V bs) (hn : n = ls.length) (hm : m = bs.length) {k : Value → World → Prop} (hk : ∀ w', Gr w w' → k (.bool (decide (ls = bs))) w') :
    CallK Try.prog 196 [.slice U n d, .slice V m e, .func (.func 197) #[] #[]] k w := by
  subst hn hm
  refine enter196 ?_
  unfold S196
  have hle := hA.le
  simp only [go_sem, Nat.reduceEqDiff]
  by_cases hl : ls.length = bs.length
  case neg =>
    simp only [show ¬ ((ls.length : Int) = bs.length) from by omega, decide_false, Bool.not_false, go_sem, Nat.reduceEqDiff]
    have := hk _ (Gr.refl w)
    rwa [show decide (ls = bs) = false from decide_eq_false fun e => hl (by rw [e])] at this
  simp only [show ((ls.length : Int) = bs.length) from by omega, decide_true, Bool.not_true, go_sem, Nat.reduceEqDiff]
  refine loop_to ls.length 0 (fun i f w' => i ≤ ls.length ∧ f 17 = .int .i64 i ∧ Gr w w' ∧ (ls = bs ↔ ls.drop i = bs.drop i)) ⟨Nat.zero_le _, rfl, Gr.refl _, by simp⟩ ?_
  rintro i f w1 N hag ⟨hi, h17, g, hE⟩ hN
  have f1 : f 1 = .slice V bs.length e := hag 1 (by decide)
  have f2 : f 2 = .func (.func 197) #[] #[] := hag 2 (by decide)
  have f15 : f 15 = .slice U ls.length d := hag 15 (by decide)
  have f16 : f 16 = .int .i64 bs.length := hag 16 (by decide)
  simp only [f1, f2, f15, f16, h17, go_sem, Nat.reduceEqDiff]
  by_cases hlt : i < ls.length
  case neg =>
    simp only [show ¬ ((i : Int) < bs.length) from by omega, decide_false, go_sem, Nat.reduceEqDiff]
    rw [List.drop_of_length_le (by omega), List.drop_of_length_le (by omega)] at hE
    have := hk _ g
    rwa [show decide (ls = bs) = true from decide_eq_true (hE.2 rfl)] at this
  simp only [show ((i : Int) < bs.length) from by omega, decide_true, go_sem, Nat.reduceEqDiff]
  have hj : i < bs.length := by omega
  obtain ⟨XA, cA, cellA, leA, intA⟩ := (hA.gr g).row i hlt
  obtain ⟨XB, cB, cellB, leB, intB⟩ := (hB.gr g).row i hj
  refine rdi (ixn35 hA.ptr hlt) (rdi (ld27 cellA) (rdi (ixn35 hB.ptr hj) (rdi (ld27 cellB) ?_)))
  refine callVc (caps := []) ?_
  refine enter197 ?_
  unfold S197
  refine equalI_c intA intB rfl rfl fun w2 g2 => ?_
  have G := gr_trans g g2
  simp only [go_sem, Nat.reduceEqDiff]
  rw [drops_eq_iff hlt hj] at hE
  by_cases e : rgt ls i = rgt bs i
  · simp only [e, decide_true, Bool.not_true, go_sem, Nat.reduceEqDiff]
    rw [i64_of (by omega) (by omega)]
    exact hN _ _ hlt ⟨by omega, rfl, G, hE.trans ⟨fun h => h.2, fun h => ⟨e, h⟩⟩⟩
  · simp only [e, decide_false, Bool.not_false, go_sem, Nat.reduceEqDiff]
    have := hk _ G
    rwa [show decide (ls = bs) = false from decide_eq_false fun h => e (hE.1 h).1] at this
theorem specSameUpTo_c {F E : Nat → Prop} {w : World} {v u : Value} {a b : Gram} {most : Int} (hv : GramV F w v a) (hu : GramV E w u b) {k : Value → World → Prop} (hk : ∀ w', Gr w w' → k (.tuple #[.bool (sameV a b most).1, .bool (sameV a b most).2]) w') :
    CallK Try.prog 76 [v, u, .int .i64 most] k w := by
  obtain ⟨Y, cy, rfl, hc, hy⟩ := hv
  obtain ⟨Z, cz, rfl, hd, hz⟩ := hu
  refine enter76 ?_
  unfold S76
  have H := Apt.nil w
  refine boxH H fun b1 w1 H => ?_
  refine boxH H fun b2 w2 H => ?_
  refine rdi (ldB_agg agg26 sz26 rfl (H.box 0 rfl)) ?_
  refine specShortWords_c (gm := a) ⟨Y, cy, rfl, hc, hy.gr H.gr⟩ fun w3 U d ps g3 o3 => ?_
  have H := H.addLss g3 o3
  simp only [List.nil_append, List.cons_append] at H
  refine rdi zq1 (rdi zq2 ?_)
  refine rdi (ldB_agg agg26 sz26 rfl (H.box 1 rfl)) ?_
  refine specShortWords_c (gm := b) ⟨Z, cz, rfl, hd, hz.gr H.gr⟩ fun w4 V e qs g4 o4 => ?_
  have H := H.addLss g4 o4
  simp only [List.nil_append, List.cons_append] at H
  clear o3 o4
  have no : ¬ ((shortV a most).2 = true ∧ (shortV b most).2 = true ∧ twoB a b = true) → ∀ w', Gr w w' → k (.tuple #[.bool false, .bool false]) w' := fun h w' g => by
    have := hk w' g
    rwa [sameV, if_neg h] at this
  simp only [go_sem, Nat.reduceEqDiff]
  cases h1 : (shortV a most).2
  · simp only [Bool.not_false, go_sem, Nat.reduceEqDiff]
    exact no (fun h => by rw [h1] at h; exact absurd h.1 Bool.false_ne_true) _ H.gr
  simp only [Bool.not_true, go_sem, Nat.reduceEqDiff]
  cases h2 : (shortV b most).2
  · simp only [Bool.not_false, go_sem, Nat.reduceEqDiff]
    exact no (fun h => by rw [h2] at h; exact absurd h.2.1 Bool.false_ne_true) _ H.gr
  simp only [Bool.not_true, go_sem, Nat.reduceEqDiff]
  refine rdi (ldB_agg agg26 sz26 rfl (H.box 0 rfl)) ?_
  refine rdi (ldB_agg agg26 sz26 rfl (H.box 1 rfl)) ?_
  refine l20Two_c (a := a) (b := b) ⟨Y, cy, rfl, hc, hy.gr H.gr⟩ ⟨Z, cz, rfl, hd, hz.gr H.gr⟩ fun w5 g5 => ?_
  have H := H.step g5
  cases h3 : twoB a b
  · simp only [Bool.not_false, go_sem, Nat.reduceEqDiff]
    exact no (fun h => by rw [h3] at h; exact absurd h.2.2 Bool.false_ne_true) _ H.gr
  simp only [Bool.not_true, go_sem, Nat.reduceEqDiff]
  refine l20Unlike_c (H.lssi 2 rfl).read (H.lssi 3 rfl).read (fun x => shortV_mem) (fun x => shortV_mem) fun w6 X c g6 o6 => ?_
  simp only [go_sem, Nat.reduceEqDiff]
  have := hk w6 (gr_trans H.gr g6)
  rw [sameV, if_pos ⟨h1, h2, h3⟩] at this
  rw [unlikeR_same, Bool.not_not]
  exact this
theorem implSameUpTo_c {F E : Nat → Prop} {w : World} {v u : Value} {a b : Gram} {most : Int} (hv : GramV F w v a) (hu : GramV E w u b) {k : Value → World → Prop} (hk : ∀ w', Gr w w' → k (.tuple #[.bool (sameV a b most).1, .bool (sameV a b most).2]) w') :
    CallK Try.prog 75 [v, u, .int .i64 most] k w := by
  obtain ⟨Y, cy, rfl, hc, hy⟩ := hv
  obtain ⟨Z, cz, rfl, hd, hz⟩ := hu
  refine enter75 ?_
  unfold S75
  have H := Apt.nil w
  refine boxH H fun b1 w1 H => ?_
  refine boxH H fun b2 w2 H => ?_
  refine rdi (ldB_agg agg26 sz26 rfl (H.box 0 rfl)) ?_
  refine implShortWords_c (gm := a) ⟨Y, cy, rfl, hc, hy.gr H.gr⟩ fun w3 U d ps g3 o3 => ?_
  have H := H.addLss g3 o3
  simp only [List.nil_append, List.cons_append] at H
  refine rdi zq1 (rdi zq2 ?_)
  refine rdi (ldB_agg agg26 sz26 rfl (H.box 1 rfl)) ?_
  refine implShortWords_c (gm := b) ⟨Z, cz, rfl, hd, hz.gr H.gr⟩ fun w4 V e qs g4 o4 => ?_
  have H := H.addLss g4 o4
  simp only [List.nil_append, List.cons_append] at H
  clear o3 o4
  have no : ¬ ((shortV a most).2 = true ∧ (shortV b most).2 = true ∧ twoB a b = true) → ∀ w', Gr w w' → k (.tuple #[.bool false, .bool false]) w' := fun h w' g => by
    have := hk w' g
    rwa [sameV, if_neg h] at this
  simp only [go_sem, Nat.reduceEqDiff]
  cases h1 : (shortV a most).2
  · simp only [Bool.not_false, go_sem, Nat.reduceEqDiff]
    exact no (fun h => by rw [h1] at h; exact absurd h.1 Bool.false_ne_true) _ H.gr
  simp only [Bool.not_true, go_sem, Nat.reduceEqDiff]
  cases h2 : (shortV b most).2
  · simp only [Bool.not_false, go_sem, Nat.reduceEqDiff]
    exact no (fun h => by rw [h2] at h; exact absurd h.2.1 Bool.false_ne_true) _ H.gr
  simp only [Bool.not_true, go_sem, Nat.reduceEqDiff]
  refine rdi (ldB3 (H.box 0 rfl) rfl) ?_
  refine rdi (ldB3 (H.box 1 rfl) rfl) ?_
  simp only [go_sem, Nat.reduceEqDiff]
  have h3' : twoB a b = decide (a.toks = b.toks) := by rw [twoB, shortV_good h1, shortV_good h2]; rfl
  by_cases h3 : a.toks = b.toks
  case neg =>
    simp only [h3, decide_false, Bool.not_false, go_sem, Nat.reduceEqDiff]
    exact no (fun h => by rw [h3'] at h; exact h3 (of_decide_eq_true h.2.2)) _ H.gr
  simp only [h3, decide_true, Bool.not_true, go_sem, Nat.reduceEqDiff]
  refine equalFunc_c (H.lssi 2 rfl).read (H.lssi 3 rfl).read rfl rfl fun w6 g6 => ?_
  have := hk w6 (gr_trans H.gr g6)
  rwa [sameV, if_pos ⟨h1, h2, by rw [h3']; exact decide_eq_true h3⟩] at this
end Go.Proofs.Ytegcjkhebecgbaa

/- Contracts: words compared (the program's library), FirstUnlike of the reference and of the program. -/
set_option linter.unusedVariables false
set_option linter.unusedSimpArgs false
set_option maxRecDepth 100000
namespace Go.Sh
open Go
def cmpI (x y : Int) : Int := if x < y then -1 else if y < x then 1 else 0
def cmpL : List Int → List Int → Int
  | x :: xs, y :: ys => if cmpI x y ≠ 0 then cmpI x y else cmpL xs ys
  | [], [] => 0
  | [], _ :: _ => -1
  | _ :: _, [] => 1
def cmpW (a b : List Int) : Int := if cmpI a.length b.length ≠ 0 then cmpI a.length b.length else cmpL a b
theorem cmpI_lt {x y : Int} : cmpI x y < 0 ↔ x < y := by
  unfold cmpI
  split
  · omega
  · split <;> omega
theorem cmpI_gt {x y : Int} : 0 < cmpI x y ↔ y < x := by
  unfold cmpI
  split
  · omega
  · split <;> omega
theorem cmpI_eq {x y : Int} : cmpI x y = 0 ↔ x = y := by
  unfold cmpI
  split
  · omega
  · split <;> omega
theorem cmpL_lex : ∀ {a b : List Int}, a.length = b.length → (decide (cmpL a b < 0) = lexLess a b) ∧ (decide (0 < cmpL a b) = lexLess b a) := by
  intro a
  induction a with
  | nil =>
    intro b h
    cases b with
    | nil => exact ⟨rfl, rfl⟩
    | cons y b => simp at h
  | cons x a ih =>
    intro b h
    cases b with
    | nil => simp at h
    | cons y b =>
      rw [cmpL, lexLess, lexLess]
      by_cases e : x = y
      · rw [if_neg (fun h => h (cmpI_eq.2 e)), if_neg (fun h => h e), if_neg (fun h => h e.symm)]
        exact ih (by simpa using h)
      · rw [if_pos (fun h => e (cmpI_eq.1 h)), if_pos e, if_pos (fun h => e h.symm)]
        exact ⟨by rw [decide_eq_decide]; exact cmpI_lt, by rw [decide_eq_decide]; exact cmpI_gt⟩
theorem cmpW_less (a b : List Int) : decide (cmpW a b < 0) = lessW a b ∧ decide (0 < cmpW a b) = lessW b a := by
  unfold cmpW lessW
  by_cases e : a.length = b.length
  · rw [if_neg (fun h => h (cmpI_eq.2 (by omega))), if_neg (fun h => h e), if_neg (fun h => h e.symm)]
    exact cmpL_lex e
  · rw [if_pos (fun h => e (by have := cmpI_eq.1 h; omega)), if_pos e, if_pos (fun h => e h.symm)]
    exact ⟨by rw [decide_eq_decide, cmpI_lt]; omega, by rw [decide_eq_decide, cmpI_gt]; omega⟩
theorem cmpL_drop {a b : List Int} {i : Nat} (hi : i < a.length) (hj : i < b.length) : cmpL (a.drop i) (b.drop i) = if cmpI (a.getD i 0) (b.getD i 0) ≠ 0 then cmpI (a.getD i 0) (b.getD i 0) else cmpL (a.drop (i + 1)) (b.drop (i + 1)) := by
  rw [List.drop_eq_getElem_cons hi, List.drop_eq_getElem_cons hj, cmpL]
  simp [List.getD_eq_getElem?_getD, hi, hj]
theorem cmpL_right {a b : List Int} {i : Nat} (hi : i < a.length) (hj : b.length ≤ i) : cmpL (a.drop i) (b.drop i) = 1 := by
  rw [List.drop_eq_getElem_cons hi, List.drop_of_length_le hj, cmpL]
theorem cmpL_left {a b : List Int} {i : Nat} (hi : a.length ≤ i) (hj : i < b.length) : cmpL (a.drop i) (b.drop i) = -1 := by
  rw [List.drop_eq_getElem_cons hj, List.drop_of_length_le hi, cmpL]
theorem cmpL_none {a b : List Int} {i : Nat} (hi : a.length ≤ i) (hj : b.length ≤ i) : cmpL (a.drop i) (b.drop i) = 0 := by
  rw [List.drop_of_length_le hi, List.drop_of_length_le hj, cmpL]
theorem unlike_mem : ∀ {ls bs : List (List Int)} {x : List Int}, unlikeL ls bs = some x → x ∈ ls ∨ x ∈ bs := by
  intro ls
  induction ls with
  | nil =>
    intro bs x h
    cases bs with
    | nil => cases h
    | cons y bs => rw [unlikeL] at h; exact .inr (by rw [← Option.some.inj h]; exact List.mem_cons_self ..)
  | cons z ls ih =>
    intro bs x h
    cases bs with
    | nil => rw [unlikeL] at h; exact .inl (by rw [← Option.some.inj h]; exact List.mem_cons_self ..)
    | cons y bs =>
      rw [unlikeL] at h
      split at h
      · exact .inl (by rw [← Option.some.inj h]; exact List.mem_cons_self ..)
      · split at h
        · exact .inr (by rw [← Option.some.inj h]; exact List.mem_cons_self ..)
        · exact (ih h).elim (fun h => .inl (List.mem_cons_of_mem _ h)) fun h => .inr (List.mem_cons_of_mem _ h)
noncomputable def firstV (a b : Gram) (most : Int) : List Int × Bool := if (shortV a most).2 = true ∧ (shortV b most).2 = true ∧ twoB a b = true then unlikeR (shortV a most).1 (shortV b most).1 else ([], false)
/-- The rest of a list of slices, from place i on. -/
structure AtS (w : World) (X : Option Addr) (n c : Nat) (ls : List (List Int)) (ps : Nat → Option Addr × Nat) (i : Nat) : Prop where
  len : n = ls.length - i
  le : n ≤ c
  ptr : 0 < n → X = some (ad X)
  cell : ∀ j, j < n → w.cell? ((ad X).add j) = some (.slice (ps (i + j)).1 (rgt ls (i + j)).length (ps (i + j)).2)
theorem AtS.gr {w w' : World} {X : Option Addr} {n c i : Nat} {ls : List (List Int)} {ps : Nat → Option Addr × Nat} (h : AtS w X n c ls ps i) (g : Gr w w') : AtS w' X n c ls ps i := ⟨h.len, h.le, h.ptr, fun j hj => g.cell (h.cell j hj)⟩
theorem AtS.first {w : World} {X : Option Addr} {n c i : Nat} {ls : List (List Int)} {ps : Nat → Option Addr × Nat} (h : AtS w X n c ls ps i) (h0 : 0 < n) : w.cell? ((ad X).add 0) = some (.slice (ps i).1 (rgt ls i).length (ps i).2) := h.cell 0 h0
theorem AtS.next {w : World} {X : Option Addr} {n c i : Nat} {ls : List (List Int)} {ps : Nat → Option Addr × Nat} (h : AtS w X n c ls ps i) (h0 : 0 < n) : AtS w (sub X 1 c 1) (n - 1) (c - 1) ls ps (i + 1) := by
  have hl := h.len
  have hle := h.le
  have hX := h.ptr h0
  refine ⟨by omega, by omega, fun h1 => ?_, fun j hj => ?_⟩
  · unfold Sh.sub
    rw [if_neg (by omega), hX]
    rfl
  · have := h.cell (j + 1) (by omega)
    unfold Sh.sub
    rw [if_neg (by omega), hX]
    show w.cell? (((ad X).add (1 * 1)).add j) = _
    rw [add_add, show 1 * 1 + j = j + 1 from by omega, this, show i + (j + 1) = i + 1 + j from by omega]
theorem AtS.of {w : World} {e1 e2 B c : Nat} {X : Option Addr} {ls : List (List Int)} {ps : Nat → Option Addr × Nat} (o : OwnSS e1 e2 w B X c ls ps) : AtS w X ls.length c ls ps 0 := by
  refine ⟨by omega, ?_, fun h => o.ptr h, fun j hj => ?_⟩
  · obtain ⟨⟨cells, hr, hc⟩, _⟩ := o
    exact hr.cap.1
  · rw [Nat.zero_add]
    exact o.cell hj
end Go.Sh
namespace Go.Proofs.Ytegcjkhebecgbaa
open Go Go.Sh Go.RowKit
theorem compare_c {w : World} {x y : Int} {k : Value → World → Prop} (hk : k (.int .i64 (cmpI x y)) w) : CallK Try.prog 280 [.int .i64 x, .int .i64 y] k w := by
  refine enter280 ?_
  unfold S280
  refine enter308 ?_
  unfold S308
  simp only [decide_true, Bool.not_true, go_sem, Nat.reduceEqDiff]
  refine enter308 ?_
  unfold S308
  simp only [decide_true, Bool.not_true, go_sem, Nat.reduceEqDiff]
  unfold cmpI at hk
  by_cases h1 : x < y
  · simp only [h1, decide_true, go_sem, Nat.reduceEqDiff]
    rwa [if_pos h1] at hk
  · simp only [h1, decide_false, go_sem, Nat.reduceEqDiff]
    rw [if_neg h1] at hk
    by_cases h2 : y < x
    · simp only [h2, decide_true, go_sem, Nat.reduceEqDiff]
      rwa [if_pos h2] at hk
    · simp only [h2, decide_false, go_sem, Nat.reduceEqDiff]
      rwa [if_neg h2] at hk
theorem compareL_c {w : World} {X Y : Option Addr} {c d : Nat} {a b : List Int} (hX : Ints w X a) (hY : Ints w Y b) {k : Value → World → Prop} (hk : k (.int .i64 (cmpL a b)) w) :
    CallK Try.prog 281 [.slice X a.length c, .slice Y b.length d] k w := by
  refine enter281 ?_
  unfold S281
  simp only [go_sem, Nat.reduceEqDiff]
  have hle := hX.le
  refine loop_to a.length 0 (fun i f w' => i ≤ a.length ∧ i ≤ b.length ∧ f 11 = .int .i64 i ∧ w' = w ∧ cmpL a b = cmpL (a.drop i) (b.drop i)) ⟨Nat.zero_le _, Nat.zero_le _, rfl, rfl, by simp⟩ ?_
  rintro i f w1 N hag ⟨hi, hib, h11, rfl, hE⟩ hN
  have f0 : f 0 = .slice X a.length c := hag 0 (by decide)
  have f1 : f 1 = .slice Y b.length d := hag 1 (by decide)
  have f9 : f 9 = .slice X a.length c := hag 9 (by decide)
  have f10 : f 10 = .int .i64 a.length := hag 10 (by decide)
  simp only [f0, f1, f9, f10, h11, go_sem, Nat.reduceEqDiff]
  by_cases hlt : i < a.length
  case neg =>
    simp only [show ¬ ((i : Int) < a.length) from by omega, decide_false, go_sem, Nat.reduceEqDiff]
    by_cases hb : a.length < b.length
    · simp only [show ((a.length : Int) < b.length) from by omega, decide_true, go_sem, Nat.reduceEqDiff]
      rw [cmpL_left (by omega) (by omega)] at hE
      rwa [hE] at hk
    · simp only [show ¬ ((a.length : Int) < b.length) from by omega, decide_false, go_sem, Nat.reduceEqDiff]
      rw [cmpL_none (by omega) (by omega)] at hE
      rwa [hE] at hk
  simp only [show ((i : Int) < a.length) from by omega, decide_true, go_sem, Nat.reduceEqDiff]
  refine rdi (ixn27 hX.ptr hlt) (rdi (ld3 (hX.cell i hlt)) ?_)
  by_cases hb : i < b.length
  case neg =>
    simp only [show ((b.length : Int) ≤ i) from by omega, decide_true, go_sem, Nat.reduceEqDiff]
    rw [cmpL_right hlt (by omega)] at hE
    rwa [hE] at hk
  simp only [show ¬ ((b.length : Int) ≤ i) from by omega, decide_false, go_sem, Nat.reduceEqDiff]
  refine rdi (ixn27 hY.ptr hb) (rdi (ld3 (hY.cell i hb)) ?_)
  refine compare_c ?_
  simp only [go_sem, Nat.reduceEqDiff]
  rw [cmpL_drop hlt hb] at hE
  by_cases e : cmpI (a.getD i 0) (b.getD i 0) = 0
  · simp only [e, decide_true, Bool.not_true, go_sem, Nat.reduceEqDiff]
    rw [i64_of (by omega) (by omega)]
    rw [if_neg (fun h => h e)] at hE
    exact hN _ _ hlt ⟨by omega, by omega, rfl, rfl, hE⟩
  · simp only [e, decide_false, Bool.not_false, go_sem, Nat.reduceEqDiff]
    rw [if_pos e] at hE
    rwa [hE] at hk
theorem or_c {w : World} {X : Option Addr} {c : Nat} {x y : Int} (hX : Ints w X [x, y]) {k : Value → World → Prop} (hk : k (.int .i64 (if x ≠ 0 then x else y)) w) :
    CallK Try.prog 279 [.slice X 2 c] k w := by
  refine enter279 ?_
  unfold S279
  simp only [go_sem, Nat.reduceEqDiff]
  refine loop_to 2 0 (fun i f w' => i ≤ 2 ∧ f 8 = .int .i64 i ∧ w' = w ∧ (1 ≤ i → x = 0) ∧ (2 ≤ i → y = 0)) ⟨Nat.zero_le _, rfl, rfl, by omega, by omega⟩ ?_
  rintro i f w1 N hag ⟨hi, h8, rfl, h1, h2⟩ hN
  have f6 : f 6 = .slice X 2 c := hag 6 (by decide)
  have f7 : f 7 = .int .i64 (2 : Nat) := hag 7 (by decide)
  have f3 : f 3 = .int .i64 0 := hag 3 (by decide)
  simp only [f6, f7, f3, h8, go_sem, Nat.reduceEqDiff]
  by_cases hlt : i < 2
  case neg =>
    simp only [show ¬ ((i : Int) < (2 : Nat)) from by omega, decide_false, go_sem, Nat.reduceEqDiff]
    rw [h1 (by omega), h2 (by omega)] at hk
    simpa using hk
  simp only [show ((i : Int) < (2 : Nat)) from by omega, decide_true, go_sem, Nat.reduceEqDiff]
  refine rdi (ixn27 (n := 2) hX.ptr hlt) (rdi (ld3 (hX.cell i hlt)) ?_)
  simp only [go_sem, Nat.reduceEqDiff]
  by_cases h0 : i = 0
  · subst h0
    show CondK (.bool !decide (x = 0)) _ _
    by_cases e : x = 0
    · simp only [e, decide_true, Bool.not_true, go_sem, Nat.reduceEqDiff]
      rw [i64_of (by omega) (by omega)]
      exact hN _ _ (by omega) ⟨by omega, rfl, rfl, fun _ => e, by omega⟩
    · simp only [e, decide_false, Bool.not_false, go_sem, Nat.reduceEqDiff]
      rwa [if_pos e] at hk
  · obtain rfl : i = 1 := by omega
    show CondK (.bool !decide (y = 0)) _ _
    by_cases e : y = 0
    · simp only [e, decide_true, Bool.not_true, go_sem, Nat.reduceEqDiff]
      rw [i64_of (by omega) (by omega)]
      exact hN _ _ (by omega) ⟨by omega, rfl, rfl, fun _ => h1 (by omega), fun _ => e⟩
    · simp only [e, decide_false, Bool.not_false, go_sem, Nat.reduceEqDiff]
      rwa [if_neg (fun h => h (h1 (by omega)))] at hk
theorem compareWords_c {w : World} {X Y : Option Addr} {c d : Nat} {a b : List Int} (hX : Ints w X a) (hY : Ints w Y b) {k : Value → World → Prop} (hk : ∀ w', Gr w w' → k (.int .i64 (cmpW a b)) w') :
    CallK Try.prog 199 [.slice X a.length c, .slice Y b.length d] k w := by
  refine enter199 ?_
  unfold S199
  simp only [go_sem, Nat.reduceEqDiff]
  refine compare_c ?_
  refine compareL_c hX hY ?_
  refine bs27 [.int .i64 (cmpI a.length b.length), .int .i64 (cmpL a b)] (by decide) (by simp [Instr.fill, madeCells, Value.cells, rng2]) rfl fun b1 w1 hb1 hb2 hg hbox hrow => ?_
  refine or_c (Own.ints (show Own 3 w1 w.heap.size (some ⟨b1, 0, none⟩) 2 [cmpI a.length b.length, cmpL a b] from hrow _ (Nat.le_refl _))) ?_
  exact hk _ hg
end Go.Proofs.Ytegcjkhebecgbaa
