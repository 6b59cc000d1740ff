/- Texts of this repository put together: ShZ8, Cb, Ce, ShE1, ShE2, ShE3, ShD2, Sh60, Sh61, ShE4, ShE5, Sh1z, ShM1, ShM2, ShM3, ShM4, ShM5, ShN1, Bh, ShM6, ShM7, ShN2, Bo, ShO2, Bp, ShY3, ShY4, Bk, ShX4, ShX6, ShX7. -/
import Derived.Test.YtegcjkhebecgbaaKPumpd
import Derived.Test.YtegcjkhebecgbaaProg
import Derived.Test.YtegcjkhebecgbaaKPumpa
import Derived.Test.YtegcjkhebecgbaaKPumpc
import Derived.Test.YtegcjkhebecgbaaKPumpb

set_option linter.unusedVariables false
set_option linter.unusedSimpArgs false
set_option maxRecDepth 100000
namespace Go.Proofs.Ytegcjkhebecgbaa
open Go Go.Sh Go.RowKit
section
variable {w0 w : World} {L E : List Thing} {bc N : Nat} {C : Option Addr} {cap : Nat} {bs : List Int} {k : Value → World → Prop}
theorem leftH (H : Apt w0 w L) (i : Nat) {ft : Nat → Prop} {X : Option Addr} {c : Nat} {r : RuleL} {rs : List RuleL} {v : Int} (hi : L[i]? = some (gth ft X c (r :: rs))) (h : ∀ w', Apt w0 w' (L.set i (gth ft X c ((v, r.2) :: rs))) → k undef w') : Do Try.prog (zx_ 3 (.pointer (some ((ad X).add 0))) (.int .i64 v)) k w := by
  obtain ⟨cells, hrow, hrc⟩ := H.gow i hi
  refine zme_ sz3 rfl rfl hrow (by rw [List.length_cons]; omega) fun w' hg hs hr => ?_
  cases hrc with
  | @cons _ _ Y d cells h1 h2 h3 =>
    refine h w' (H.set hi (it' := gth ft X c ((v, r.2) :: rs)) (gx_of hg fun q hq => .inl hq) (fun q hq => .inl hq) (fun q hq => Nat.lt_of_lt_of_le ((H.ok i _ hi).hi q hq) hg.size) (zdj_ (B := 0) ⟨_, hr, ?_⟩))
    refine .cons (r := (v, r.2)) h1 ?_ ?_
    · have hf : IntsF (fun q => (ft q ∧ blk X ≠ some q) ∧ q < w.heap.size) w Y r.2 := ltF h2
      exact (hf.same' fun q hq => hg.block q hq.2 fun e => hq.1.2 e.symm).mono fun q hq => hq.1
    · exact (h3.lt.same fun q hq => hg.block q hq.2 fun e => hq.1.2 e.symm).mono fun q hq => hq.1
set_option maxHeartbeats 3200000 in
theorem any_c (H : Apt w0 w (cur bc (.slice C bs.length cap) N :: E)) (hC : Byts w0 C bs) (hN : N ≤ 1000000) (hk : ∀ w' gm ft X c, Drawn 101 gm → Apt w0 w' (cur bc (.slice C bs.length cap) (N + 600) :: gth ft X c gm.rules :: E) → k (.agg #[.int .i64 gm.nons, .int .i64 gm.toks, .slice X gm.rules.length c]) w') :
    CallK Try.prog 145 [ptrv bc] k w := by
  refine enter145 ?_
  unfold S145
  refine zid_ H inf26 fun b1 w1 H => ?_
  have H := H.insert 1
  simp only [List.take_succ_cons, List.take_zero, List.drop_succ_cons, List.drop_zero, List.nil_append, List.cons_append] at H
  refine grammar_c H hC hN fun w2 gm ft X c hd H => ?_
  refine zid_ H inf26 fun b5 w3 H => ?_
  have H := H.insert 2
  simp only [List.take_succ_cons, List.take_zero, List.drop_succ_cons, List.drop_zero, List.nil_append, List.cons_append] at H
  refine zyb_ H 2 rfl sz26 rfl rfl rfl fun w4 H => ?_
  simp only [List.set_cons_zero, List.set_cons_succ, List.take_zero, List.drop_succ_cons, List.drop_zero, List.nil_append, List.append_nil, Value.cells] at H
  refine zmd_ (fun f w' => f 2 = ptrv b1 ∧ f 3 = ptrv b5 ∧ ∃ gm ft X c, Drawn 101 gm ∧ Apt w0 w' (cur bc (.slice C bs.length cap) (N + 600) :: gth ft X c gm.rules :: bx b5 [.int .i64 gm.nons, .int .i64 gm.toks, .slice X gm.rules.length c] 26 :: bx b1 [.int .i64 0, .int .i64 0, .slice none 0 0] 26 :: E)) (fun K hK => ?_) ?_
  case refine_2 =>
    clear H
    rintro f w5 ⟨f2, f3, gm, ft, X, c, hd, H⟩
    simp only [f2, f3]
    rw [zv_ zdb_ sz26 rfl (H.box 2 rfl)]
    refine zyb_ H 3 rfl sz26 rfl rfl rfl fun w9 H => ?_
    simp only [List.set_cons_zero, List.set_cons_succ] at H
    rw [zve_, zv_ zdb_ sz26 rfl (H.box 3 rfl)]
    have H := (H.erase 3).erase 2
    simp only [List.eraseIdx_cons_zero, List.eraseIdx_cons_succ] at H
    exact hk w9 gm ft X c hd H
  refine zfc_ H 0 rfl hC (by omega) (by omega) fun w5 t _ ht H => ?_
  simp only [List.set_cons_zero] at H
  have ht := ht (by omega)
  have amongs : ∀ (x y z : Int), (0 ≤ x ∧ x ≤ 1000) → (0 ≤ y ∧ y ≤ 1000) → (0 ≤ z ∧ z ≤ 1000) → ∀ (kk : Value → Value → World → Prop), (∀ v : Int, 0 ≤ v ∧ v ≤ 1000 → ∀ u w', Apt w0 w' (cur bc (.slice C bs.length cap) (N + 504) :: gth ft X c gm.rules :: bx b5 [.int .i64 gm.nons, .int .i64 gm.toks, .slice X gm.rules.length c] 26 :: bx b1 [.int .i64 0, .int .i64 0, .slice none 0 0] 26 :: E) → kk u (.int .i64 v) w') → Do Try.prog (zh_ 27 3 [(0, .int .i64 x), (1, .int .i64 y), (2, .int .i64 z)]) (fun t14 w15 => CallK Try.prog 156 [ptrv bc, t14] (fun t16 w17 => kk t14 t16 w17) w15) w5 := fun x y z hx hy hz kk hkk => by
    refine zjd_ H u27 inf3 (ints [x, y, z]) (by decide) (by decide) (by simp [Instr.fill, madeCells, Value.cells, rng3, ints]) rfl fun b7 w6 H => ?_
    have H := H.insert 1
    simp only [List.take_succ_cons, List.take_zero, List.drop_succ_cons, List.drop_zero, List.nil_append, List.cons_append] at H
    refine among_c (xs := [x, y, z]) H 0 rfl hC (by omega) (fun w' H => Apt.ints H 1 (xs := [x, y, z]) rfl) rfl (by simp) (by simp) fun w7 j hj H => ?_
    have H := H.erase 1
    simp only [List.set_cons_zero, List.eraseIdx_cons_zero, List.eraseIdx_cons_succ] at H
    refine hkk _ ?_ _ _ H
    have hj : j = 0 ∨ j = 1 ∨ j = 2 := by simp at hj; omega
    rcases hj with rfl | rfl | rfl
    · exact hx
    · exact hy
    · exact hz
  simp only [zq18, zq19, zq20, zq21, zq22, zq23, zq24, zq25, zq26, zq27, zq28, zq4, zq3, zq1, zq2, zq0, zq29, zq30, zq14, zq15, zq16, zq17, zq13, zq10, zq12, zq11, zq7, zq5, zq6, zq9, zq8, zq31, zq32, ite_T, ite_F, zq33, zq34, zq35, Nat.reduceEqDiff, len22, len24, fa26_0, fa26_1, fa26_2, len27, fa33_0, fa33_1, len35, fa114_0, fa114_1, fa114_2, fa124_0, fa124_1, len134, len154, fa156_0, fa156_1, fa156_2, fa156_3, fa156_4, fa156_5, fa156_6, len271, fa274_0, fa274_1, fa274_2]
  by_cases h0 : t = 0
  · subst h0
    simp only [show (((0 : Nat) : Int) = 0) from rfl, decide_true, zq18, zq19, zq20, zq21, zq22, zq23, zq24, zq25, zq26, zq27, zq28, zq4, zq3, zq1, zq2, zq0, zq29, zq30, zq14, zq15, zq16, zq17, zq13, zq10, zq12, zq11, zq7, zq5, zq6, zq9, zq8, zq31, zq32, ite_T, ite_F, zq33, zq34, zq35, Nat.reduceEqDiff, len22, len24, fa26_0, fa26_1, fa26_2, len27, fa33_0, fa33_1, len35, fa114_0, fa114_1, fa114_2, fa124_0, fa124_1, len134, len154, fa156_0, fa156_1, fa156_2, fa156_3, fa156_4, fa156_5, fa156_6, len271, fa274_0, fa274_1, fa274_2]
    refine amongs 0 6 7 (by omega) (by omega) (by omega) _ fun v hv u w7 H => ?_
    refine zyb_ H 2 rfl sz3 rfl rfl rfl fun w8 H => ?_
    simp only [List.set_cons_zero, List.set_cons_succ, List.take_succ_cons, List.take_zero, List.drop_succ_cons, List.drop_zero, List.nil_append, List.cons_append, Value.cells] at H
    exact hK _ _ ⟨rfl, rfl, ⟨v, gm.toks, gm.rules⟩, ft, X, c, ⟨hv, hd.toks, hd.some, by have := hd.few; show List.length gm.rules ≤ 101; omega⟩, zte_ (m := N + 600) H (by omega)⟩
  simp only [show ¬ ((t : Int) = 0) from by omega, decide_false, zq18, zq19, zq20, zq21, zq22, zq23, zq24, zq25, zq26, zq27, zq28, zq4, zq3, zq1, zq2, zq0, zq29, zq30, zq14, zq15, zq16, zq17, zq13, zq10, zq12, zq11, zq7, zq5, zq6, zq9, zq8, zq31, zq32, ite_T, ite_F, zq33, zq34, zq35, Nat.reduceEqDiff, len22, len24, fa26_0, fa26_1, fa26_2, len27, fa33_0, fa33_1, len35, fa114_0, fa114_1, fa114_2, fa124_0, fa124_1, len134, len154, fa156_0, fa156_1, fa156_2, fa156_3, fa156_4, fa156_5, fa156_6, len271, fa274_0, fa274_1, fa274_2]
  by_cases h1 : t = 1
  · subst h1
    simp only [show (((1 : Nat) : Int) = 1) from rfl, decide_true, zq18, zq19, zq20, zq21, zq22, zq23, zq24, zq25, zq26, zq27, zq28, zq4, zq3, zq1, zq2, zq0, zq29, zq30, zq14, zq15, zq16, zq17, zq13, zq10, zq12, zq11, zq7, zq5, zq6, zq9, zq8, zq31, zq32, ite_T, ite_F, zq33, zq34, zq35, Nat.reduceEqDiff, len22, len24, fa26_0, fa26_1, fa26_2, len27, fa33_0, fa33_1, len35, fa114_0, fa114_1, fa114_2, fa124_0, fa124_1, len134, len154, fa156_0, fa156_1, fa156_2, fa156_3, fa156_4, fa156_5, fa156_6, len271, fa274_0, fa274_1, fa274_2]
    refine amongs 0 4 5 (by omega) (by omega) (by omega) _ fun v hv u w7 H => ?_
    refine zyb_ H 2 rfl sz3 rfl rfl rfl fun w8 H => ?_
    simp only [List.set_cons_zero, List.set_cons_succ, List.take_succ_cons, List.take_zero, List.drop_succ_cons, List.drop_zero, List.nil_append, List.cons_append, Value.cells] at H
    exact hK _ _ ⟨rfl, rfl, ⟨gm.nons, v, gm.rules⟩, ft, X, c, ⟨hd.nons, hv, hd.some, by have := hd.few; show List.length gm.rules ≤ 101; omega⟩, zte_ (m := N + 600) H (by omega)⟩
  simp only [show ¬ ((t : Int) = 1) from by omega, decide_false, zq18, zq19, zq20, zq21, zq22, zq23, zq24, zq25, zq26, zq27, zq28, zq4, zq3, zq1, zq2, zq0, zq29, zq30, zq14, zq15, zq16, zq17, zq13, zq10, zq12, zq11, zq7, zq5, zq6, zq9, zq8, zq31, zq32, ite_T, ite_F, zq33, zq34, zq35, Nat.reduceEqDiff, len22, len24, fa26_0, fa26_1, fa26_2, len27, fa33_0, fa33_1, len35, fa114_0, fa114_1, fa114_2, fa124_0, fa124_1, len134, len154, fa156_0, fa156_1, fa156_2, fa156_3, fa156_4, fa156_5, fa156_6, len271, fa274_0, fa274_1, fa274_2]
  obtain ⟨nn, tt, rules⟩ := gm
  cases rules with
  | nil => exact absurd hd.some (by simp)
  | cons r rs =>
  by_cases h2 : t = 2
  · subst h2
    simp only [show (((2 : Nat) : Int) = 2) from rfl, decide_true, zq18, zq19, zq20, zq21, zq22, zq23, zq24, zq25, zq26, zq27, zq28, zq4, zq3, zq1, zq2, zq0, zq29, zq30, zq14, zq15, zq16, zq17, zq13, zq10, zq12, zq11, zq7, zq5, zq6, zq9, zq8, zq31, zq32, ite_T, ite_F, zq33, zq34, zq35, Nat.reduceEqDiff, len22, len24, fa26_0, fa26_1, fa26_2, len27, fa33_0, fa33_1, len35, fa114_0, fa114_1, fa114_2, fa124_0, fa124_1, len134, len154, fa156_0, fa156_1, fa156_2, fa156_3, fa156_4, fa156_5, fa156_6, len271, fa274_0, fa274_1, fa274_2]
    have H := H.drew
    obtain ⟨cells, hrow, hrc⟩ := H.gow 1 rfl
    refine ⟨fun w' => Gr w5.drew w', Gr.refl _, ?_⟩
    refine rdi (rdG one24 (H.box 2 rfl) rfl) (rdi (rdG one24 (H.box 2 rfl) rfl) ?_)
    refine rdi (ix24_0 (fun _ => hrow.ptr (by simp)) (by simp)) ?_
    have hsrc := hrow.src
    obtain ⟨Y, d, a1, a2, a3, a4⟩ := hrc.cell 0 (by simp)
    rw [zhh_ zbe_ sz33 (cs := [.int .i64 r.1, .slice Y r.2.length d]) rfl (fun w' hw j hj => by
      match j, hj with
      | 0, _ => rw [zhc_]; exact hw.cell (hsrc.cell _ _ a1)
      | 1, _ => rw [zhc_]; exact hw.cell (hsrc.cell _ _ a2))]
    refine zbb_ u24 zhd_ (cells := [.int .i64 r.1, .slice Y r.2.length d]) (by decide) (by decide) (by simp [Instr.fill, madeCells, Value.cells, rng1, rng2]) rfl fun b6 w6 hb5 hb6 g6 _ r6 => ?_
    refine ⟨g6, ?_⟩
    have H := H.step g6
    obtain ⟨cells, hrow, hrc⟩ := H.gow 1 rfl
    refine zih_ u24 zhd_ rfl (by decide) hrow (Row.src (r6 _ (Nat.le_refl _))) rfl (by intro v hv; simp at hv; rcases hv with rfl | rfl <;> rfl) (by have := hd.few; simp only [List.length_cons] at this ⊢; omega) (by have := hd.few; simp only [List.length_cons] at this ⊢; omega) (Nat.zero_le _) fun X' c' w' hr' hg hmv => ?_
    have hnew : ∀ q, q < w6.heap.size → blk X ≠ some q → blk X' ≠ some q := fun q hq hn e => by
      rcases hmv with h1 | h1
      · exact hn (h1 ▸ e)
      · have := h1 q e
        omega
    have hrc2 : RuleCells (fun q => ft q ∧ blk X' ≠ some q) w' ((r :: rs) ++ [r]) (cells ++ [.int .i64 r.1, .slice Y r.2.length d]) := by
      refine RuleCells.append ((hrc.lt.same fun q hq => hg.block q hq.2 fun e => hq.1.2 e.symm).mono fun q hq => ⟨hq.1.1, hnew q hq.2 hq.1.2⟩) (.cons a3 ?_ .nil)
      exact ((ltF (a4.gr g6)).same' fun q hq => hg.block q hq.2 fun e => hq.1.2 e.symm).mono fun q hq => ⟨hq.1.1, hnew q hq.2 hq.1.2⟩
    have hlen : (r :: rs).length + 1 = ((r :: rs) ++ [r]).length := by simp
    rw [hlen] at hr' ⊢
    have H := H.set (i := 1) rfl (it' := gth ft X' c' ((r :: rs) ++ [r])) (gx_of hg fun q hq => .inl hq) (fun q hq => by
      rcases hq with hq | hq
      · rcases hmv with e | e
        · exact .inl (.inl (e ▸ hq))
        · exact .inr (e q hq)
      · exact .inl (.inr hq)) (fun q hq => by
      rcases hq with hq | hq
      · exact (hr'.ge hq).2
      · exact Nat.lt_of_lt_of_le ((H.ok 1 _ rfl).hi q (.inr hq)) hg.size) (zdj_ ⟨_, hr', hrc2⟩)
    simp only [List.set_cons_zero, List.set_cons_succ] at H
    simp only [zq18, zq19, zq20, zq21, zq22, zq23, zq24, zq25, zq26, zq27, zq28, zq4, zq3, zq1, zq2, zq0, zq29, zq30, zq14, zq15, zq16, zq17, zq13, zq10, zq12, zq11, zq7, zq5, zq6, zq9, zq8, zq31, zq32, ite_T, ite_F, zq33, zq34, zq35, Nat.reduceEqDiff, len22, len24, fa26_0, fa26_1, fa26_2, len27, fa33_0, fa33_1, len35, fa114_0, fa114_1, fa114_2, fa124_0, fa124_1, len134, len154, fa156_0, fa156_1, fa156_2, fa156_3, fa156_4, fa156_5, fa156_6, len271, fa274_0, fa274_1, fa274_2]
    refine zyb_ H 2 rfl sz24 rfl rfl rfl fun w8 H => ?_
    simp only [List.set_cons_zero, List.set_cons_succ, List.take_succ_cons, List.take_zero, List.drop_succ_cons, List.drop_zero, List.nil_append, List.cons_append, Value.cells] at H
    exact hK _ _ ⟨rfl, rfl, ⟨nn, tt, (r :: rs) ++ [r]⟩, ft, X', c', ⟨hd.nons, hd.toks, by simp, by have := hd.few; simp only [List.length_append, List.length_cons, List.length_nil] at this ⊢; omega⟩, zte_ (m := N + 600) H (by omega)⟩
  simp only [show ¬ ((t : Int) = 2) from by omega, decide_false, zq18, zq19, zq20, zq21, zq22, zq23, zq24, zq25, zq26, zq27, zq28, zq4, zq3, zq1, zq2, zq0, zq29, zq30, zq14, zq15, zq16, zq17, zq13, zq10, zq12, zq11, zq7, zq5, zq6, zq9, zq8, zq31, zq32, ite_T, ite_F, zq33, zq34, zq35, Nat.reduceEqDiff, len22, len24, fa26_0, fa26_1, fa26_2, len27, fa33_0, fa33_1, len35, fa114_0, fa114_1, fa114_2, fa124_0, fa124_1, len134, len154, fa156_0, fa156_1, fa156_2, fa156_3, fa156_4, fa156_5, fa156_6, len271, fa274_0, fa274_1, fa274_2]
  by_cases h3 : t = 3
  · subst h3
    simp only [show (((3 : Nat) : Int) = 3) from rfl, decide_true, zq18, zq19, zq20, zq21, zq22, zq23, zq24, zq25, zq26, zq27, zq28, zq4, zq3, zq1, zq2, zq0, zq29, zq30, zq14, zq15, zq16, zq17, zq13, zq10, zq12, zq11, zq7, zq5, zq6, zq9, zq8, zq31, zq32, ite_T, ite_F, zq33, zq34, zq35, Nat.reduceEqDiff, len22, len24, fa26_0, fa26_1, fa26_2, len27, fa33_0, fa33_1, len35, fa114_0, fa114_1, fa114_2, fa124_0, fa124_1, len134, len154, fa156_0, fa156_1, fa156_2, fa156_3, fa156_4, fa156_5, fa156_6, len271, fa274_0, fa274_1, fa274_2]
    have H := H.drew
    refine ⟨fun w' => Box w' b5 [.int .i64 nn, .int .i64 tt, .slice X (r :: rs).length c] 26, H.box 2 rfl, ?_⟩
    refine rdi (ldS24 (a := ⟨b5, 0 + 2, none⟩) fun w' hw' => (hw'.cell (0 + 2)).trans rfl) ?_
    refine zfc_ H 0 rfl hC (by omega) (by omega) fun w6 y _ hy H => ?_
    simp only [List.set_cons_zero, zq18, zq19, zq20, zq21, zq22, zq23, zq24, zq25, zq26, zq27, zq28, zq4, zq3, zq1, zq2, zq0, zq29, zq30, zq14, zq15, zq16, zq17, zq13, zq10, zq12, zq11, zq7, zq5, zq6, zq9, zq8, zq31, zq32, ite_T, ite_F, zq33, zq34, zq35, Nat.reduceEqDiff, len22, len24, fa26_0, fa26_1, fa26_2, len27, fa33_0, fa33_1, len35, fa114_0, fa114_1, fa114_2, fa124_0, fa124_1, len134, len154, fa156_0, fa156_1, fa156_2, fa156_3, fa156_4, fa156_5, fa156_6, len271, fa274_0, fa274_1, fa274_2] at H ⊢
    refine ⟨H.box 2 rfl, ?_⟩
    obtain ⟨cells, hrow, hrc⟩ := H.gow 1 rfl
    refine rdi (ix24_0 (fun _ => hrow.ptr (by simp)) (by simp)) ?_
    simp only [zq18, zq19, zq20, zq21, zq22, zq23, zq24, zq25, zq26, zq27, zq28, zq4, zq3, zq1, zq2, zq0, zq29, zq30, zq14, zq15, zq16, zq17, zq13, zq10, zq12, zq11, zq7, zq5, zq6, zq9, zq8, zq31, zq32, ite_T, ite_F, zq33, zq34, zq35, Nat.reduceEqDiff, len22, len24, fa26_0, fa26_1, fa26_2, len27, fa33_0, fa33_1, len35, fa114_0, fa114_1, fa114_2, fa124_0, fa124_1, len134, len154, fa156_0, fa156_1, fa156_2, fa156_3, fa156_4, fa156_5, fa156_6, len271, fa274_0, fa274_1, fa274_2]
    generalize IntKind.i64.wrap ((y : Int) - 1) = v
    refine leftH H 1 rfl fun w8 H => ?_
    simp only [List.set_cons_zero, List.set_cons_succ] at H
    exact hK _ _ ⟨rfl, rfl, ⟨nn, tt, (v, r.2) :: rs⟩, ft, X, c, ⟨hd.nons, hd.toks, by simp, by have := hd.few; simp only [List.length_cons] at this ⊢; omega⟩, zte_ (m := N + 600) H (by omega)⟩
  simp only [show ¬ ((t : Int) = 3) from by omega, decide_false, zq18, zq19, zq20, zq21, zq22, zq23, zq24, zq25, zq26, zq27, zq28, zq4, zq3, zq1, zq2, zq0, zq29, zq30, zq14, zq15, zq16, zq17, zq13, zq10, zq12, zq11, zq7, zq5, zq6, zq9, zq8, zq31, zq32, ite_T, ite_F, zq33, zq34, zq35, Nat.reduceEqDiff, len22, len24, fa26_0, fa26_1, fa26_2, len27, fa33_0, fa33_1, len35, fa114_0, fa114_1, fa114_2, fa124_0, fa124_1, len134, len154, fa156_0, fa156_1, fa156_2, fa156_3, fa156_4, fa156_5, fa156_6, len271, fa274_0, fa274_1, fa274_2]
  exact hK _ _ ⟨rfl, rfl, ⟨nn, tt, r :: rs⟩, ft, X, c, ⟨hd.nons, hd.toks, hd.some, by have := hd.few; simp only [List.length_cons] at this ⊢; omega⟩, zte_ (m := N + 600) H (by omega)⟩
set_option maxHeartbeats 1600000 in
theorem word_c (H : Apt w0 w (cur bc (.slice C bs.length cap) N :: E)) (hC : Byts w0 C bs) (hN : N ≤ 10000000) {nons toks : Int} {g : Value} {most : Int} (hm : 0 ≤ most ∧ most ≤ 10) (ht : 0 ≤ toks ∧ toks ≤ 1000) (hk : ∀ w' Z d ws, ws.length ≤ 10 → Apt w0 w' (cur bc (.slice C bs.length cap) (N + 100) :: ows Z d ws :: E) → k (.slice Z ws.length d) w') :
    CallK Try.prog 218 [ptrv bc, .agg #[.int .i64 nons, .int .i64 toks, g], .int .i64 most] k w := by
  refine enter218 ?_
  unfold S218
  refine boxH H fun b1 w1 H => ?_
  have H := H.insert 1
  simp only [List.take_succ_cons, List.take_zero, List.drop_succ_cons, List.drop_zero, List.nil_append, List.cons_append] at H
  simp only [zq18, zq19, zq20, zq21, zq22, zq23, zq24, zq25, zq26, zq27, zq28, zq4, zq3, zq1, zq2, zq0, zq29, zq30, zq14, zq15, zq16, zq17, zq13, zq10, zq12, zq11, zq7, zq5, zq6, zq9, zq8, zq31, zq32, ite_T, ite_F, zq33, zq34, zq35, Nat.reduceEqDiff, len22, len24, fa26_0, fa26_1, fa26_2, len27, fa33_0, fa33_1, len35, fa114_0, fa114_1, fa114_2, fa124_0, fa124_1, len134, len154, fa156_0, fa156_1, fa156_2, fa156_3, fa156_4, fa156_5, fa156_6, len271, fa274_0, fa274_1, fa274_2]
  rw [zj_ (by omega) (by omega)]
  refine zfc_ H 0 rfl hC (by omega) (by omega) fun w2 n0 h1 h2 H => ?_
  simp only [List.set_cons_zero] at H
  have hn0 : n0 ≤ 10 := by
    by_cases h : most + 1 ≤ 1
    · have := h1 h; omega
    · have := h2 (by omega); omega
  have H := (H.addOwn (Gr.refl _) (show Own 3 w2 w2.heap.size none 0 [] from Row.nil _ _ _ _)).insert 1
  simp only [List.take_succ_cons, List.take_zero, List.drop_succ_cons, List.drop_zero, List.nil_append, List.cons_append] at H
  refine zbf_ (fun o f w' => o ≤ n0 ∧ f 8 = .int .i64 (o : Int) ∧ ∃ N2 Z d, ∃ xs : List Int, f 7 = .slice Z xs.length d ∧ N2 ≤ N + 2 + (n0 - o) * 2 ∧ xs.length ≤ n0 - o ∧ Apt w0 w' (cur bc (.slice C bs.length cap) N2 :: ows Z d xs :: bx b1 (Value.agg #[.int .i64 nons, .int .i64 toks, g]).cells.toList 26 :: E)) (fun o => o) n0
    ⟨Nat.le_refl _, rfl, _, none, 0, [], rfl, by omega, by simp, H⟩ ?_
  clear H
  rintro o f w3 NN hag ⟨ho, f8, N2, Z, d, xs, f7, hN2, hxs, H⟩ hN'
  have f0 : f 0 = ptrv bc := hag 0 (by decide)
  have f4 : f 4 = ptrv b1 := hag 4 (by decide)
  simp only [f0, f4, f7, f8, zq18, zq19, zq20, zq21, zq22, zq23, zq24, zq25, zq26, zq27, zq28, zq4, zq3, zq1, zq2, zq0, zq29, zq30, zq14, zq15, zq16, zq17, zq13, zq10, zq12, zq11, zq7, zq5, zq6, zq9, zq8, zq31, zq32, ite_T, ite_F, zq33, zq34, zq35, Nat.reduceEqDiff, len22, len24, fa26_0, fa26_1, fa26_2, len27, fa33_0, fa33_1, len35, fa114_0, fa114_1, fa114_2, fa124_0, fa124_1, len134, len154, fa156_0, fa156_1, fa156_2, fa156_3, fa156_4, fa156_5, fa156_6, len271, fa274_0, fa274_1, fa274_2]
  by_cases ho0 : 0 < o
  case neg =>
    simp only [show ¬ ((0 : Int) < (o : Int)) from by omega, decide_false, zq18, zq19, zq20, zq21, zq22, zq23, zq24, zq25, zq26, zq27, zq28, zq4, zq3, zq1, zq2, zq0, zq29, zq30, zq14, zq15, zq16, zq17, zq13, zq10, zq12, zq11, zq7, zq5, zq6, zq9, zq8, zq31, zq32, ite_T, ite_F, zq33, zq34, zq35, Nat.reduceEqDiff, len22, len24, fa26_0, fa26_1, fa26_2, len27, fa33_0, fa33_1, len35, fa114_0, fa114_1, fa114_2, fa124_0, fa124_1, len134, len154, fa156_0, fa156_1, fa156_2, fa156_3, fa156_4, fa156_5, fa156_6, len271, fa274_0, fa274_1, fa274_2]
    have fin : ∀ w' N2 Z d ws, N2 ≤ N + 100 → List.length ws ≤ 10 → Apt w0 w' (cur bc (.slice C bs.length cap) N2 :: ows Z d ws :: bx b1 (Value.agg #[.int .i64 nons, .int .i64 toks, g]).cells.toList 26 :: E) → k (.slice Z ws.length d) w' := fun w' N2 Z d ws hn hl H => by
      have H := H.erase 2
      simp only [List.eraseIdx_cons_zero, List.eraseIdx_cons_succ] at H
      exact hk w' Z d ws hl (zte_ H hn)
    refine zmd_ (fun f w' => ∃ N2 Z d, ∃ ws : List Int, f 7 = .slice Z ws.length d ∧ N2 ≤ N + 100 ∧ ws.length ≤ 10 ∧ Apt w0 w' (cur bc (.slice C bs.length cap) N2 :: ows Z d ws :: bx b1 (Value.agg #[.int .i64 nons, .int .i64 toks, g]).cells.toList 26 :: E)) (fun K hK => ?_) ?_
    case refine_2 =>
      rintro f w' ⟨N2, Z, d, ws, f7, h1, h2, H⟩
      rw [f7]
      exact fin w' N2 Z d ws h1 h2 H
    by_cases hx0 : xs.length = 0
    · simp only [show ¬ ((0 : Int) < (xs.length : Int)) from by omega, decide_false, zq18, zq19, zq20, zq21, zq22, zq23, zq24, zq25, zq26, zq27, zq28, zq4, zq3, zq1, zq2, zq0, zq29, zq30, zq14, zq15, zq16, zq17, zq13, zq10, zq12, zq11, zq7, zq5, zq6, zq9, zq8, zq31, zq32, ite_T, ite_F, zq33, zq34, zq35, Nat.reduceEqDiff, len22, len24, fa26_0, fa26_1, fa26_2, len27, fa33_0, fa33_1, len35, fa114_0, fa114_1, fa114_2, fa124_0, fa124_1, len134, len154, fa156_0, fa156_1, fa156_2, fa156_3, fa156_4, fa156_5, fa156_6, len271, fa274_0, fa274_1, fa274_2]
      exact hK _ _ ⟨N2, Z, d, xs, f7, by omega, by omega, H⟩
    simp only [show ((0 : Int) < (xs.length : Int)) from by omega, decide_true, zq18, zq19, zq20, zq21, zq22, zq23, zq24, zq25, zq26, zq27, zq28, zq4, zq3, zq1, zq2, zq0, zq29, zq30, zq14, zq15, zq16, zq17, zq13, zq10, zq12, zq11, zq7, zq5, zq6, zq9, zq8, zq31, zq32, ite_T, ite_F, zq33, zq34, zq35, Nat.reduceEqDiff, len22, len24, fa26_0, fa26_1, fa26_2, len27, fa33_0, fa33_1, len35, fa114_0, fa114_1, fa114_2, fa124_0, fa124_1, len134, len154, fa156_0, fa156_1, fa156_2, fa156_3, fa156_4, fa156_5, fa156_6, len271, fa274_0, fa274_1, fa274_2]
    refine one_c H 0 rfl hC (by omega) (by omega) fun w4 b H => ?_
    simp only [List.set_cons_zero] at H
    cases b
    · simp only [zq18, zq19, zq20, zq21, zq22, zq23, zq24, zq25, zq26, zq27, zq28, zq4, zq3, zq1, zq2, zq0, zq29, zq30, zq14, zq15, zq16, zq17, zq13, zq10, zq12, zq11, zq7, zq5, zq6, zq9, zq8, zq31, zq32, ite_T, ite_F, zq33, zq34, zq35, Nat.reduceEqDiff, len22, len24, fa26_0, fa26_1, fa26_2, len27, fa33_0, fa33_1, len35, fa114_0, fa114_1, fa114_2, fa124_0, fa124_1, len134, len154, fa156_0, fa156_1, fa156_2, fa156_3, fa156_4, fa156_5, fa156_6, len271, fa274_0, fa274_1, fa274_2]
      exact hK _ _ ⟨_, Z, d, xs, f7, by omega, by omega, H⟩
    simp only [zq18, zq19, zq20, zq21, zq22, zq23, zq24, zq25, zq26, zq27, zq28, zq4, zq3, zq1, zq2, zq0, zq29, zq30, zq14, zq15, zq16, zq17, zq13, zq10, zq12, zq11, zq7, zq5, zq6, zq9, zq8, zq31, zq32, ite_T, ite_F, zq33, zq34, zq35, Nat.reduceEqDiff, len22, len24, fa26_0, fa26_1, fa26_2, len27, fa33_0, fa33_1, len35, fa114_0, fa114_1, fa114_2, fa124_0, fa124_1, len134, len154, fa156_0, fa156_1, fa156_2, fa156_3, fa156_4, fa156_5, fa156_6, len271, fa274_0, fa274_1, fa274_2]
    refine zjd_ H u27 inf3 (ints [-1, 4]) (by decide) (by decide) (by simp [Instr.fill, madeCells, Value.cells, rng2, ints]) rfl fun b7 w6 H => ?_
    have H := H.insert 1
    simp only [List.take_succ_cons, List.take_zero, List.drop_succ_cons, List.drop_zero, List.nil_append, List.cons_append] at H
    refine among_c (xs := [-1, 4]) H 0 rfl hC (by omega) (fun w' H => Apt.ints H 1 (xs := [-1, 4]) rfl) rfl (by simp) (by simp) fun w7 j hj H => ?_
    have H := H.erase 1
    simp only [List.set_cons_zero, List.eraseIdx_cons_zero, List.eraseIdx_cons_succ] at H
    have hrow := H.own 1 rfl
    refine rdi (zvd_ (fun _ => hrow.ptr (by omega)) (by omega)) ?_
    generalize ([-1, 4] : List Int).getD j 0 = y
    refine zme_ sz3 rfl rfl hrow (by omega) fun w8 hg hs hr => ?_
    have hl : (xs.set 0 y).length = xs.length := List.length_set
    have hr2 : Own 3 w8 w0.heap.size Z d (xs.set 0 y) := by
      show Row w8 w0.heap.size 3 1 Z (xs.set 0 y).length d (ints (xs.set 0 y))
      rw [hl, show ints (xs.set 0 y) = (ints xs).set 0 (.int .i64 y) from by simp [ints]]
      exact hr
    have H := H.set (i := 1) rfl (it' := ows Z d (xs.set 0 y)) (gx_of hg fun q hq => hq) (fun q hq => .inl hq) (fun q hq => (Row.ge hr2 hq).2) (zdk_ hr2)
    simp only [List.set_cons_zero, List.set_cons_succ] at H
    exact hK _ _ ⟨_, Z, d, xs.set 0 y, by rw [hl]; exact f7, by omega, by omega, H⟩
  simp only [show ((0 : Int) < (o : Int)) from by omega, decide_true, zq18, zq19, zq20, zq21, zq22, zq23, zq24, zq25, zq26, zq27, zq28, zq4, zq3, zq1, zq2, zq0, zq29, zq30, zq14, zq15, zq16, zq17, zq13, zq10, zq12, zq11, zq7, zq5, zq6, zq9, zq8, zq31, zq32, ite_T, ite_F, zq33, zq34, zq35, Nat.reduceEqDiff, len22, len24, fa26_0, fa26_1, fa26_2, len27, fa33_0, fa33_1, len35, fa114_0, fa114_1, fa114_2, fa124_0, fa124_1, len134, len154, fa156_0, fa156_1, fa156_2, fa156_3, fa156_4, fa156_5, fa156_6, len271, fa274_0, fa274_1, fa274_2]
  rw [ldB3 (H.box 2 rfl) rfl]
  refine l1Most_c ?_
  refine zfc_ H 0 rfl hC (by omega) (by split <;> omega) fun w4 y _ _ H => ?_
  simp only [List.set_cons_zero] at H
  refine pushH H 1 rfl rfl (by omega) fun t1 Z2 d2 w5 H => ?_
  simp only [List.set_cons_zero, List.set_cons_succ, zq18, zq19, zq20, zq21, zq22, zq23, zq24, zq25, zq26, zq27, zq28, zq4, zq3, zq1, zq2, zq0, zq29, zq30, zq14, zq15, zq16, zq17, zq13, zq10, zq12, zq11, zq7, zq5, zq6, zq9, zq8, zq31, zq32, ite_T, ite_F, zq33, zq34, zq35, Nat.reduceEqDiff, len22, len24, fa26_0, fa26_1, fa26_2, len27, fa33_0, fa33_1, len35, fa114_0, fa114_1, fa114_2, fa124_0, fa124_1, len134, len154, fa156_0, fa156_1, fa156_2, fa156_3, fa156_4, fa156_5, fa156_6, len271, fa274_0, fa274_1, fa274_2] at H ⊢
  rw [zj_ (by omega) (by omega), show (o : Int) - 1 = ((o - 1 : Nat) : Int) from by omega]
  exact hN' (o - 1) _ _ ⟨by omega, rfl, _, Z2, d2, xs ++ [(y : Int)], rfl, by omega, by rw [List.length_append, List.length_singleton]; omega, H⟩ (by omega)
set_option maxHeartbeats 1600000 in
theorem wordIn_c (H : Apt w0 w (cur bc (.slice C bs.length cap) N :: E)) (hC : Byts w0 C bs) (hN : N ≤ 1000000) {gm : Gram} {Y : Option Addr} {cy : Nat} (hc : gm.rules.length ≤ cy) (hy : RulesF (fun _ => True) w Y gm.rules) (ht : 0 ≤ gm.toks ∧ gm.toks ≤ 1000) (hk : ∀ w' Z d ws, ws.length ≤ 20 → Apt w0 w' (cur bc (.slice C bs.length cap) (N + 200) :: ows Z d ws :: E) → k (.slice Z ws.length d) w') :
    CallK Try.prog 147 [ptrv bc, .agg #[.int .i64 gm.nons, .int .i64 gm.toks, .slice Y gm.rules.length cy]] k w := by
  refine enter147 ?_
  unfold S147
  refine zpd_ fun b1 w1 g1 hb1 hB1 => ?_
  have H := (H.addBox g1 hb1 hB1).insert 1
  simp only [List.take_succ_cons, List.take_zero, List.drop_succ_cons, List.drop_zero, List.nil_append, List.cons_append] at H
  rw [zv_ zdb_ sz26 rfl (H.box 1 rfl)]
  refine zyp_ (gm := gm) (most := 3) ⟨Y, cy, rfl, hc, hy.gr g1⟩ fun w2 U d ps g2 o2 => ?_
  have H := (H.addLss g2 o2).insert 1
  simp only [List.take_succ_cons, List.take_zero, List.drop_succ_cons, List.drop_zero, List.nil_append, List.cons_append] at H
  have hsv : ∀ x ∈ (shortV gm 3).1, x.length ≤ 4 := fun x hx => by
    unfold shortV at hx
    split at hx
    · have := (shortW_mem hx).1
      simp at this
      omega
    · simp at hx
  have hsl : (shortV gm 3).1.length ≤ 10000 := by
    unfold shortV
    split
    · rename_i hh
      simp only [Bool.and_eq_true] at hh
      have := zdt_ (gm := gm) (n := (3 : Int).toNat + 1) (by have := (zie_ hh.1).2; omega) (by decide)
      simp at this ⊢
      omega
    · simp
  generalize hSW : (shortV gm 3).1 = SW at *
  generalize (shortV gm 3).2 = okb at *
  have sec : ∀ {w' : World} {N' : Nat}, N' ≤ N + 100 → Apt w0 w' (cur bc (.slice C bs.length cap) N' :: lss U d SW ps :: bx b1 (Value.agg #[.int .i64 gm.nons, .int .i64 gm.toks, .slice Y gm.rules.length cy]).cells.toList 26 :: E) → Rd Try.prog (WS.at w') (zc_ 26 (ptrv b1)) fun t34 => CallK Try.prog 218 [ptrv bc, t34, .int .i64 5] (fun t35 w36 => k t35 w36) w' := fun {w' N'} hn H => by
    rw [zv_ zdb_ sz26 rfl (H.box 2 rfl)]
    have H := (H.erase 2).erase 1
    simp only [List.eraseIdx_cons_zero, List.eraseIdx_cons_succ] at H
    refine word_c H hC (by omega) (by omega) ht fun w3 Z d ws hl H => ?_
    exact hk w3 Z d ws (by omega) (zte_ H (by omega))
  simp only [zq18, zq19, zq20, zq21, zq22, zq23, zq24, zq25, zq26, zq27, zq28, zq4, zq3, zq1, zq2, zq0, zq29, zq30, zq14, zq15, zq16, zq17, zq13, zq10, zq12, zq11, zq7, zq5, zq6, zq9, zq8, zq31, zq32, ite_T, ite_F, zq33, zq34, zq35, Nat.reduceEqDiff, len22, len24, fa26_0, fa26_1, fa26_2, len27, fa33_0, fa33_1, len35, fa114_0, fa114_1, fa114_2, fa124_0, fa124_1, len134, len154, fa156_0, fa156_1, fa156_2, fa156_3, fa156_4, fa156_5, fa156_6, len271, fa274_0, fa274_1, fa274_2]
  cases okb
  · simp only [zq18, zq19, zq20, zq21, zq22, zq23, zq24, zq25, zq26, zq27, zq28, zq4, zq3, zq1, zq2, zq0, zq29, zq30, zq14, zq15, zq16, zq17, zq13, zq10, zq12, zq11, zq7, zq5, zq6, zq9, zq8, zq31, zq32, ite_T, ite_F, zq33, zq34, zq35, Nat.reduceEqDiff, len22, len24, fa26_0, fa26_1, fa26_2, len27, fa33_0, fa33_1, len35, fa114_0, fa114_1, fa114_2, fa124_0, fa124_1, len134, len154, fa156_0, fa156_1, fa156_2, fa156_3, fa156_4, fa156_5, fa156_6, len271, fa274_0, fa274_1, fa274_2]
    exact sec (by omega) H
  simp only [zq18, zq19, zq20, zq21, zq22, zq23, zq24, zq25, zq26, zq27, zq28, zq4, zq3, zq1, zq2, zq0, zq29, zq30, zq14, zq15, zq16, zq17, zq13, zq10, zq12, zq11, zq7, zq5, zq6, zq9, zq8, zq31, zq32, ite_T, ite_F, zq33, zq34, zq35, Nat.reduceEqDiff, len22, len24, fa26_0, fa26_1, fa26_2, len27, fa33_0, fa33_1, len35, fa114_0, fa114_1, fa114_2, fa124_0, fa124_1, len134, len154, fa156_0, fa156_1, fa156_2, fa156_3, fa156_4, fa156_5, fa156_6, len271, fa274_0, fa274_1, fa274_2]
  by_cases hl0 : SW.length = 0
  · simp only [show ¬ ((0 : Int) < (SW.length : Int)) from by omega, decide_false, zq18, zq19, zq20, zq21, zq22, zq23, zq24, zq25, zq26, zq27, zq28, zq4, zq3, zq1, zq2, zq0, zq29, zq30, zq14, zq15, zq16, zq17, zq13, zq10, zq12, zq11, zq7, zq5, zq6, zq9, zq8, zq31, zq32, ite_T, ite_F, zq33, zq34, zq35, Nat.reduceEqDiff, len22, len24, fa26_0, fa26_1, fa26_2, len27, fa33_0, fa33_1, len35, fa114_0, fa114_1, fa114_2, fa124_0, fa124_1, len134, len154, fa156_0, fa156_1, fa156_2, fa156_3, fa156_4, fa156_5, fa156_6, len271, fa274_0, fa274_1, fa274_2]
    exact sec (by omega) H
  simp only [show ((0 : Int) < (SW.length : Int)) from by omega, decide_true, zq18, zq19, zq20, zq21, zq22, zq23, zq24, zq25, zq26, zq27, zq28, zq4, zq3, zq1, zq2, zq0, zq29, zq30, zq14, zq15, zq16, zq17, zq13, zq10, zq12, zq11, zq7, zq5, zq6, zq9, zq8, zq31, zq32, ite_T, ite_F, zq33, zq34, zq35, Nat.reduceEqDiff, len22, len24, fa26_0, fa26_1, fa26_2, len27, fa33_0, fa33_1, len35, fa114_0, fa114_1, fa114_2, fa124_0, fa124_1, len134, len154, fa156_0, fa156_1, fa156_2, fa156_3, fa156_4, fa156_5, fa156_6, len271, fa274_0, fa274_1, fa274_2]
  refine one_c H 0 rfl hC (by omega) (by omega) fun w4 b H => ?_
  simp only [List.set_cons_zero] at H
  cases b
  · simp only [zq18, zq19, zq20, zq21, zq22, zq23, zq24, zq25, zq26, zq27, zq28, zq4, zq3, zq1, zq2, zq0, zq29, zq30, zq14, zq15, zq16, zq17, zq13, zq10, zq12, zq11, zq7, zq5, zq6, zq9, zq8, zq31, zq32, ite_T, ite_F, zq33, zq34, zq35, Nat.reduceEqDiff, len22, len24, fa26_0, fa26_1, fa26_2, len27, fa33_0, fa33_1, len35, fa114_0, fa114_1, fa114_2, fa124_0, fa124_1, len134, len154, fa156_0, fa156_1, fa156_2, fa156_3, fa156_4, fa156_5, fa156_6, len271, fa274_0, fa274_1, fa274_2]
    exact sec (by omega) H
  simp only [zq18, zq19, zq20, zq21, zq22, zq23, zq24, zq25, zq26, zq27, zq28, zq4, zq3, zq1, zq2, zq0, zq29, zq30, zq14, zq15, zq16, zq17, zq13, zq10, zq12, zq11, zq7, zq5, zq6, zq9, zq8, zq31, zq32, ite_T, ite_F, zq33, zq34, zq35, Nat.reduceEqDiff, len22, len24, fa26_0, fa26_1, fa26_2, len27, fa33_0, fa33_1, len35, fa114_0, fa114_1, fa114_2, fa124_0, fa124_1, len134, len154, fa156_0, fa156_1, fa156_2, fa156_3, fa156_4, fa156_5, fa156_6, len271, fa274_0, fa274_1, fa274_2]
  refine zfc_ H 0 rfl hC (by omega) (by omega) fun w5 j h1 h2 H => ?_
  simp only [List.set_cons_zero] at H
  have hj : j < SW.length := by
    by_cases h : (SW.length : Int) ≤ 1
    · have := h1 h; omega
    · have := h2 (by omega); omega
  have hr := (H.lssi 1 rfl).read
  obtain ⟨Z, cz, t1, t2, t3⟩ := hr.row j hj
  have hx4 := hsv _ (zrf_ hj)
  refine rdi (zce_ hr.ptr hj) (rdi (ld27 t1) ?_)
  refine zbh_ t3 rfl (by omega) fun X1 d1 w6 g6 o6 => ?_
  have H := (H.addOwn g6 o6).insert 1
  simp only [List.take_succ_cons, List.take_zero, List.drop_succ_cons, List.drop_zero, List.nil_append, List.cons_append] at H
  refine zmd_ (fun f w' => ∃ N2 Z d, ∃ ws : List Int, f 7 = .slice Z ws.length d ∧ N2 ≤ N + 200 ∧ ws.length ≤ 20 ∧ Apt w0 w' (cur bc (.slice C bs.length cap) N2 :: ows Z d ws :: E)) (fun K hK => ?_) ?_
  case refine_2 =>
    rintro f w' ⟨N2, Z, d, ws, f7, h1, h2, H⟩
    rw [f7]
    exact hk w' Z d ws h2 (zte_ H h1)
  refine one_c H 0 rfl hC (by omega) (by omega) fun w7 b H => ?_
  simp only [List.set_cons_zero] at H
  have H := (H.erase 3).erase 2
  simp only [List.eraseIdx_cons_zero, List.eraseIdx_cons_succ] at H
  cases b
  · simp only [zq18, zq19, zq20, zq21, zq22, zq23, zq24, zq25, zq26, zq27, zq28, zq4, zq3, zq1, zq2, zq0, zq29, zq30, zq14, zq15, zq16, zq17, zq13, zq10, zq12, zq11, zq7, zq5, zq6, zq9, zq8, zq31, zq32, ite_T, ite_F, zq33, zq34, zq35, Nat.reduceEqDiff, len22, len24, fa26_0, fa26_1, fa26_2, len27, fa33_0, fa33_1, len35, fa114_0, fa114_1, fa114_2, fa124_0, fa124_1, len134, len154, fa156_0, fa156_1, fa156_2, fa156_3, fa156_4, fa156_5, fa156_6, len271, fa274_0, fa274_1, fa274_2]
    exact hK _ _ ⟨_, X1, d1, rgt SW j, rfl, by omega, by omega, H⟩
  simp only [zq18, zq19, zq20, zq21, zq22, zq23, zq24, zq25, zq26, zq27, zq28, zq4, zq3, zq1, zq2, zq0, zq29, zq30, zq14, zq15, zq16, zq17, zq13, zq10, zq12, zq11, zq7, zq5, zq6, zq9, zq8, zq31, zq32, ite_T, ite_F, zq33, zq34, zq35, Nat.reduceEqDiff, len22, len24, fa26_0, fa26_1, fa26_2, len27, fa33_0, fa33_1, len35, fa114_0, fa114_1, fa114_2, fa124_0, fa124_1, len134, len154, fa156_0, fa156_1, fa156_2, fa156_3, fa156_4, fa156_5, fa156_6, len271, fa274_0, fa274_1, fa274_2]
  refine apH H 1 rfl (H.ints 1 rfl) rfl rfl (by omega) fun X2 d2 w8 H => ?_
  simp only [List.set_cons_zero, List.set_cons_succ] at H
  exact hK _ _ ⟨_, X2, d2, rgt SW j ++ rgt SW j, rfl, by omega, by rw [List.length_append]; omega, H⟩
end
open Go Go.Sh

def pl15 : Plans := fun _ => ⟨false, [], .nil⟩
def S15 (v0 v1 : Value) (k : Value → World → Prop) (w : World) : Prop :=
 Rd Try.prog (WS.at w) (ze_ .len #[22] 3 [false] [v0]) fun t1 =>
 Rd Try.prog (WS.at w) (sBin .gtr 3 true t1 (.int .i64 1048576)) fun t2 =>
 za_ t2 false (fun k w' => k v1 w') (fun t3 w4 =>
 za_ t2 false (fun k w' => Rd Try.prog (WS.at w4) (ze_ .len #[22] 3 [false] [t3]) fun v => k v w') (fun t5 w6 =>
 za_ t2 false (fun k w' => k v0 w') (fun t7 w8 =>
 za_ t2 false (fun k w' => Rd Try.prog (WS.at w8) (ze_ .len #[22] 3 [false] [t7]) fun v => k v w') (fun t9 w10 =>
 za_ t2 false (fun k w' => Rd Try.prog (WS.at w10) (sBin .sub 3 true (.int .i64 1048576) t9) fun v => k v w') (fun t11 w12 =>
 za_ t2 false (fun k w' => Rd Try.prog (WS.at w12) (sBin .gtr 3 false t5 t11) fun v => k v w') (fun t13 w14 =>
 Rd Try.prog (WS.at w14) (zw_ t2 (.bool true) t13) fun t15 =>
 k t15 w14) w12) w10) w8) w6) w4) w
theorem body15 : Try.f15.body = some (zg_ Try.f15) := by kernel_rfl
theorem same15 (v0 v1 : Value) (k : Value → World → Prop) (w : World) : wpF Try.prog pl15 (zg_ Try.f15) (zr_ Try.prog Try.f15.results.toList k) (zm_ [v0, v1]) w = S15 v0 v1 k w := by kernel_rfl
theorem enter15 {v0 v1 : Value} {k : Value → World → Prop} {w : World} (h : S15 v0 v1 k w) : CallK Try.prog 15 [v0, v1] k w :=
  call_of_wpF (pl := pl15) zab_ Try.func15 body15 (by kernel_rfl) (of_decide_eq_true (by kernel_rfl)) (by kernel_rfl) (by kernel_rfl) (Eq.mpr (same15 v0 v1 k w) h)

def pl25 : Plans := fun i => match i with
  | 6 => ⟨false, [8], .step 0 .any (.step 1 .any (.step 2 .any (.step 3 .held (.step 4 .any (.step 5 .any (.step 6 .any (.step 7 .held (.step 8 .last (.step 9 .any (.nil))))))))))⟩
  | _ => ⟨false, [], .nil⟩
def S25 (v0 v1 : Value) (k : Value → World → Prop) (w : World) : Prop :=
 Rd Try.prog (WS.at w) (ze_ .len #[35] 3 [false] [v0]) fun t1 =>
 Rd Try.prog (WS.at w) (ze_ .len #[35] 3 [false] [v1]) fun t2 =>
 Rd Try.prog (WS.at w) (sBin .neq 3 false t1 t2) fun t3 =>
 zi_ t3
  (k (.bool false) w)
  (Rd Try.prog (WS.at w) (ze_ .len #[35] 3 [false] [v0]) fun t4 =>
  zfb_ [14, 15, 5, 16, 17, 18, 19, 20, 21, 22, 23, 24, 25, 4, 26, 13] (fun Q5 f6 w7 =>
   Rd Try.prog (WS.at w7) (sBin .lss 3 false (f6 13) (f6 12)) fun t8 =>
   zi_ t8
    (Rd Try.prog WS.any (zd_ 35 (f6 0) (f6 13)) fun t9 =>
    Rd Try.prog (WS.at w7.drew) (zc_ 27 t9) fun t10 =>
    Rd Try.prog WS.any (zd_ 35 (f6 1) (f6 13)) fun t11 =>
    Rd Try.prog (WS.at w7.drew) (zc_ 27 t11) fun t12 =>
    CallK Try.prog 34 [t10, t12] (fun t13 w14 =>
    Rd Try.prog WS.any (sUn .not t13) fun t15 =>
    zi_ t15
     (Q5 .ret (F.upd (F.upd (F.upd (F.upd (F.upd (F.upd (F.upd (F.upd (F.upd (F.upd (F.upd (F.upd (F.upd (F.upd f6 14 t8) 15 (f6 13)) 5 (f6 13)) 16 (f6 0)) 17 (f6 13)) 18 t9) 19 t10) 20 (f6 1)) 21 (f6 13)) 22 t11) 23 t12) 24 t13) 25 t15) 4 (.bool false)) w14)
     (Rd Try.prog (WS.at w14) (sBin .add 3 true (f6 13) (.int .i64 1)) fun t16 =>
     Q5 .normal (F.upd (F.upd (F.upd (F.upd (F.upd (F.upd (F.upd (F.upd (F.upd (F.upd (F.upd (F.upd (F.upd (F.upd (F.upd f6 14 t8) 15 (f6 13)) 5 (f6 13)) 16 (f6 0)) 17 (f6 13)) 18 t9) 19 t10) 20 (f6 1)) 21 (f6 13)) 22 t11) 23 t12) 24 t13) 25 t15) 26 t16) 13 t16) w14)) w7.drew)
    (Q5 (.exit 0) (F.upd f6 14 t8) w7))
   (zt_ 0 (seqQ (fun f17 w18 =>
  k (.bool true) w18) (zr_ Try.prog [.tmp 4] k)))
   (F.upd (F.upd (F.upd (F.upd (F.upd (F.upd (F.upd (F.upd (F.upd (zm_ [v0, v1]) 4 (.bool false)) 6 v0) 7 t1) 8 v1) 9 t2) 10 t3) 11 v0) 12 t4) 13 (.int .i64 0)) w)
theorem body25 : Try.f25.body = some (zg_ Try.f25) := by kernel_rfl
theorem same25 (v0 v1 : Value) (k : Value → World → Prop) (w : World) : wpF Try.prog pl25 (zg_ Try.f25) (zr_ Try.prog Try.f25.results.toList k) (zm_ [v0, v1]) w = S25 v0 v1 k w := by kernel_rfl
theorem enter25 {v0 v1 : Value} {k : Value → World → Prop} {w : World} (h : S25 v0 v1 k w) : CallK Try.prog 25 [v0, v1] k w :=
  call_of_wpF (pl := pl25) zab_ Try.func25 body25 (by kernel_rfl) (of_decide_eq_true (by kernel_rfl)) (by kernel_rfl) (by kernel_rfl) (Eq.mpr (same25 v0 v1 k w) h)

def pl26 : Plans := fun _ => ⟨false, [], .nil⟩
def S26 (v0 v1 : Value) (k : Value → World → Prop) (w : World) : Prop :=
 Do Try.prog (sBox 26 v0) (fun t1 w2 =>
 Rd Try.prog (WS.at w2) (zc_ 26 t1) fun t3 =>
 CallK Try.prog 148 [t3] (fun t4 w5 =>
 Rd Try.prog (WS.at w5) (sUn .not t4) fun t6 =>
 za_ t6 false (fun k w' => Rd Try.prog (WS.at w5) (zb_ 26 t1 1) fun v => k v w') (fun t7 w8 =>
 za_ t6 false (fun k w' => Rd Try.prog (WS.at w8) (zc_ 3 t7) fun v => k v w') (fun t9 w10 =>
 za_ t6 false (fun k w' => k v1 w') (fun t11 w12 =>
 za_ t6 false (fun k w' => CallK Try.prog 150 [t9, t11] k w') (fun t13 w14 =>
 za_ t6 false (fun k w' => Rd Try.prog (WS.at w14) (sUn .not t13) fun v => k v w') (fun t15 w16 =>
 Rd Try.prog (WS.at w16) (zw_ t6 (.bool true) t15) fun t17 =>
 zi_ t17
  (k (.tuple #[(.bool false), (.bool false)]) w16)
  (Rd Try.prog (WS.at w16) (zc_ 26 t1) fun t18 =>
  CallK Try.prog 151 [t18, v1] (fun t19 w20 =>
  Rd Try.prog (WS.at w20) (ze_ .len #[27] 3 [false] [v1]) fun t21 =>
  Rd Try.prog (WS.at w20) (zu_ t19) fun t22 =>
  Rd Try.prog (WS.at w20) (zb_ 124 t22 1) fun t23 =>
  Rd Try.prog (WS.at w20) (zd_ 122 t23 (.int .i64 0)) fun t24 =>
  Rd Try.prog (WS.at w20) (zd_ 121 t24 (.int .i64 0)) fun t25 =>
  Rd Try.prog (WS.at w20) (zd_ 120 t25 t21) fun t26 =>
  Rd Try.prog (WS.at w20) (zc_ 4 t26) fun t27 =>
  k (.tuple #[t27, (.bool true)]) w20) w16)) w14) w12) w10) w8) w5) w2) w
theorem body26 : Try.f26.body = some (zg_ Try.f26) := by kernel_rfl
theorem same26 (v0 v1 : Value) (k : Value → World → Prop) (w : World) : wpF Try.prog pl26 (zg_ Try.f26) (zr_ Try.prog Try.f26.results.toList k) (zm_ [v0, v1]) w = S26 v0 v1 k w := by kernel_rfl
theorem enter26 {v0 v1 : Value} {k : Value → World → Prop} {w : World} (h : S26 v0 v1 k w) : CallK Try.prog 26 [v0, v1] k w :=
  call_of_wpF (pl := pl26) zab_ Try.func26 body26 (by kernel_rfl) (of_decide_eq_true (by kernel_rfl)) (by kernel_rfl) (by kernel_rfl) (Eq.mpr (same26 v0 v1 k w) h)

def pl34 : Plans := fun i => match i with
  | 6 => ⟨false, [], .step 0 .any (.step 1 .any (.step 2 .any (.step 3 .held (.step 4 .any (.step 5 .any (.step 6 .any (.step 7 .held (.step 8 .any (.nil)))))))))⟩
  | _ => ⟨false, [], .nil⟩
def S34 (v0 v1 : Value) (k : Value → World → Prop) (w : World) : Prop :=
 Rd Try.prog (WS.at w) (ze_ .len #[27] 3 [false] [v0]) fun t1 =>
 Rd Try.prog (WS.at w) (ze_ .len #[27] 3 [false] [v1]) fun t2 =>
 Rd Try.prog (WS.at w) (sBin .neq 3 false t1 t2) fun t3 =>
 zi_ t3
  (k (.bool false) w)
  (Rd Try.prog (WS.at w) (ze_ .len #[27] 3 [false] [v0]) fun t4 =>
  zfb_ [14, 15, 5, 16, 17, 18, 19, 20, 21, 22, 23, 24, 4, 25, 13] (fun Q5 f6 w7 =>
   Rd Try.prog (WS.at w7) (sBin .lss 3 false (f6 13) (f6 12)) fun t8 =>
   zi_ t8
    (Rd Try.prog WS.any (zd_ 27 (f6 0) (f6 13)) fun t9 =>
    Rd Try.prog (WS.at w7.drew) (zc_ 3 t9) fun t10 =>
    Rd Try.prog WS.any (zd_ 27 (f6 1) (f6 13)) fun t11 =>
    Rd Try.prog (WS.at w7.drew) (zc_ 3 t11) fun t12 =>
    Rd Try.prog WS.any (sBin .neq 3 false t10 t12) fun t13 =>
    zi_ t13
     (Q5 .ret (F.upd (F.upd (F.upd (F.upd (F.upd (F.upd (F.upd (F.upd (F.upd (F.upd (F.upd (F.upd (F.upd f6 14 t8) 15 (f6 13)) 5 (f6 13)) 16 (f6 0)) 17 (f6 13)) 18 t9) 19 t10) 20 (f6 1)) 21 (f6 13)) 22 t11) 23 t12) 24 t13) 4 (.bool false)) w7.drew)
     (Rd Try.prog (WS.at w7.drew) (sBin .add 3 true (f6 13) (.int .i64 1)) fun t14 =>
     Q5 .normal (F.upd (F.upd (F.upd (F.upd (F.upd (F.upd (F.upd (F.upd (F.upd (F.upd (F.upd (F.upd (F.upd (F.upd f6 14 t8) 15 (f6 13)) 5 (f6 13)) 16 (f6 0)) 17 (f6 13)) 18 t9) 19 t10) 20 (f6 1)) 21 (f6 13)) 22 t11) 23 t12) 24 t13) 25 t14) 13 t14) w7.drew))
    (Q5 (.exit 0) (F.upd f6 14 t8) w7))
   (zt_ 0 (seqQ (fun f15 w16 =>
  k (.bool true) w16) (zr_ Try.prog [.tmp 4] k)))
   (F.upd (F.upd (F.upd (F.upd (F.upd (F.upd (F.upd (F.upd (F.upd (zm_ [v0, v1]) 4 (.bool false)) 6 v0) 7 t1) 8 v1) 9 t2) 10 t3) 11 v0) 12 t4) 13 (.int .i64 0)) w)
theorem body34 : Try.f34.body = some (zg_ Try.f34) := by kernel_rfl
theorem same34 (v0 v1 : Value) (k : Value → World → Prop) (w : World) : wpF Try.prog pl34 (zg_ Try.f34) (zr_ Try.prog Try.f34.results.toList k) (zm_ [v0, v1]) w = S34 v0 v1 k w := by kernel_rfl
theorem enter34 {v0 v1 : Value} {k : Value → World → Prop} {w : World} (h : S34 v0 v1 k w) : CallK Try.prog 34 [v0, v1] k w :=
  call_of_wpF (pl := pl34) zab_ Try.func34 body34 (by kernel_rfl) (of_decide_eq_true (by kernel_rfl)) (by kernel_rfl) (by kernel_rfl) (Eq.mpr (same34 v0 v1 k w) h)


end Go.Proofs.Ytegcjkhebecgbaa

namespace Go.Sh
open Go
def Kn (w : World) (L : List (World → Prop)) : Prop := ∀ (i : Nat) (P : World → Prop), L[i]? = some P → ∀ w', Gr w w' → P w'
section
variable {w w' : World} {L : List (World → Prop)} {P : World → Prop}
theorem Kn.step (H : Kn w L) (g : Gr w w') : Kn w' L := fun i P hi w'' g' => H i P hi w'' (zf_ g g')
theorem Kn.drew (H : Kn w L) : Kn w.drew L := H.step (zcb_ w)
theorem Kn.get (H : Kn w L) (i : Nat) (hi : L[i]? = some P) : P w := H i P hi w (Gr.refl w)
theorem Kn.nil (w : World) : Kn w [fun w' => Gr w w'] := fun i P hi w' g => by
  match i, hi with
  | 0, hi => obtain rfl := Option.some.inj hi; exact g
  | i + 1, hi => simp at hi
theorem Kn.add (H : Kn w L) (h : ∀ w', Gr w w' → P w') : Kn w (L ++ [P]) := fun i Q hi w' g => by
  rw [List.getElem?_append] at hi
  split at hi
  · exact H i Q hi w' g
  · rename_i hn
    match hk : i - L.length, hi with
    | 0, hi => simp at hi; subst hi; exact h w' g
    | k + 1, hi => simp at hi
end
abbrev kI (X : Option Addr) (xs : List Int) (c : Nat) : World → Prop := fun w => Ints w X xs ∧ xs.length ≤ c
abbrev kG (Y : Option Addr) (cy : Nat) (rs : List RuleL) : World → Prop := fun w => rs.length ≤ cy ∧ RulesF (fun _ => True) w Y rs
abbrev kS (X : Option Addr) (ls : List (List Int)) : World → Prop := fun w => Intss w X ls
abbrev kB (b : Nat) (cs : List Value) (t : TypeId) : World → Prop := fun w => Box w b cs t
section
variable {w w' : World} {L : List (World → Prop)}
theorem Kn.addI (H : Kn w L) {X : Option Addr} {xs : List Int} {c : Nat} (h : Ints w X xs) (hc : xs.length ≤ c) : Kn w (L ++ [kI X xs c]) := H.add fun w' g => ⟨h.gr g, hc⟩
theorem Kn.addG (H : Kn w L) {Y : Option Addr} {cy : Nat} {rs : List RuleL} (hc : rs.length ≤ cy) (h : RulesF (fun _ => True) w Y rs) : Kn w (L ++ [kG Y cy rs]) := H.add fun w' g => ⟨hc, h.gr g⟩
theorem Kn.addS (H : Kn w L) {X : Option Addr} {ls : List (List Int)} (h : Intss w X ls) : Kn w (L ++ [kS X ls]) := H.add fun w' g => h.gr g
theorem Kn.addB (H : Kn w L) {b : Nat} {cs : List Value} {t : TypeId} (h : Box w b cs t) : Kn w (L ++ [kB b cs t]) := H.add fun w' g => h.gr g
theorem gvK {Y : Option Addr} {cy : Nat} {gm : Gram} (h : kG Y cy gm.rules w) : GramV (fun _ => True) w (.agg #[.int .i64 gm.nons, .int .i64 gm.toks, .slice Y gm.rules.length cy]) gm := ⟨Y, cy, rfl, h.1, h.2⟩
end
theorem do_new {P : Program} {k : Value → World → Prop} {w : World} {L : List (World → Prop)} {t sz by' : Nat} {z : Value} {cs : List Value} (H : Kn w L) (I : Inf P t z sz by') (hs : szOf P t sz) (hz : z.cells.size = sz) (hl : cs.length = sz) (h1 : cs.all Value.oneCell' = true) (hv : (Value.agg cs.toArray).cells = cs.toArray)
    (h : ∀ b w', Kn w' (L ++ [kB b cs t]) → k (.pointer (some ⟨b, 0, none⟩)) w') : Do P (zvb_ t) (fun p w1 => Do P (zx_ t p (.agg cs.toArray)) (fun _ w2 => k p w2) w1) w := by
  refine zag_ I fun b w1 g1 hb B1 => ?_
  refine zwi_ (n := sz) hs (by rw [hv]; simpa using hl) (fun u hu => ?_) B1 (by simp [hz]) fun w2 g2 _ B2 => ?_
  · rw [hv] at hu
    exact List.all_eq_true.1 h1 u (by simpa using hu)
  · have g : Gr w w2 := zxf_ g1 g2 fun q hq => by
      obtain rfl := Option.some.inj hq
      exact hb
    refine h b w2 ((H.step g).addB ?_)
    have e : List.take 0 z.cells.toList ++ (Value.agg cs.toArray).cells.toList ++ List.drop (0 + sz) z.cells.toList = cs := by
      rw [hv, List.drop_eq_nil_of_le (by simp [hz])]
      simp
    rw [← e]
    exact B2
end Go.Sh
namespace Go.Proofs.Ytegcjkhebecgbaa
open Go Go.Sh Go.RowKit
theorem big_c {w : World} {X Y : Option Addr} {n m c d : Nat} (hn : n ≤ 9223372036854775807) (hm : m ≤ 9223372036854775807) {k : Value → World → Prop} (hk : ∀ b, k (.bool b) w) :
    CallK Try.prog 15 [.slice X n c, .slice Y m d] k w := by
  refine enter15 ?_
  unfold S15
  simp only [zq18, zq19, zq20, zq21, zq22, zq23, zq24, zq25, zq26, zq27, zq28, zq4, zq3, zq1, zq2, zq0, zq29, zq30, zq14, zq15, zq16, zq17, zq13, zq10, zq12, zq11, zq7, zq5, zq6, zq9, zq8, zq31, zq32, ite_T, ite_F, zq33, zq34, zq35, Nat.reduceEqDiff, len22, len24, fa26_0, fa26_1, fa26_2, len27, fa33_0, fa33_1, len35, fa114_0, fa114_1, fa114_2, fa124_0, fa124_1, len134, len154, fa156_0, fa156_1, fa156_2, fa156_3, fa156_4, fa156_5, fa156_6, len271, fa274_0, fa274_1, fa274_2]
  by_cases h : (1048576 : Int) < n
  · simp only [h, decide_true, zq18, zq19, zq20, zq21, zq22, zq23, zq24, zq25, zq26, zq27, zq28, zq4, zq3, zq1, zq2, zq0, zq29, zq30, zq14, zq15, zq16, zq17, zq13, zq10, zq12, zq11, zq7, zq5, zq6, zq9, zq8, zq31, zq32, ite_T, ite_F, zq33, zq34, zq35, Nat.reduceEqDiff, len22, len24, fa26_0, fa26_1, fa26_2, len27, fa33_0, fa33_1, len35, fa114_0, fa114_1, fa114_2, fa124_0, fa124_1, len134, len154, fa156_0, fa156_1, fa156_2, fa156_3, fa156_4, fa156_5, fa156_6, len271, fa274_0, fa274_1, fa274_2]
    exact hk _
  · simp only [h, decide_false, zq18, zq19, zq20, zq21, zq22, zq23, zq24, zq25, zq26, zq27, zq28, zq4, zq3, zq1, zq2, zq0, zq29, zq30, zq14, zq15, zq16, zq17, zq13, zq10, zq12, zq11, zq7, zq5, zq6, zq9, zq8, zq31, zq32, ite_T, ite_F, zq33, zq34, zq35, Nat.reduceEqDiff, len22, len24, fa26_0, fa26_1, fa26_2, len27, fa33_0, fa33_1, len35, fa114_0, fa114_1, fa114_2, fa124_0, fa124_1, len134, len154, fa156_0, fa156_1, fa156_2, fa156_3, fa156_4, fa156_5, fa156_6, len271, fa274_0, fa274_1, fa274_2]
    exact hk _
theorem zjt_ {w : World} {X Y : Option Addr} {c d : Nat} {xs ys : List Int} (hx : Ints w X xs) (hy : Ints w Y ys) {k : Value → World → Prop} (hk : ∀ w', Gr w w' → k (.bool (decide (xs = ys))) w') :
    CallK Try.prog 34 [.slice X xs.length c, .slice Y ys.length d] k w := by
  refine enter34 ?_
  unfold S34
  simp only [zq18, zq19, zq20, zq21, zq22, zq23, zq24, zq25, zq26, zq27, zq28, zq4, zq3, zq1, zq2, zq0, zq29, zq30, zq14, zq15, zq16, zq17, zq13, zq10, zq12, zq11, zq7, zq5, zq6, zq9, zq8, zq31, zq32, ite_T, ite_F, zq33, zq34, zq35, Nat.reduceEqDiff, len22, len24, fa26_0, fa26_1, fa26_2, len27, fa33_0, fa33_1, len35, fa114_0, fa114_1, fa114_2, fa124_0, fa124_1, len134, len154, fa156_0, fa156_1, fa156_2, fa156_3, fa156_4, fa156_5, fa156_6, len271, fa274_0, fa274_1, fa274_2]
  by_cases hl : xs.length = ys.length
  · simp only [Int.ofNat_inj, hl, decide_true, Bool.not_true, zq18, zq19, zq20, zq21, zq22, zq23, zq24, zq25, zq26, zq27, zq28, zq4, zq3, zq1, zq2, zq0, zq29, zq30, zq14, zq15, zq16, zq17, zq13, zq10, zq12, zq11, zq7, zq5, zq6, zq9, zq8, zq31, zq32, ite_T, ite_F, zq33, zq34, zq35, Nat.reduceEqDiff, len22, len24, fa26_0, fa26_1, fa26_2, len27, fa33_0, fa33_1, len35, fa114_0, fa114_1, fa114_2, fa124_0, fa124_1, len134, len154, fa156_0, fa156_1, fa156_2, fa156_3, fa156_4, fa156_5, fa156_6, len271, fa274_0, fa274_1, fa274_2]
    rw [← hl]
    refine zhb_ xs.length 0 (fun i f w' => i ≤ xs.length ∧ f 13 = .int .i64 i ∧ Gr w w' ∧ xs.take i = ys.take i) ⟨Nat.zero_le _, rfl, Gr.refl w, rfl⟩ ?_
    rintro i f w1 N hag ⟨hi, h13, hg, hpre⟩ hN
    have h0 : f 0 = .slice X xs.length c := hag 0 (by decide)
    have h1 : f 1 = .slice Y xs.length d := hag 1 (by decide)
    have h12 : f 12 = .int .i64 xs.length := hag 12 (by decide)
    simp only [h0, h1, h12, h13, zq18, zq19, zq20, zq21, zq22, zq23, zq24, zq25, zq26, zq27, zq28, zq4, zq3, zq1, zq2, zq0, zq29, zq30, zq14, zq15, zq16, zq17, zq13, zq10, zq12, zq11, zq7, zq5, zq6, zq9, zq8, zq31, zq32, ite_T, ite_F, zq33, zq34, zq35, Nat.reduceEqDiff, len22, len24, fa26_0, fa26_1, fa26_2, len27, fa33_0, fa33_1, len35, fa114_0, fa114_1, fa114_2, fa124_0, fa124_1, len134, len154, fa156_0, fa156_1, fa156_2, fa156_3, fa156_4, fa156_5, fa156_6, len271, fa274_0, fa274_1, fa274_2]
    by_cases hlt : i < xs.length
    · have hlt' : (i : Int) < xs.length := by omega
      have := hx.le
      simp only [hlt', decide_true, zq18, zq19, zq20, zq21, zq22, zq23, zq24, zq25, zq26, zq27, zq28, zq4, zq3, zq1, zq2, zq0, zq29, zq30, zq14, zq15, zq16, zq17, zq13, zq10, zq12, zq11, zq7, zq5, zq6, zq9, zq8, zq31, zq32, ite_T, ite_F, zq33, zq34, zq35, Nat.reduceEqDiff, len22, len24, fa26_0, fa26_1, fa26_2, len27, fa33_0, fa33_1, len35, fa114_0, fa114_1, fa114_2, fa124_0, fa124_1, len134, len154, fa156_0, fa156_1, fa156_2, fa156_3, fa156_4, fa156_5, fa156_6, len271, fa274_0, fa274_1, fa274_2]
      rw [zub_ hx.ptr hlt, ld3 ((hx.gr (zf_ hg (zcb_ w1))).cell i hlt), zub_ (hl ▸ hy.ptr) hlt, ld3 ((hy.gr (zf_ hg (zcb_ w1))).cell i (by omega))]
      simp only [zq18, zq19, zq20, zq21, zq22, zq23, zq24, zq25, zq26, zq27, zq28, zq4, zq3, zq1, zq2, zq0, zq29, zq30, zq14, zq15, zq16, zq17, zq13, zq10, zq12, zq11, zq7, zq5, zq6, zq9, zq8, zq31, zq32, ite_T, ite_F, zq33, zq34, zq35, Nat.reduceEqDiff, len22, len24, fa26_0, fa26_1, fa26_2, len27, fa33_0, fa33_1, len35, fa114_0, fa114_1, fa114_2, fa124_0, fa124_1, len134, len154, fa156_0, fa156_1, fa156_2, fa156_3, fa156_4, fa156_5, fa156_6, len271, fa274_0, fa274_1, fa274_2]
      by_cases he : xs.getD i 0 = ys.getD i 0
      · simp only [he, decide_true, Bool.not_true, zq18, zq19, zq20, zq21, zq22, zq23, zq24, zq25, zq26, zq27, zq28, zq4, zq3, zq1, zq2, zq0, zq29, zq30, zq14, zq15, zq16, zq17, zq13, zq10, zq12, zq11, zq7, zq5, zq6, zq9, zq8, zq31, zq32, ite_T, ite_F, zq33, zq34, zq35, Nat.reduceEqDiff, len22, len24, fa26_0, fa26_1, fa26_2, len27, fa33_0, fa33_1, len35, fa114_0, fa114_1, fa114_2, fa124_0, fa124_1, len134, len154, fa156_0, fa156_1, fa156_2, fa156_3, fa156_4, fa156_5, fa156_6, len271, fa274_0, fa274_1, fa274_2]
        rw [zj_ (by omega) (by omega)]
        refine hN _ _ hlt ⟨by omega, rfl, zf_ hg (zcb_ w1), ?_⟩
        rw [zah_ hlt, zah_ (by omega), hpre, he]
      · simp only [he, decide_false, Bool.not_false, zq18, zq19, zq20, zq21, zq22, zq23, zq24, zq25, zq26, zq27, zq28, zq4, zq3, zq1, zq2, zq0, zq29, zq30, zq14, zq15, zq16, zq17, zq13, zq10, zq12, zq11, zq7, zq5, zq6, zq9, zq8, zq31, zq32, ite_T, ite_F, zq33, zq34, zq35, Nat.reduceEqDiff, len22, len24, fa26_0, fa26_1, fa26_2, len27, fa33_0, fa33_1, len35, fa114_0, fa114_1, fa114_2, fa124_0, fa124_1, len134, len154, fa156_0, fa156_1, fa156_2, fa156_3, fa156_4, fa156_5, fa156_6, len271, fa274_0, fa274_1, fa274_2]
        have := hk _ (zf_ hg (zcb_ w1))
        rwa [decide_eq_false (fun e => he (by rw [e]))] at this
    · simp only [show ¬ (i : Int) < xs.length from by omega, decide_false, zq18, zq19, zq20, zq21, zq22, zq23, zq24, zq25, zq26, zq27, zq28, zq4, zq3, zq1, zq2, zq0, zq29, zq30, zq14, zq15, zq16, zq17, zq13, zq10, zq12, zq11, zq7, zq5, zq6, zq9, zq8, zq31, zq32, ite_T, ite_F, zq33, zq34, zq35, Nat.reduceEqDiff, len22, len24, fa26_0, fa26_1, fa26_2, len27, fa33_0, fa33_1, len35, fa114_0, fa114_1, fa114_2, fa124_0, fa124_1, len134, len154, fa156_0, fa156_1, fa156_2, fa156_3, fa156_4, fa156_5, fa156_6, len271, fa274_0, fa274_1, fa274_2]
      have := hk _ hg
      rwa [decide_eq_true] at this
      rwa [List.take_of_length_le (by omega), List.take_of_length_le (by omega)] at hpre
  · simp only [Int.ofNat_inj, hl, decide_false, Bool.not_false, zq18, zq19, zq20, zq21, zq22, zq23, zq24, zq25, zq26, zq27, zq28, zq4, zq3, zq1, zq2, zq0, zq29, zq30, zq14, zq15, zq16, zq17, zq13, zq10, zq12, zq11, zq7, zq5, zq6, zq9, zq8, zq31, zq32, ite_T, ite_F, zq33, zq34, zq35, Nat.reduceEqDiff, len22, len24, fa26_0, fa26_1, fa26_2, len27, fa33_0, fa33_1, len35, fa114_0, fa114_1, fa114_2, fa124_0, fa124_1, len134, len154, fa156_0, fa156_1, fa156_2, fa156_3, fa156_4, fa156_5, fa156_6, len271, fa274_0, fa274_1, fa274_2]
    have := hk _ (Gr.refl w)
    rwa [decide_eq_false (fun e => hl (by rw [e]))] at this
theorem zdm_ {α : Type} {xs : List α} {i : Nat} (h : i < xs.length) : xs.take (i + 1) = xs.take i ++ [xs[i]] := by
  rw [List.take_succ_eq_append_getElem h]
theorem sameLists_c {w : World} {X Y : Option Addr} {c d : Nat} {xs ys : List (List Int)} (hx : Intss w X xs) (hy : Intss w Y ys) {k : Value → World → Prop} (hk : ∀ w', Gr w w' → k (.bool (decide (xs = ys))) w') :
    CallK Try.prog 25 [.slice X xs.length c, .slice Y ys.length d] k w := by
  refine enter25 ?_
  unfold S25
  simp only [zq18, zq19, zq20, zq21, zq22, zq23, zq24, zq25, zq26, zq27, zq28, zq4, zq3, zq1, zq2, zq0, zq29, zq30, zq14, zq15, zq16, zq17, zq13, zq10, zq12, zq11, zq7, zq5, zq6, zq9, zq8, zq31, zq32, ite_T, ite_F, zq33, zq34, zq35, Nat.reduceEqDiff, len22, len24, fa26_0, fa26_1, fa26_2, len27, fa33_0, fa33_1, len35, fa114_0, fa114_1, fa114_2, fa124_0, fa124_1, len134, len154, fa156_0, fa156_1, fa156_2, fa156_3, fa156_4, fa156_5, fa156_6, len271, fa274_0, fa274_1, fa274_2]
  by_cases hl : xs.length = ys.length
  · simp only [Int.ofNat_inj, hl, decide_true, Bool.not_true, zq18, zq19, zq20, zq21, zq22, zq23, zq24, zq25, zq26, zq27, zq28, zq4, zq3, zq1, zq2, zq0, zq29, zq30, zq14, zq15, zq16, zq17, zq13, zq10, zq12, zq11, zq7, zq5, zq6, zq9, zq8, zq31, zq32, ite_T, ite_F, zq33, zq34, zq35, Nat.reduceEqDiff, len22, len24, fa26_0, fa26_1, fa26_2, len27, fa33_0, fa33_1, len35, fa114_0, fa114_1, fa114_2, fa124_0, fa124_1, len134, len154, fa156_0, fa156_1, fa156_2, fa156_3, fa156_4, fa156_5, fa156_6, len271, fa274_0, fa274_1, fa274_2]
    rw [← hl]
    refine zhb_ xs.length 0 (fun i f w' => i ≤ xs.length ∧ f 13 = .int .i64 i ∧ Gr w w' ∧ xs.take i = ys.take i) ⟨Nat.zero_le _, rfl, Gr.refl w, rfl⟩ ?_
    rintro i f w1 N hag ⟨hi, h13, hg, hpre⟩ hN
    have h0 : f 0 = .slice X xs.length c := hag 0 (by decide)
    have h1 : f 1 = .slice Y xs.length d := hag 1 (by decide)
    have h12 : f 12 = .int .i64 xs.length := hag 12 (by decide)
    simp only [h0, h1, h12, h13, zq18, zq19, zq20, zq21, zq22, zq23, zq24, zq25, zq26, zq27, zq28, zq4, zq3, zq1, zq2, zq0, zq29, zq30, zq14, zq15, zq16, zq17, zq13, zq10, zq12, zq11, zq7, zq5, zq6, zq9, zq8, zq31, zq32, ite_T, ite_F, zq33, zq34, zq35, Nat.reduceEqDiff, len22, len24, fa26_0, fa26_1, fa26_2, len27, fa33_0, fa33_1, len35, fa114_0, fa114_1, fa114_2, fa124_0, fa124_1, len134, len154, fa156_0, fa156_1, fa156_2, fa156_3, fa156_4, fa156_5, fa156_6, len271, fa274_0, fa274_1, fa274_2]
    by_cases hlt : i < xs.length
    · have hlt' : (i : Int) < xs.length := by omega
      have := hx.le
      simp only [hlt', decide_true, zq18, zq19, zq20, zq21, zq22, zq23, zq24, zq25, zq26, zq27, zq28, zq4, zq3, zq1, zq2, zq0, zq29, zq30, zq14, zq15, zq16, zq17, zq13, zq10, zq12, zq11, zq7, zq5, zq6, zq9, zq8, zq31, zq32, ite_T, ite_F, zq33, zq34, zq35, Nat.reduceEqDiff, len22, len24, fa26_0, fa26_1, fa26_2, len27, fa33_0, fa33_1, len35, fa114_0, fa114_1, fa114_2, fa124_0, fa124_1, len134, len154, fa156_0, fa156_1, fa156_2, fa156_3, fa156_4, fa156_5, fa156_6, len271, fa274_0, fa274_1, fa274_2]
      have g' := zf_ hg (zcb_ w1)
      obtain ⟨U, cu, u1, u2, u3⟩ := (hx.gr g').row i hlt
      obtain ⟨V, cv, v1, v2, v3⟩ := (hy.gr g').row i (by omega)
      rw [zce_ hx.ptr hlt, ld27 u1, zce_ (hl ▸ hy.ptr) hlt, ld27 v1]
      refine zjt_ u3 v3 fun w2 g2 => ?_
      simp only [zq18, zq19, zq20, zq21, zq22, zq23, zq24, zq25, zq26, zq27, zq28, zq4, zq3, zq1, zq2, zq0, zq29, zq30, zq14, zq15, zq16, zq17, zq13, zq10, zq12, zq11, zq7, zq5, zq6, zq9, zq8, zq31, zq32, ite_T, ite_F, zq33, zq34, zq35, Nat.reduceEqDiff, len22, len24, fa26_0, fa26_1, fa26_2, len27, fa33_0, fa33_1, len35, fa114_0, fa114_1, fa114_2, fa124_0, fa124_1, len134, len154, fa156_0, fa156_1, fa156_2, fa156_3, fa156_4, fa156_5, fa156_6, len271, fa274_0, fa274_1, fa274_2]
      have e1 : rgt xs i = xs[i] := zgi_ hlt
      have e2 : rgt ys i = ys[i] := zgi_ (by omega)
      by_cases he : rgt xs i = rgt ys i
      · simp only [he, decide_true, Bool.not_true, zq18, zq19, zq20, zq21, zq22, zq23, zq24, zq25, zq26, zq27, zq28, zq4, zq3, zq1, zq2, zq0, zq29, zq30, zq14, zq15, zq16, zq17, zq13, zq10, zq12, zq11, zq7, zq5, zq6, zq9, zq8, zq31, zq32, ite_T, ite_F, zq33, zq34, zq35, Nat.reduceEqDiff, len22, len24, fa26_0, fa26_1, fa26_2, len27, fa33_0, fa33_1, len35, fa114_0, fa114_1, fa114_2, fa124_0, fa124_1, len134, len154, fa156_0, fa156_1, fa156_2, fa156_3, fa156_4, fa156_5, fa156_6, len271, fa274_0, fa274_1, fa274_2]
        rw [zj_ (by omega) (by omega)]
        refine hN _ _ hlt ⟨by omega, rfl, zf_ g' g2, ?_⟩
        rw [zdm_ hlt, zdm_ (by omega), hpre, ← e1, ← e2, he]
      · simp only [he, decide_false, Bool.not_false, zq18, zq19, zq20, zq21, zq22, zq23, zq24, zq25, zq26, zq27, zq28, zq4, zq3, zq1, zq2, zq0, zq29, zq30, zq14, zq15, zq16, zq17, zq13, zq10, zq12, zq11, zq7, zq5, zq6, zq9, zq8, zq31, zq32, ite_T, ite_F, zq33, zq34, zq35, Nat.reduceEqDiff, len22, len24, fa26_0, fa26_1, fa26_2, len27, fa33_0, fa33_1, len35, fa114_0, fa114_1, fa114_2, fa124_0, fa124_1, len134, len154, fa156_0, fa156_1, fa156_2, fa156_3, fa156_4, fa156_5, fa156_6, len271, fa274_0, fa274_1, fa274_2]
        have := hk _ (zf_ g' g2)
        rwa [decide_eq_false (fun e => he (by rw [e]))] at this
    · simp only [show ¬ (i : Int) < xs.length from by omega, decide_false, zq18, zq19, zq20, zq21, zq22, zq23, zq24, zq25, zq26, zq27, zq28, zq4, zq3, zq1, zq2, zq0, zq29, zq30, zq14, zq15, zq16, zq17, zq13, zq10, zq12, zq11, zq7, zq5, zq6, zq9, zq8, zq31, zq32, ite_T, ite_F, zq33, zq34, zq35, Nat.reduceEqDiff, len22, len24, fa26_0, fa26_1, fa26_2, len27, fa33_0, fa33_1, len35, fa114_0, fa114_1, fa114_2, fa124_0, fa124_1, len134, len154, fa156_0, fa156_1, fa156_2, fa156_3, fa156_4, fa156_5, fa156_6, len271, fa274_0, fa274_1, fa274_2]
      have := hk _ hg
      rwa [decide_eq_true] at this
      rwa [List.take_of_length_le (by omega), List.take_of_length_le (by omega)] at hpre
  · simp only [Int.ofNat_inj, hl, decide_false, Bool.not_false, zq18, zq19, zq20, zq21, zq22, zq23, zq24, zq25, zq26, zq27, zq28, zq4, zq3, zq1, zq2, zq0, zq29, zq30, zq14, zq15, zq16, zq17, zq13, zq10, zq12, zq11, zq7, zq5, zq6, zq9, zq8, zq31, zq32, ite_T, ite_F, zq33, zq34, zq35, Nat.reduceEqDiff, len22, len24, fa26_0, fa26_1, fa26_2, len27, fa33_0, fa33_1, len35, fa114_0, fa114_1, fa114_2, fa124_0, fa124_1, len134, len154, fa156_0, fa156_1, fa156_2, fa156_3, fa156_4, fa156_5, fa156_6, len271, fa274_0, fa274_1, fa274_2]
    have := hk _ (Gr.refl w)
    rwa [decide_eq_false (fun e => hl (by rw [e]))] at this
end Go.Proofs.Ytegcjkhebecgbaa

namespace Go.Sh
open Go
def wordG (gm : Gram) (ws : List Int) : Bool := zy_ gm && zpc_ gm.toks ws
noncomputable def inLV (gm : Gram) (ws : List Int) : Bool × Bool := if wordG gm ws = true then (inL gm.rules ws, true) else (false, false)
theorem wordB_of {toks : Int} {ws : List Int} (h : zpc_ toks ws = true) : ws.length ≤ 10 ∧ ∀ t ∈ ws, 0 ≤ t ∧ t ≤ toks - 1 := by
  simp only [zpc_, allB, inB, Bool.and_eq_true, decide_eq_true_eq, List.all_eq_true] at h
  exact h
end Go.Sh
namespace Go.Proofs.Ytegcjkhebecgbaa
open Go Go.Sh Go.RowKit
section
variable {w : World} {X Z Y : Option Addr} {cx cz cy : Nat} {gm : Gram} {ws xs : List Int} {k : Value → World → Prop}
abbrev grv (gm : Gram) (Y : Option Addr) (cy : Nat) : Value := .agg #[.int .i64 gm.nons, .int .i64 gm.toks, .slice Y gm.rules.length cy]
set_option maxHeartbeats 1600000 in
theorem zbr_ (hG : kG Y cy gm.rules w) (hX : kI X ws cx w) (hk : ∀ w', Gr w w' → k (.tuple #[.bool (inLV gm ws).1, .bool (inLV gm ws).2]) w') :
    CallK Try.prog 26 [grv gm Y cy, .slice X ws.length cx] k w := by
  refine enter26 ?_
  unfold S26
  have H := ((Kn.nil w).addG hG.1 hG.2).addI hX.1 hX.2
  refine zpd_ fun b1 w1 g1 hb B1 => ?_
  have H := (H.step g1).addB B1
  rw [zv_ zdb_ sz26 rfl (H.get 3 rfl)]
  refine zug_ (gvK (H.get 1 rfl)) fun w2 g => ?_
  have H := H.step g
  unfold inLV wordG at hk
  cases hg : zy_ gm
  · simp only [Bool.not_false, zq18, zq19, zq20, zq21, zq22, zq23, zq24, zq25, zq26, zq27, zq28, zq4, zq3, zq1, zq2, zq0, zq29, zq30, zq14, zq15, zq16, zq17, zq13, zq10, zq12, zq11, zq7, zq5, zq6, zq9, zq8, zq31, zq32, ite_T, ite_F, zq33, zq34, zq35, Nat.reduceEqDiff, len22, len24, fa26_0, fa26_1, fa26_2, len27, fa33_0, fa33_1, len35, fa114_0, fa114_1, fa114_2, fa124_0, fa124_1, len134, len154, fa156_0, fa156_1, fa156_2, fa156_3, fa156_4, fa156_5, fa156_6, len271, fa274_0, fa274_1, fa274_2]
    rw [hg, Bool.false_and, if_neg Bool.false_ne_true] at hk
    exact hk _ (H.get 0 rfl)
  rw [hg, Bool.true_and] at hk
  have hn := ztc_ hg
  have ht := zie_ hg
  simp only [Bool.not_true, zq18, zq19, zq20, zq21, zq22, zq23, zq24, zq25, zq26, zq27, zq28, zq4, zq3, zq1, zq2, zq0, zq29, zq30, zq14, zq15, zq16, zq17, zq13, zq10, zq12, zq11, zq7, zq5, zq6, zq9, zq8, zq31, zq32, ite_T, ite_F, zq33, zq34, zq35, Nat.reduceEqDiff, len22, len24, fa26_0, fa26_1, fa26_2, len27, fa33_0, fa33_1, len35, fa114_0, fa114_1, fa114_2, fa124_0, fa124_1, len134, len154, fa156_0, fa156_1, fa156_2, fa156_3, fa156_4, fa156_5, fa156_6, len271, fa274_0, fa274_1, fa274_2]
  rw [ldB3 (H.get 3 rfl) rfl]
  refine zxp_ (H.get 2 rfl).1 rfl (by omega) (by omega) fun w3 g => ?_
  have H := H.step g
  cases hw : zpc_ gm.toks ws
  · simp only [Bool.not_false, zq18, zq19, zq20, zq21, zq22, zq23, zq24, zq25, zq26, zq27, zq28, zq4, zq3, zq1, zq2, zq0, zq29, zq30, zq14, zq15, zq16, zq17, zq13, zq10, zq12, zq11, zq7, zq5, zq6, zq9, zq8, zq31, zq32, ite_T, ite_F, zq33, zq34, zq35, Nat.reduceEqDiff, len22, len24, fa26_0, fa26_1, fa26_2, len27, fa33_0, fa33_1, len35, fa114_0, fa114_1, fa114_2, fa124_0, fa124_1, len134, len154, fa156_0, fa156_1, fa156_2, fa156_3, fa156_4, fa156_5, fa156_6, len271, fa274_0, fa274_1, fa274_2]
    rw [hw, if_neg Bool.false_ne_true] at hk
    exact hk _ (H.get 0 rfl)
  rw [hw, if_pos rfl] at hk
  simp only [Bool.not_true, zq18, zq19, zq20, zq21, zq22, zq23, zq24, zq25, zq26, zq27, zq28, zq4, zq3, zq1, zq2, zq0, zq29, zq30, zq14, zq15, zq16, zq17, zq13, zq10, zq12, zq11, zq7, zq5, zq6, zq9, zq8, zq31, zq32, ite_T, ite_F, zq33, zq34, zq35, Nat.reduceEqDiff, len22, len24, fa26_0, fa26_1, fa26_2, len27, fa33_0, fa33_1, len35, fa114_0, fa114_1, fa114_2, fa124_0, fa124_1, len134, len154, fa156_0, fa156_1, fa156_2, fa156_3, fa156_4, fa156_5, fa156_6, len271, fa274_0, fa274_1, fa274_2]
  have hW := wordB_of hw
  rw [zv_ zdb_ sz26 rfl (H.get 3 rfl)]
  refine spans_c (gvK (H.get 1 rfl)) hg (H.get 2 rfl).1 rfl hW.1 (fun t ht' => by have := hW.2 t ht'; omega) fun w4 bT HT => ?_
  have H := H.step HT.gr
  simp only [zq18, zq19, zq20, zq21, zq22, zq23, zq24, zq25, zq26, zq27, zq28, zq4, zq3, zq1, zq2, zq0, zq29, zq30, zq14, zq15, zq16, zq17, zq13, zq10, zq12, zq11, zq7, zq5, zq6, zq9, zq8, zq31, zq32, ite_T, ite_F, zq33, zq34, zq35, Nat.reduceEqDiff, len22, len24, fa26_0, fa26_1, fa26_2, len27, fa33_0, fa33_1, len35, fa114_0, fa114_1, fa114_2, fa124_0, fa124_1, len134, len154, fa156_0, fa156_1, fa156_2, fa156_3, fa156_4, fa156_5, fa156_6, len271, fa274_0, fa274_1, fa274_2]
  refine rdi (ixa122 (by decide) (by decide)) ?_
  refine rdi (ixa121 (by decide) (by decide)) ?_
  refine rdi (ixa120 (by omega) (by omega)) ?_
  simp only [Int.toNat_natCast, zq18, zq19, zq20, zq21, zq22, zq23, zq24, zq25, zq26, zq27, zq28, zq4, zq3, zq1, zq2, zq0, zq29, zq30, zq14, zq15, zq16, zq17, zq13, zq10, zq12, zq11, zq7, zq5, zq6, zq9, zq8, zq31, zq32, ite_T, ite_F, zq33, zq34, zq35, Nat.reduceEqDiff, len22, len24, fa26_0, fa26_1, fa26_2, len27, fa33_0, fa33_1, len35, fa114_0, fa114_1, fa114_2, fa124_0, fa124_1, len134, len154, fa156_0, fa156_1, fa156_2, fa156_3, fa156_4, fa156_5, fa156_6, len271, fa274_0, fa274_1, fa274_2]
  have hoff : 0 + (0 + 1) + Int.toNat 0 * 121 + Int.toNat 0 * 11 + ws.length = 0 * 121 + 0 * 11 + ws.length + 1 := by
    rw [show Int.toNat 0 = 0 from rfl]
    omega
  rw [hoff]
  refine rdi (ldB4 (HT.box 0 rfl) (zii_ (by decide) (by decide) (by omega))) ?_
  exact hk _ (H.get 0 rfl)
end
end Go.Proofs.Ytegcjkhebecgbaa

namespace Go.Sh
open Go
end Go.Sh
namespace Go.Proofs.Ytegcjkhebecgbaa
open Go Go.Sh Go.RowKit
section
variable {w : World} {X Z Y : Option Addr} {cx cz cy : Nat} {gm : Gram} {ws xs : List Int} {k : Value → World → Prop}
end
end Go.Proofs.Ytegcjkhebecgbaa

namespace Go.Sh
open Go
theorem good_lefts {gm : Gram} (hg : zy_ gm = true) : ∀ r ∈ gm.rules, 0 ≤ r.1 := fun r hr => by
  obtain ⟨i, hi, rfl⟩ := List.getElem_of_mem hr
  have := (zig_ hg hi).1
  rwa [zpf_ hi] at this
theorem zpj_ {gm : Gram} (hg : zy_ gm = true) {q : Nat} (hq : q < gm.rules.length) : (rul gm.rules q).2.length ≤ 4 ∧ ∀ x ∈ (rul gm.rules q).2, -gm.toks ≤ x ∧ x ≤ gm.nons - 1 := by
  simp only [zy_, Bool.and_eq_true] at hg
  have h := List.all_eq_true.1 hg.2 q (List.mem_range.2 hq)
  simp only [zde_, Bool.and_eq_true, decide_eq_true_eq] at h
  refine ⟨by have := h.1.1.2; omega, fun x hx => ?_⟩
  have := List.all_eq_true.1 h.1.2 x hx
  simpa [symB, inB] using this
where
  any_congr' {l : List RuleL} {p q : RuleL → Bool} (h : ∀ r ∈ l, p r = q r) : l.any p = l.any q := by
    rw [Bool.eq_iff_iff, List.any_eq_true, List.any_eq_true]
    constructor
    · rintro ⟨r, hr, h1⟩
      exact ⟨r, hr, by rw [← h r hr]; exact h1⟩
    · rintro ⟨r, hr, h1⟩
      exact ⟨r, hr, by rw [h r hr]; exact h1⟩
open Go Go.Proofs.Ytegcjkhebecgbaa
inductive Tr (rs : List RuleL) : Nat ⊕ List Int → List Int → List Int → Prop
  | tree {A q : Nat} {r u : List Int} : q < rs.length → (rul rs q).1 = (A : Int) → Tr rs (.inr (rul rs q).2) r u → Tr rs (.inl A) ((q : Int) :: r) u
  | nil : Tr rs (.inr []) [] []
  | tok {x : Int} {xs r u : List Int} : x < 0 → Tr rs (.inr xs) r u → Tr rs (.inr (x :: xs)) r ((-1 - x) :: u)
  | non {x : Int} {xs a b u v : List Int} : ¬ x < 0 → Tr rs (.inl x.toNat) a u → Tr rs (.inr xs) b v → Tr rs (.inr (x :: xs)) (a ++ b) (u ++ v)
section
variable {rs : List RuleL} {tree : List Int}
theorem tr_yi {c : Nat ⊕ List Int} {t u : List Int} (h : Tr rs c t u) : Yi rs c u := by
  induction h with
  | tree h1 h2 _ ih => exact .rule (by rw [zpf_ h1]; exact List.getElem_mem h1) h2 ih
  | nil => exact .nil
  | tok hx _ ih => exact .tok hx ih
  | non hx _ _ ih1 ih2 => exact .non hx ih1 ih2
theorem tr_der' {c : Nat ⊕ List Int} {t u : List Int} (h : Tr rs c t u) : ∀ (a b : List Int), ∃ s, Der rs (a ++ u ++ b) c a.length (a.length + u.length) s t := by
  induction h with
  | tree h1 h2 _ ih =>
    intro a b
    obtain ⟨s, hd⟩ := ih a b
    exact ⟨_, .tree h1 h2 hd⟩
  | nil =>
    intro a b
    exact ⟨_, .nil⟩
  | @tok x xs r u hx _ ih =>
    intro a b
    obtain ⟨s, hd⟩ := ih (a ++ [-1 - x]) b
    refine ⟨s, .tok hx (by simp) ?_ ?_⟩
    · simp [List.getD_eq_getElem?_getD]
    · have e : a ++ (-1 - x) :: u ++ b = a ++ [-1 - x] ++ u ++ b := by simp
      rw [e]
      have e2 : a.length + ((-1 - x) :: u).length = (a ++ [-1 - x]).length + u.length := by simp; omega
      rw [e2]
      have e3 : a.length + 1 = (a ++ [-1 - x]).length := by simp
      rw [e3]
      exact hd
  | @non x xs t1 t2 u v hx _ _ ih1 ih2 =>
    intro a b
    obtain ⟨s1, h1⟩ := ih1 a (v ++ b)
    obtain ⟨s2, h2⟩ := ih2 (a ++ u) b
    have e1 : a ++ u ++ (v ++ b) = a ++ (u ++ v) ++ b := by simp
    have e2 : a ++ u ++ v ++ b = a ++ (u ++ v) ++ b := by simp
    rw [e1] at h1
    rw [e2] at h2
    have e3 : (a ++ u).length = a.length + u.length := by simp
    have e4 : (a ++ u).length + v.length = a.length + (u ++ v).length := by simp; omega
    rw [e4, e3] at h2
    exact ⟨_, .non hx (by omega) (by simp) h1 h2⟩
theorem der_tr {ws : List Int} {c : Nat ⊕ List Int} {i j s : Nat} {t : List Int} (h : Der rs ws c i j s t) : j ≤ ws.length → Tr rs c t (cut ws i j) := by
  induction h with
  | tree h1 h2 _ ih => exact fun hj => .tree h1 h2 (ih hj)
  | nil =>
    intro _
    rw [zyj_]
    exact .nil
  | tok h1 h2 h3 _ ih =>
    intro hj
    rw [zgk_ h2 hj, h3]
    exact .tok h1 (ih hj)
  | non h1 h2 h3 _ _ ih1 ih2 =>
    intro hj
    rw [zph_ h2 h3 hj]
    exact .non h1 (ih1 (by omega)) (ih2 hj)
theorem tr_der {ws t : List Int} {A : Nat} : Tr rs (.inl A) t ws ↔ ∃ s, Der rs ws (.inl A) 0 ws.length s t := by
  constructor
  · intro h
    obtain ⟨s, hd⟩ := tr_der' h [] []
    simp only [List.nil_append, List.append_nil, List.length_nil, Nat.zero_add] at hd
    exact ⟨s, hd⟩
  · rintro ⟨s, hd⟩
    have := der_tr hd (Nat.le_refl _)
    rwa [cut_all] at this
theorem tr_pos {A : Nat} {t u : List Int} (h : Tr rs (.inl A) t u) : 0 < t.length := by
  cases h
  simp
theorem tr_read {c : Nat ⊕ List Int} {t u : List Int} (h : Tr rs c t u) : ∀ (pre post w : List Int) (f : Nat), tree = pre ++ t ++ post → t.length ≤ f →
    match c with
    | .inl A => ∃ p, ztb_ rs tree f (A : Int) pre.length w = some (p, w ++ u) ∧ p.fin = pre.length + t.length
    | .inr xs => ∀ ks, ∃ ks', zxb_ (ztb_ rs tree f) xs pre.length w ks = some (ks', pre.length + t.length, w ++ u) := by
  induction h with
  | @tree A q r u h1 h2 _ ih =>
    intro pre post w f he hf
    rw [List.length_cons] at hf
    obtain ⟨f, rfl⟩ : ∃ f', f = f' + 1 := ⟨f - 1, by omega⟩
    have hget : tree.getD pre.length 0 = (q : Int) := by
      rw [he, List.getD_eq_getElem?_getD, List.append_assoc, List.getElem?_append_right (Nat.le_refl _)]
      simp
    have hlen : pre.length < tree.length := by rw [he]; simp
    have hok : okT rs tree (A : Int) pre.length = true := by
      unfold okT
      rw [hget, Int.toNat_natCast]
      simp only [Bool.and_eq_true, decide_eq_true_eq]
      exact ⟨⟨hlen, by omega, by omega⟩, h2⟩
    have hr : rgtT rs tree pre.length = (rul rs q).2 := by unfold rgtT; rw [hget, Int.toNat_natCast]
    have he2 : tree = (pre ++ [(q : Int)]) ++ r ++ post := by rw [he]; simp
    obtain ⟨ks', hk⟩ := ih (pre ++ [(q : Int)]) post w f he2 (by omega) []
    rw [List.length_append, List.length_singleton] at hk
    dsimp only
    rw [ztb_, if_pos hok, hr, hk]
    exact ⟨_, rfl, by simp [PT.fin]; omega⟩
  | nil =>
    intro pre post w f he hf ks
    exact ⟨ks, by simp [zxb_]⟩
  | @tok x xs r u hx _ ih =>
    intro pre post w f he hf ks
    obtain ⟨ks', hk⟩ := ih pre post (w ++ [-1 - x]) f he hf ks
    exact ⟨ks', by rw [zxb_, if_pos hx, hk]; simp⟩
  | @non x xs a b u v hx _ _ ih1 ih2 =>
    intro pre post w f he hf ks
    rw [List.length_append] at hf
    obtain ⟨p, hp, hfin⟩ := ih1 pre (b ++ post) w f (by rw [he]; simp) (by omega)
    obtain ⟨ks', hk⟩ := ih2 (pre ++ a) post (w ++ u) f (by rw [he]; simp) (by omega) (ks ++ [p])
    refine ⟨ks', ?_⟩
    rw [zxb_, if_neg hx]
    have e : ((x.toNat : Nat) : Int) = x := by omega
    rw [e] at hp
    rw [hp]
    dsimp only
    rw [hfin, ← List.length_append, hk]
    simp
    omega
structure Ctx (rs : List RuleL) (tree : List Int) (c : Nat ⊕ List Int) (a b : Nat) (w w' : List Int) (q : PT) : Prop where
  ex : ∃ (f : Nat) (w1 w2 x y z : List Int), ztb_ rs tree f q.non q.at_ w1 = some (q, w2) ∧ w1 = w ++ x ∧ w2 = w1 ++ y ∧ w' = w2 ++ z ∧ Tr rs (.inl q.non.toNat) (cut tree q.at_ q.fin) y ∧
    ∀ s' y', Tr rs (.inl q.non.toNat) s' y' → Tr rs c (cut tree a q.at_ ++ s' ++ cut tree q.fin b) (x ++ y' ++ z)
  non : 0 ≤ q.non
  lo : a ≤ q.at_
  mid : q.at_ ≤ q.fin
  hi : q.fin ≤ b
structure RD (rs : List RuleL) (tree : List Int) (c : Nat ⊕ List Int) (a b : Nat) (w w' : List Int) (qs : List PT) : Prop where
  le : a ≤ b
  hi : b ≤ tree.length
  tr : ∃ u, w' = w ++ u ∧ Tr rs c (cut tree a b) u
  ctx : ∀ q ∈ qs, Ctx rs tree c a b w w' q
theorem readR_ctx {f : Nat} (hrec : ∀ x a w p w', 0 ≤ x → ztb_ rs tree f x a w = some (p, w') → RD rs tree (.inl x.toNat) a p.fin w w' p.parts) :
    ∀ (xs : List Int) (e : Nat) (w : List Int) (ks : List PT) {ks' : List PT} {e' : Nat} {w' : List Int}, e ≤ tree.length → zxb_ (ztb_ rs tree f) xs e w ks = some (ks', e', w') → ∃ new, ks' = ks ++ new ∧ RD rs tree (.inr xs) e e' w w' (PT.partsL new) := by
  intro xs
  induction xs with
  | nil =>
    intro e w ks ks' e' w' he h
    rw [zxb_] at h
    obtain ⟨rfl, rfl, rfl⟩ : ks = ks' ∧ e = e' ∧ w = w' := by simpa using h
    exact ⟨[], by simp, Nat.le_refl _, he, ⟨[], by simp, by rw [zyj_]; exact .nil⟩, fun q hq => by simp [PT.partsL] at hq⟩
  | cons x xs ih =>
    intro e w ks ks' e' w' he h
    rw [zxb_] at h
    by_cases hx : x < 0
    · rw [if_pos hx] at h
      obtain ⟨new, e1, R⟩ := ih e _ ks he h
      obtain ⟨u, eu, hu⟩ := R.tr
      refine ⟨new, e1, R.le, R.hi, ⟨_, by rw [eu, List.append_assoc, List.singleton_append], .tok hx hu⟩, fun q hq => ?_⟩
      have C := R.ctx q hq
      obtain ⟨f1, w1, w2, x0, y, z, a1, a2, a3, a4, a5, a6⟩ := C.ex
      exact ⟨⟨f1, w1, w2, (-1 - x) :: x0, y, z, a1, by rw [a2, List.append_assoc, List.singleton_append], a3, a4, a5, fun s' y' ht => .tok hx (a6 s' y' ht)⟩, C.non, C.lo, C.mid, C.hi⟩
    · rw [if_neg hx] at h
      cases hr : ztb_ rs tree f x e w with
      | none => rw [hr] at h; cases h
      | some z =>
        obtain ⟨k, w1⟩ := z
        rw [hr] at h
        dsimp only at h
        have K := hrec x e w k w1 (by omega) hr
        obtain ⟨new, e1, R⟩ := ih k.fin w1 (ks ++ [k]) K.hi h
        obtain ⟨u1, eu1, hu1⟩ := K.tr
        obtain ⟨u2, eu2, hu2⟩ := R.tr
        refine ⟨k :: new, by rw [e1]; simp, Nat.le_trans K.le R.le, R.hi, ⟨u1 ++ u2, by rw [eu2, eu1, List.append_assoc], ?_⟩, fun q hq => ?_⟩
        · rw [zph_ K.le R.le R.hi]
          exact .non hx hu1 hu2
        · rw [PT.partsL, List.mem_append] at hq
          rcases hq with hq | hq
          · have C := K.ctx q hq
            obtain ⟨f1, v1, v2, x0, y, z, a1, a2, a3, a4, a5, a6⟩ := C.ex
            refine ⟨⟨f1, v1, v2, x0, y, z ++ u2, a1, a2, a3, by rw [eu2, a4, List.append_assoc], a5, fun s' y' ht => ?_⟩, C.non, C.lo, C.mid, Nat.le_trans C.hi R.le⟩
            have := Tr.non hx (a6 s' y' ht) hu2
            rw [zph_ C.hi R.le R.hi]
            simpa [List.append_assoc] using this
          · have C := R.ctx q hq
            obtain ⟨f1, v1, v2, x0, y, z, a1, a2, a3, a4, a5, a6⟩ := C.ex
            refine ⟨⟨f1, v1, v2, u1 ++ x0, y, z, a1, by rw [a2, eu1, List.append_assoc], a3, a4, a5, fun s' y' ht => ?_⟩, C.non, Nat.le_trans K.le C.lo, C.mid, C.hi⟩
            have := Tr.non hx hu1 (a6 s' y' ht)
            rw [zph_ K.le C.lo (Nat.le_trans (Nat.le_trans C.mid C.hi) R.hi)]
            simpa [List.append_assoc] using this
theorem zkj_ : ∀ (f : Nat) (x : Int) (a : Nat) (w : List Int) (p : PT) (w' : List Int), 0 ≤ x → ztb_ rs tree f x a w = some (p, w') → RD rs tree (.inl x.toNat) a p.fin w w' p.parts := by
  intro f
  induction f with
  | zero => intro x a w p w' _ h; cases h
  | succ f ih =>
    intro x a w p w' hx h
    have h0 := h
    rw [ztb_] at h
    split at h
    · rename_i hok
      split at h
      · cases h
      · rename_i ks e w2 hr
        obtain ⟨rfl, rfl⟩ : _ = p ∧ w2 = w' := by simpa using h
        unfold okT at hok
        simp only [Bool.and_eq_true, decide_eq_true_eq] at hok
        obtain ⟨⟨o1, o2, o3⟩, o4⟩ := hok
        obtain ⟨new, e1, R⟩ := readR_ctx (fun x a w p w' hx h => ih x a w p w' hx h) _ _ _ _ o1 hr
        rw [List.nil_append] at e1
        subst e1
        obtain ⟨u, eu, hu⟩ := R.tr
        have hq : (tree.getD a 0).toNat < rs.length := by omega
        have eq : ((tree.getD a 0).toNat : Int) = tree.getD a 0 := by omega
        have hle : a < e := R.le
        have wrap : ∀ {r y : List Int}, Tr rs (.inr (rgtT rs tree a)) r y → Tr rs (.inl x.toNat) (tree.getD a 0 :: r) y := fun {r y} ht => by
          have := Tr.tree (A := x.toNat) hq (by rw [o4]; omega) ht
          rwa [eq] at this
        have whole : Tr rs (.inl x.toNat) (cut tree a e) u := by
          rw [zgk_ hle R.hi]
          exact wrap hu
        show RD rs tree (.inl x.toNat) a e w w2 (PT.parts (.mk x (tree.getD a 0).toNat a e w.length w2.length ks))
        refine ⟨by omega, R.hi, ⟨u, eu, whole⟩, fun q hq => ?_⟩
        rw [PT.parts, List.mem_cons] at hq
        rcases hq with rfl | hq
        · refine ⟨⟨f + 1, w, w2, [], u, [], h0, by simp, eu, by simp, whole, fun s' y' ht => ?_⟩, hx, Nat.le_refl _, Nat.le_of_lt hle, Nat.le_refl _⟩
          show Tr rs (.inl x.toNat) (cut tree a a ++ s' ++ cut tree e e) _
          rw [zyj_, zyj_]
          have ht' : Tr rs (.inl x.toNat) s' y' := ht
          simpa using ht'
        · have C := R.ctx q hq
          obtain ⟨f1, v1, v2, x0, y, z, a1, a2, a3, a4, a5, a6⟩ := C.ex
          have hlo := C.lo
          refine ⟨⟨f1, v1, v2, x0, y, z, a1, a2, a3, a4, a5, fun s' y' ht => ?_⟩, C.non, by omega, C.mid, C.hi⟩
          rw [zgk_ (by omega) (Nat.le_trans (Nat.le_trans C.mid C.hi) R.hi)]
          have := wrap (a6 s' y' ht)
          simpa using this
    · cases h
end
theorem zdg_ (xs : List Int) (a b : Nat) : seg xs (a : Int) (b : Int) = cut xs a b := by simp [seg, cut]
theorem rep_tr {rs : List RuleL} {A : Nat} {a b x z : List Int} (h : ∀ s' y', Tr rs (.inl A) s' y' → Tr rs (.inl A) (a ++ s' ++ b) (x ++ y' ++ z)) {s y : List Int} (h0 : Tr rs (.inl A) s y) : ∀ m : Nat, Tr rs (.inl A) (rep m a ++ s ++ rep m b) (rep m x ++ y ++ rep m z) := by
  have rep_left : ∀ (l : List Int) (m : Nat), rep (m + 1) l = l ++ rep m l := fun l m => by simp [rep, List.replicate_succ]
  intro m
  induction m with
  | zero => simpa [rep] using h0
  | succ m ih =>
    have := h _ _ ih
    rw [rep_left a, zcd_ m b, rep_left x, zcd_ m z]
    simpa [List.append_assoc] using this
theorem zik_ {rs : List RuleL} {tree : List Int} {f : Nat} {x : Int} {a : Nat} {w w' : List Int} {p : PT} (h : ztb_ rs tree f x a w = some (p, w')) : p.fr = w.length ∧ p.to = w'.length ∧ p.at_ = a ∧ p.non = x := by
  have := zdf_ rs tree f x a w p w' h
  exact ⟨this.2.2.2.2.1, this.2.2.2.2.2.1, this.2.2.1, this.2.2.2.1⟩
theorem pump_tr {gm : Gram} {tree ws : List Int} {p : PT} (hW : Whole gm tree p ws) {i j : Nat} (he : zvf_ p.parts = some (i, j)) (hp : zee_ (ptn p.parts i) (ptn p.parts j) = true) (m : Nat) :
    Tr gm.rules (.inl 0) (zwb_ tree (zwc_ p.parts i j) m) (zwb_ ws [((ptn p.parts i).fr : Int), ((ptn p.parts j).fr : Int), ((ptn p.parts j).to : Int), ((ptn p.parts i).to : Int)] m) := by
  obtain ⟨hi, hij, hjf, hj, _⟩ := zrm_ hW he
  have D := zkj_ (rs := gm.rules) (tree := tree) _ 0 0 [] p ws (by omega) hW.read
  have hmi : ptn p.parts i ∈ p.parts := by rw [zxd_ hi]; exact List.getElem_mem hi
  have Li := hW.laid i hi
  have Lj := hW.laid j hj
  rw [← zxd_ hi] at Li
  rw [← zxd_ hj] at Lj
  have Ci := D.ctx _ hmi
  obtain ⟨f1, w1, w2, x1, y1, z1, a1, a2, a3, a4, a5, a6⟩ := Ci.ex
  have D2 := zkj_ f1 _ _ _ _ _ Ci.non a1
  have hmj : ptn p.parts j ∈ (ptn p.parts i).parts := by
    rw [Li.2.2.2, zxd_ hj, List.mem_take_iff_getElem]
    refine ⟨j - i, by simp; omega, ?_⟩
    rw [List.getElem_drop]
    congr 1
    omega
  have Cj := D2.ctx _ hmj
  obtain ⟨f2, v1, v2, x2, y2, z2, b1, b2, b3, b4, b5, b6⟩ := Cj.ex
  have hnon : (ptn p.parts i).non = (ptn p.parts j).non := by
    unfold zee_ at hp
    simp only [Bool.and_eq_true, decide_eq_true_eq] at hp
    exact hp.1
  have ri := zik_ a1
  have rj := zik_ b1
  have hati : (ptn p.parts i).at_ = i := by rw [Li.1]; omega
  have hatj : (ptn p.parts j).at_ = j := by rw [Lj.1]; omega
  rw [← hnon] at b5 b6
  have key := a6 _ _ (rep_tr b6 b5 m)
  rw [List.nil_append] at a2
  subst a2
  -- the tree
  have e1 : zwb_ tree (zwc_ p.parts i j) m = cut tree 0 (ptn p.parts i).at_ ++ (rep m (cut tree (ptn p.parts i).at_ (ptn p.parts j).at_) ++ cut tree (ptn p.parts j).at_ (ptn p.parts j).fin ++ rep m (cut tree (ptn p.parts j).fin (ptn p.parts i).fin)) ++ cut tree (ptn p.parts i).fin p.fin := by
    unfold zwb_ zwc_
    simp only [List.getD_cons_zero, List.getD_cons_succ]
    rw [show (0 : Int) = ((0 : Nat) : Int) from rfl, zdg_, zdg_, zdg_, zdg_, zdg_, hW.fin, hati, hatj]
    simp [List.append_assoc]
  have hw : ws = w1 ++ (x2 ++ y2 ++ z2) ++ z1 := by
    rw [a4, b4, b3, b2]
    simp [List.append_assoc]
  have l1 : (ptn p.parts i).fr = w1.length := ri.1
  have l2 : (ptn p.parts j).fr = (w1 ++ x2).length := by rw [rj.1, b2]
  have l3 : (ptn p.parts j).to = (w1 ++ x2 ++ y2).length := by rw [rj.2.1, b3, b2]
  have l4 : (ptn p.parts i).to = (w1 ++ x2 ++ y2 ++ z2).length := by rw [ri.2.1, b4, b3, b2]
  have c1 : cut ws 0 w1.length = w1 := by rw [hw]; simp [cut, List.append_assoc]
  have c2 : cut ws w1.length (w1 ++ x2).length = x2 := by
    have := zum_ w1 x2 (y2 ++ z2 ++ z1)
    rw [hw, List.length_append]
    simpa [List.append_assoc] using this
  have c3 : cut ws (w1 ++ x2).length (w1 ++ x2 ++ y2).length = y2 := by
    have := zum_ (w1 ++ x2) y2 (z2 ++ z1)
    rw [hw, @List.length_append _ (w1 ++ x2)]
    simpa [List.append_assoc] using this
  have c4 : cut ws (w1 ++ x2 ++ y2).length (w1 ++ x2 ++ y2 ++ z2).length = z2 := by
    have := zum_ (w1 ++ x2 ++ y2) z2 z1
    rw [hw, @List.length_append _ (w1 ++ x2 ++ y2)]
    simpa [List.append_assoc] using this
  have c5 : cut ws (w1 ++ x2 ++ y2 ++ z2).length ws.length = z1 := by
    have := zum_ (w1 ++ x2 ++ y2 ++ z2) z1 []
    have e : ws = w1 ++ x2 ++ y2 ++ z2 ++ z1 := by rw [hw]; simp [List.append_assoc]
    rw [e, @List.length_append _ (w1 ++ x2 ++ y2 ++ z2)]
    simpa using this
  have e2 : zwb_ ws [((ptn p.parts i).fr : Int), ((ptn p.parts j).fr : Int), ((ptn p.parts j).to : Int), ((ptn p.parts i).to : Int)] m = w1 ++ (rep m x2 ++ y2 ++ rep m z2) ++ z1 := by
    unfold zwb_
    simp only [List.getD_cons_zero, List.getD_cons_succ]
    rw [show (0 : Int) = ((0 : Nat) : Int) from rfl, zdg_, zdg_, zdg_, zdg_, zdg_, l1, l2, l3, l4, c1, c2, c3, c4, c5]
    simp [List.append_assoc]
  rw [e1, e2]
  exact key
theorem zkt_ {l : List PT} {i j : Nat} (h : zvf_ l = some (i, j)) : zee_ (ptn l i) (ptn l j) = true := by
  unfold zvf_ at h
  obtain ⟨p, hp, h1⟩ := List.exists_of_findSome?_eq_some h
  obtain ⟨q, hq, h2⟩ := List.exists_of_findSome?_eq_some h1
  split at h2
  · rename_i hc
    obtain ⟨rfl, rfl⟩ : p = i ∧ q = j := by simpa using h2
    exact hc
  · cases h2
def ReadP (rs : List RuleL) (tree : List Int) (p : PT) : Prop := ∃ (f : Nat) (x : Int) (a : Nat) (w w' : List Int), 0 ≤ x ∧ ztb_ rs tree f x a w = some (p, w')
section
variable {rs : List RuleL} {tree : List Int}
theorem ReadP.part {p q : PT} (h : ReadP rs tree p) (hq : q ∈ p.parts) : ReadP rs tree q := by
  obtain ⟨f, x, a, w, w', h0, h1⟩ := h
  have C := (zkj_ f x a w p w' h0 h1).ctx q hq
  obtain ⟨f1, w1, w2, _, _, _, a1, _⟩ := C.ex
  exact ⟨f1, _, _, w1, w2, C.non, a1⟩
theorem ReadP.rule {p : PT} (h : ReadP rs tree p) : ∃ q, q < rs.length ∧ (rul rs q).1 = p.non := by
  obtain ⟨f, x, a, w, w', h0, h1⟩ := h
  have e := (zik_ h1).2.2.2
  cases f with
  | zero => cases h1
  | succ f =>
    rw [ztb_] at h1
    split at h1
    · rename_i hok
      unfold okT at hok
      simp only [Bool.and_eq_true, decide_eq_true_eq] at hok
      exact ⟨(tree.getD a 0).toNat, by omega, by rw [e]; exact hok.2⟩
    · cases h1
end
end Go.Sh

namespace Go.Proofs.Ytegcjkhebecgbaa
open Go Go.Sh Go.RowKit
theorem inf114' : Inf Try.prog 114 (.agg #[.slice none 0 0, .int .i64 0, .int .u64 0]) 3 40 := zkf_ (by kernel_rfl)
theorem bd114 {S : WS} {k : Value → Prop} {ps : List (Nat × Value)} {cells : Array Value} (hf : Instr.fill (#[(0, 1), (1, 1), (2, 1)][·]?) #[.slice none 0 0, .int .i64 0, .int .u64 0] ps = some cells) : Rd Try.prog S (zeb_ 114 ps) k = k (.agg cells) :=
  ziu_ Try.underlying114 inf114' sz22 sz3 sz112 hf
abbrev zg : List Value := [.int .i64 0, .int .i64 0, .slice none 0 0]
section
variable {w0 w : World} {E : List Thing} {C : Option Addr} {cap : Nat} {bs : List Int} {k : Value → World → Prop}
theorem rdS26 {S : WS} {k : Value → Prop} {b e : Nat} {cs : List Value} (hl : cs.length = 3) (h : ∀ w', S.S w' → Box w' b cs e) : Rd Try.prog S (zc_ 26 (ptrv b)) k = k (.agg cs.toArray) := by
  refine zhh_ zdb_ sz26 (cs := cs) hl fun w' hw j hj => ?_
  rw [show (⟨b, 0, none⟩ : Addr).add j = ⟨b, 0 + j, none⟩ from zq34 b 0 j, Nat.zero_add, (h w' hw).cell j]
  exact List.getElem?_eq_getElem hj
theorem gowK {ft : Nat → Prop} {Y : Option Addr} {cy : Nat} {rs : List RuleL} (h : OwnG 33 ft w 0 Y cy rs) : kG Y cy rs w := by
  have h1 := h.read
  obtain ⟨cells, hr, _⟩ := h
  exact ⟨hr.cap.1, h1⟩
end
abbrev kC (C : Option Addr) (bs : List Int) : World → Prop := fun w => Byts w C bs
section
variable {S : WS} {k : Value → Prop}
theorem bneq {c x y : Bool} : Rd Try.prog S (sBin .neq 4 c (.bool x) (.bool y)) k = k (.bool (!(x == y))) := bin_neq_bool Try.underlying4
theorem beql {c x y : Bool} : Rd Try.prog S (sBin .eql 4 c (.bool x) (.bool y)) k = k (.bool (x == y)) := bin_eql_bool Try.underlying4
theorem zmg_ {a b c : Value} : Rd Try.prog S (zk_ (.tuple #[a, b, c]) 0) k = k a := extract_three_0
theorem zpg_ {a b c : Value} : Rd Try.prog S (zk_ (.tuple #[a, b, c]) 1) k = k b := extract_three_1
theorem zrg_ {a b c : Value} : Rd Try.prog S (zk_ (.tuple #[a, b, c]) 2) k = k c := extract_three_2
end
section
variable {w w' : World} {L : List (World → Prop)}
theorem knC (H : Kn w L) {C : Option Addr} {bs : List Int} (h : Byts w C bs) : Kn w (L ++ [kC C bs]) := H.add fun w' g => h.gr g
theorem newG {k : Value → World → Prop} (H : Kn w L) {gm : Gram} {Y : Option Addr} {cy : Nat} (h : ∀ b w', Kn w' (L ++ [kB b [.int .i64 gm.nons, .int .i64 gm.toks, .slice Y gm.rules.length cy] 26]) → k (ptrv b) w') :
    Do Try.prog (zvb_ 26) (fun p w1 => Do Try.prog (zx_ 26 p (grv gm Y cy)) (fun _ w2 => k p w2) w1) w :=
  do_new (cs := [.int .i64 gm.nons, .int .i64 gm.toks, .slice Y gm.rules.length cy]) H inf26 sz26 rfl rfl rfl rfl h
end
section
variable {S : WS} {k : Value → Prop} {c b : Bool} {x : Int} {kd : IntKind} {t : TypeId}
theorem zkb_ : Rd Try.prog S (sBin .neq t c (.int kd x) (.int kd x)) k = k (.bool false) := by rw [zq22, decide_eq_true rfl]; rfl
theorem zmb_ : Rd Try.prog S (sBin .eql t c (.int kd x) (.int kd x)) k = k (.bool true) := by rw [zq21, decide_eq_true rfl]
theorem zib_ : Rd Try.prog S (sBin .neq 4 c (.bool b) (.bool b)) k = k (.bool false) := by rw [bneq]; cases b <;> rfl
theorem zjb_ : Rd Try.prog S (sBin .eql 4 c (.bool b) (.bool b)) k = k (.bool true) := by rw [beql]; cases b <;> rfl
end
end Go.Proofs.Ytegcjkhebecgbaa

namespace Go.Sh
abbrev CT := Nat → Nat → Nat → Option Nat
def CT.put (T : CT) (A i j n : Nat) : CT := fun A' i' j' => if A' = A ∧ i' = i ∧ j' = j then some n else T A' i' j'
def better (n : Nat) : Option Nat → Bool
  | none => true
  | some o => decide (n < o)
abbrev GS := CT × Bool
abbrev CandG := CT → Nat → Nat → Nat → Option Nat
def stepG (c : CandG) (rs : List RuleL) (q i : Nat) (s : GS) (j : Nat) : GS :=
  match c s.1 q i j with
  | none => s
  | some n => if better n (s.1 (rul rs q).1.toNat i j) then (s.1.put (rul rs q).1.toNat i j n, true) else s
def rowG (c : CandG) (rs : List RuleL) (n q : Nat) (s : GS) (i : Nat) : GS := (List.range' i (n - i)).foldl (stepG c rs q i) s
def ruleG (c : CandG) (rs : List RuleL) (n : Nat) (s : GS) (q : Nat) : GS := (List.range n).foldl (rowG c rs n q) s
def passG (c : CandG) (rs : List RuleL) (n : Nat) (s : GS) : GS := (List.range rs.length).foldl (ruleG c rs n) s
inductive FixG (c : CandG) (rs : List RuleL) (n : Nat) : CT → CT → Prop
  | done {T : CT} : (passG c rs n (T, false)).2 = false → FixG c rs n T (passG c rs n (T, false)).1
  | more {T U : CT} : (passG c rs n (T, false)).2 = true → FixG c rs n (passG c rs n (T, false)).1 U → FixG c rs n T U
theorem FixG.det {c : CandG} {rs : List RuleL} {n : Nat} {T U V : CT} (h : FixG c rs n T U) (g : FixG c rs n T V) : U = V := by
  induction h with
  | done h1 =>
    cases g with
    | done g1 => rfl
    | more g1 g2 => rw [h1] at g1; cases g1
  | more h1 h2 ih =>
    cases g with
    | done g1 => rw [h1] at g1; cases g1
    | more g1 g2 => exact ih g2
def eB : Nat → Nat
  | 0 => 1
  | s + 1 => 100 + 4 * eB s
def gB (l s : Nat) : Nat := if l = 0 then eB s else 6749808 * (l - 1) + 562484 * s + l
def cntG (T : CT) (i j : Nat) : Nat := sumN (fun A => if (T A i j).isSome then 1 else 0) 6
theorem sumN_le {f g : Nat → Nat} : ∀ {n : Nat}, (∀ k, k < n → f k ≤ g k) → sumN f n ≤ sumN g n := by
  intro n
  induction n with
  | zero => intro _; exact Nat.le_refl _
  | succ n ih =>
    intro h
    have := ih fun k hk => h k (by omega)
    have := h n (by omega)
    rw [sumN, sumN]
    omega
theorem sumN_one {f g : Nat → Nat} {p d : Nat} : ∀ {n : Nat}, p < n → (∀ k, k < n → k ≠ p → f k = g k) → f p + d = g p → sumN f n + d = sumN g n := by
  intro n
  induction n with
  | zero => intro h; omega
  | succ n ih =>
    intro h h1 h2
    rw [sumN, sumN]
    by_cases hp : p = n
    · subst hp
      rw [zkh_ fun k hk => h1 k (by omega) (by omega)]
      omega
    · have := ih (by omega) (fun k hk => h1 k (by omega)) h2
      have := h1 n (by omega) (by omega)
      omega
theorem cntG_le (T : CT) (i j : Nat) : cntG T i j ≤ 6 := by
  have := sumN_le (f := fun A => if (T A i j).isSome then 1 else 0) (g := fun _ => 1) (n := 6) (fun k _ => by split <;> omega)
  exact this
theorem eB_mono : ∀ {s t : Nat}, s ≤ t → eB s ≤ eB t := by
  intro s t h
  induction h with
  | refl => exact Nat.le_refl _
  | step _ ih => rw [eB]; omega
theorem eB6 : eB 6 = 140596 := by decide
theorem gB_mono {l s t : Nat} (h : s ≤ t) : gB l s ≤ gB l t := by
  unfold gB
  split
  · exact eB_mono h
  · omega
theorem gB_zero (s : Nat) : gB 0 s = eB s := if_pos rfl
theorem gB_pos {l s : Nat} (h : 0 < l) : gB l s = 6749808 * (l - 1) + 562484 * s + l := if_neg (by omega)
def SmallG (T : CT) : Prop := ∀ A i j n, i ≤ j → T A i j = some n → n ≤ gB (j - i) (cntG T i j)
theorem SmallG.six {T : CT} (h : SmallG T) {A i j n : Nat} (hij : i ≤ j) (hT : T A i j = some n) : n ≤ gB (j - i) 6 := Nat.le_trans (h A i j n hij hT) (gB_mono (cntG_le T i j))
section
variable {tok : Int → Nat → Nat → Option Nat} {nl : Nat → Nat → Option Nat} {T : CT}
end
theorem SmallG.le {T : CT} (h : SmallG T) {A i j n : Nat} (hij : i ≤ j) (hj : j ≤ 10) (hT : T A i j = some n) : n ≤ 100000000 := by
  have := h.six hij hT
  by_cases e : i = j
  · subst e
    rw [Nat.sub_self, gB_zero, eB6] at this
    omega
  · rw [gB_pos (by omega)] at this
    omega
theorem cntG_put {T : CT} {A i j n : Nat} (hA : A < 6) : cntG (T.put A i j n) i j + (if (T A i j).isSome then 1 else 0) = cntG T i j + 1 := by
  unfold cntG
  by_cases h : (T A i j).isSome
  · rw [if_pos h]
    congr 1
    refine zkh_ fun k hk => ?_
    unfold CT.put
    by_cases e : k = A
    · subst e
      simp [h]
    · simp [e]
  · rw [if_neg h]
    symm
    refine sumN_one (p := A) hA (fun k hk hne => ?_) ?_
    · simp [CT.put, hne]
    · simp [CT.put, h]
theorem cntG_other {T : CT} {A i j n i' j' : Nat} (h : ¬ (i' = i ∧ j' = j)) : cntG (T.put A i j n) i' j' = cntG T i' j' := by
  unfold cntG
  refine zkh_ fun k hk => ?_
  have : T.put A i j n k i' j' = T k i' j' := if_neg fun e => h e.2
  rw [this]
theorem smallG_put {T : CT} (h : SmallG T) {A i j n : Nat} (hA : A < 6) (hn : n ≤ gB (j - i) (cntG T i j + 1)) (hb : better n (T A i j) = true) : SmallG (T.put A i j n) := by
  intro A' i' j' m hij hm
  by_cases e : i' = i ∧ j' = j
  · obtain ⟨rfl, rfl⟩ := e
    have hc := cntG_put (T := T) (i := i') (j := j') (n := n) hA
    have hmono : gB (j' - i') (cntG T i' j') ≤ gB (j' - i') (cntG (T.put A i' j' n) i' j') := gB_mono (by split at hc <;> omega)
    unfold CT.put at hm
    by_cases e2 : A' = A
    · subst e2
      rw [if_pos ⟨rfl, rfl, rfl⟩] at hm
      cases hm
      cases ho : T A' i' j' with
      | none =>
        rw [ho] at hc
        rw [if_neg (by simp)] at hc
        rwa [show cntG (T.put A' i' j' n) i' j' = cntG T i' j' + 1 from by omega]
      | some o =>
        rw [ho] at hb
        have := h _ _ _ _ hij ho
        unfold better at hb
        have := of_decide_eq_true hb
        omega
    · rw [if_neg fun e => e2 e.1] at hm
      have := h _ _ _ _ hij hm
      omega
  · rw [cntG_other e]
    unfold CT.put at hm
    rw [if_neg fun e' => e e'.2] at hm
    exact h _ _ _ _ hij hm
def cellG (T : CT) (p : Nat) : Nat := match T (p / 121) (p / 11 % 11) (p % 11) with | none => 100000001 | some n => n
def sumG (T : CT) : Nat := sumN (cellG T) 726
theorem cellG_at {T : CT} {A i j : Nat} (hi : i < 11) (hj : j < 11) : cellG T (A * 121 + i * 11 + j) = match T A i j with | none => 100000001 | some n => n := by
  unfold cellG
  rw [show (A * 121 + i * 11 + j) / 121 = A from by omega, show (A * 121 + i * 11 + j) / 11 % 11 = i from by omega, show (A * 121 + i * 11 + j) % 11 = j from by omega]
theorem sumG_put {T : CT} {A i j n : Nat} (hA : A < 6) (hi : i < 11) (hj : j < 11) (hn : n ≤ 100000000) (hb : better n (T A i j) = true) : sumG (T.put A i j n) < sumG T := by
  unfold sumG
  have h1 : cellG (T.put A i j n) (A * 121 + i * 11 + j) = n := by
    rw [cellG_at hi hj]
    simp [CT.put]
  have h2 : n < cellG T (A * 121 + i * 11 + j) := by
    rw [cellG_at hi hj]
    cases ho : T A i j with
    | none => show n < 100000001; omega
    | some o =>
      rw [ho] at hb
      exact of_decide_eq_true hb
  have := sumN_one (f := cellG (T.put A i j n)) (g := cellG T) (p := A * 121 + i * 11 + j) (d := cellG T (A * 121 + i * 11 + j) - n) (n := 726) (by omega) (fun k hk hne => by
    unfold cellG CT.put
    rw [if_neg (by omega)]) (by omega)
  omega
def DropG (s s' : GS) : Prop := s' = s ∨ (s'.2 = true ∧ sumG s'.1 < sumG s.1)
theorem DropG.trans {a b c : GS} (h : DropG a b) (g : DropG b c) : DropG a c := by
  rcases h with rfl | ⟨h1, h2⟩
  · exact g
  · rcases g with rfl | ⟨g1, g2⟩
    · exact .inr ⟨h1, h2⟩
    · exact .inr ⟨g1, by omega⟩
theorem DropG.fold {α : Type} {I : CT → Prop} {f : GS → α → GS} : ∀ {l : List α} {s : GS}, (∀ a ∈ l, ∀ s, I s.1 → I (f s a).1 ∧ DropG s (f s a)) → I s.1 → I (l.foldl f s).1 ∧ DropG s (l.foldl f s) := by
  intro l
  induction l with
  | nil => intro s _ h; exact ⟨h, .inl rfl⟩
  | cons a l ih =>
    intro s hs h
    obtain ⟨h1, h2⟩ := hs a (List.mem_cons_self ..) s h
    obtain ⟨h3, h4⟩ := ih (fun b hb => hs b (List.mem_cons_of_mem _ hb)) h1
    exact ⟨h3, h2.trans h4⟩
def OfferG (c : CandG) (rs : List RuleL) (n : Nat) : Prop := (∀ q, q < rs.length → (rul rs q).1.toNat < 6) ∧ n ≤ 11 ∧ ∀ T q i j m, SmallG T → q < rs.length → i ≤ j → j < n → c T q i j = some m → m ≤ gB (j - i) (cntG T i j + 1)
section
variable {c : CandG} {rs : List RuleL} {n : Nat}
theorem stepG_drop (hc : OfferG c rs n) {q i j : Nat} (hq : q < rs.length) (hij : i ≤ j) (hj : j < n) {s : GS} (hs : SmallG s.1) : SmallG (stepG c rs q i s j).1 ∧ DropG s (stepG c rs q i s j) := by
  unfold stepG
  split
  · exact ⟨hs, .inl rfl⟩
  · rename_i m hm
    split
    · rename_i hb
      have h1 := smallG_put hs (hc.1 q hq) (hc.2.2 _ _ _ _ _ hs hq hij hj hm) hb
      refine ⟨h1, .inr ⟨rfl, sumG_put (hc.1 q hq) (by have := hc.2.1; omega) (by have := hc.2.1; omega) ?_ hb⟩⟩
      exact h1.le (A := (rul rs q).1.toNat) hij (by have := hc.2.1; omega) (by simp [CT.put])
    · exact ⟨hs, .inl rfl⟩
theorem rowG_drop (hc : OfferG c rs n) {q : Nat} (hq : q < rs.length) {s : GS} (hs : SmallG s.1) (i : Nat) : SmallG (rowG c rs n q s i).1 ∧ DropG s (rowG c rs n q s i) :=
  DropG.fold (I := SmallG) (fun j hj s hs => by
    rw [List.mem_range'_1] at hj
    exact stepG_drop hc hq hj.1 (by omega) hs) hs
theorem ruleG_drop (hc : OfferG c rs n) {q : Nat} (hq : q < rs.length) {s : GS} (hs : SmallG s.1) : SmallG (ruleG c rs n s q).1 ∧ DropG s (ruleG c rs n s q) :=
  DropG.fold (I := SmallG) (fun i hi s hs => rowG_drop hc hq hs i) hs
theorem zri_ (hc : OfferG c rs n) {s : GS} (hs : SmallG s.1) : SmallG (passG c rs n s).1 ∧ DropG s (passG c rs n s) :=
  DropG.fold (I := SmallG) (fun q hq s hs => ruleG_drop hc (List.mem_range.1 hq) hs) hs
theorem FixG.small (hc : OfferG c rs n) {T U : CT} (h : FixG c rs n T U) (hT : SmallG T) : SmallG U := by
  induction h with
  | done h1 => exact (zri_ hc (s := (_, false)) hT).1
  | more h1 h2 ih => exact ih (zri_ hc (s := (_, false)) hT).1
theorem DropG.still {α : Type} {I : CT → Prop} {f : GS → α → GS} : ∀ {l : List α} {s : GS}, (∀ a ∈ l, ∀ s, I s.1 → I (f s a).1 ∧ DropG s (f s a)) → I s.1 → s.2 = false → (l.foldl f s).2 = false → ∀ a ∈ l, f s a = s := by
  intro l
  induction l with
  | nil => intro s _ _ _ _ a ha; simp at ha
  | cons b l ih =>
    intro s hs h0 h he a ha
    rw [List.foldl_cons] at he
    have hb : f s b = s := by
      rcases (hs b (List.mem_cons_self ..) s h0).2 with e | ⟨e, _⟩
      · exact e
      · exfalso
        rcases (DropG.fold (fun c hc => hs c (List.mem_cons_of_mem _ hc)) (hs b (List.mem_cons_self ..) s h0).1).2 with e' | ⟨e', _⟩
        · rw [e', e] at he
          cases he
        · rw [e'] at he
          cases he
    rcases List.mem_cons.1 ha with rfl | ha
    · exact hb
    · rw [hb] at he
      exact ih (fun c hc => hs c (List.mem_cons_of_mem _ hc)) h0 h he a ha
theorem FixG.closed (hc : OfferG c rs n) {T U : CT} (h : FixG c rs n T U) (hT : SmallG T) : (passG c rs n (U, false)).2 = false := by
  induction h with
  | done h1 =>
    rename_i T
    have h2 : (passG c rs n (T, false)).1 = T := by
      rcases (zri_ hc (s := (T, false)) hT).2 with e | ⟨e, _⟩
      · rw [e]
      · rw [e] at h1
        cases h1
    rw [h2]
    exact h1
  | more h1 h2 ih => exact ih (zri_ hc (s := (_, false)) hT).1
end
open Go
def costQ (cs : List Int) (q : Nat) : Nat := (cs.getD q 0).toNat
section
variable {rs : List RuleL} {ws cs : List Int} {T : CT}
end
structure TabE (enc : Option Nat → Int) (w : World) (U : Option Addr) (nons n : Nat) (T : CT) : Prop where
  ptr : 0 < nons → U = some (ad U)
  row : ∀ x, x < nons → ∃ R c, w.cell? ((ad U).add x) = some (.slice R (n * n) c) ∧ R = some (ad R) ∧ ∀ i j, i < n → j < n → w.cell? ((ad R).add (i * n + j)) = some (.int .i64 (enc (T x i j)))
  cap : ∀ x R c, x < nons → w.cell? ((ad U).add x) = some (.slice R (n * n) c) → n * n ≤ c
theorem TabE.gr {enc : Option Nat → Int} {w w' : World} {U : Option Addr} {nons n : Nat} {T : CT} (h : TabE enc w U nons n T) (g : Gr w w') : TabE enc w' U nons n T := ⟨h.ptr, fun x hx => by
  obtain ⟨R, c, h1, h2, h3⟩ := h.row x hx
  exact ⟨R, c, g.cell h1, h2, fun i j hi hj => g.cell (h3 i j hi hj)⟩, fun x R c hx hc => by
  obtain ⟨R', c', h1, _, _⟩ := h.row x hx
  have h4 := g.cell h1
  rw [hc] at h4
  cases h4
  exact h.cap x _ _ hx h1⟩
section
variable {enc : Option Nat → Int} {T : CT}
end
def rowN (enc : Option Nat → Int) (T : CT) (n x : Nat) : List Int := (List.range (n * n)).map fun p => enc (T x (p / n) (p % n))
theorem zdp_ (enc : Option Nat → Int) (T : CT) (n x : Nat) : (rowN enc T n x).length = n * n := by simp [rowN]
theorem TabE.ints {enc : Option Nat → Int} {w : World} {U : Option Addr} {nons n : Nat} {T : CT} (h : TabE enc w U nons n T) (hn : n ≤ 11) {x : Nat} (hx : x < nons) : ∃ R c, w.cell? ((ad U).add x) = some (.slice R (n * n) c) ∧ n * n ≤ c ∧ Ints w R (rowN enc T n x) := by
  obtain ⟨R, c, h1, h2, h3⟩ := h.row x hx
  have hnn : n * n ≤ 11 * 11 := Nat.mul_le_mul hn hn
  refine ⟨R, c, h1, h.cap x R c hx h1, by rw [zdp_]; omega, fun _ => h2, fun j hj => ?_⟩
  rw [zdp_] at hj
  have hn0 : 0 < n := by
    cases n with
    | zero => simp at hj
    | succ n => omega
  have h4 := h3 (j / n) (j % n) (Nat.div_lt_of_lt_mul hj) (Nat.mod_lt _ hn0)
  rw [Nat.mul_comm (j / n), Nat.div_add_mod] at h4
  rw [h4]
  congr 2
  simp [rowN, List.getD_eq_getElem?_getD, hj]
end Go.Sh
namespace Go.Proofs.Ytegcjkhebecgbaa
open Go Go.Sh Go.RowKit
open Go Go.Sh

end Go.Proofs.Ytegcjkhebecgbaa

namespace Go.Sh
open Go
end Go.Sh
namespace Go.Proofs.Ytegcjkhebecgbaa
open Go Go.Sh Go.RowKit
end Go.Proofs.Ytegcjkhebecgbaa

namespace Go.Sh
open Go
section
variable {c : CandG} {rs : List RuleL} {n : Nat}
end
end Go.Sh
namespace Go.Proofs.Ytegcjkhebecgbaa
open Go Go.Sh Go.RowKit
end Go.Proofs.Ytegcjkhebecgbaa

namespace Go.Sh
open Go
section
variable {ws cs : List Int} {rs : List RuleL} {n : Nat}
end
structure CostsOk (gm : Gram) (cs : List Int) : Prop where
  len : cs.length = gm.rules.length
  all : ∀ c ∈ cs, 1 ≤ c ∧ c ≤ 100
theorem CostsOk.at {gm : Gram} {cs : List Int} (h : CostsOk gm cs) {q : Nat} (hq : q < gm.rules.length) : cs.getD q 0 = (costQ cs q : Int) ∧ 0 < costQ cs q ∧ costQ cs q ≤ 100 := by
  have hq' : q < cs.length := by rw [h.len]; exact hq
  have hm : cs.getD q 0 ∈ cs := by
    rw [List.getD_eq_getElem?_getD, List.getElem?_eq_getElem hq', Option.getD_some]
    exact List.getElem_mem hq'
  have := h.all _ hm
  unfold costQ
  omega
end Go.Sh
namespace Go.Proofs.Ytegcjkhebecgbaa
open Go Go.Sh Go.RowKit
open Go Go.Sh

def pl175 : Plans := fun _ => ⟨false, [], .nil⟩
def S175 (v0 v1 : Value) (k : Value → World → Prop) (w : World) : Prop :=
 Do Try.prog (sBox 26 v0) (fun t1 w2 =>
 Rd Try.prog (WS.at w2) (zb_ 26 t1 2) fun t3 =>
 Rd Try.prog (WS.at w2) (zc_ 24 t3) fun t4 =>
 Rd Try.prog (WS.at w2) (ze_ .len #[24] 3 [false] [t4]) fun t5 =>
 zfb_ [12, 13, 14, 15, 7, 6, 16, 17, 18, 19, 20, 21, 22, 23, 5, 24, 11] (fun Q6 f7 w8 =>
  Rd Try.prog (WS.at w8) (sBin .lss 3 false (f7 11) (f7 10)) fun t9 =>
  zi_ t9
   (Join (fun K10 =>
   Rd Try.prog (WS.at w8) (zd_ 24 (f7 9) (f7 11)) fun t13 =>
   Rd Try.prog (WS.at w8) (zc_ 33 t13) fun t14 =>
   Do Try.prog (zvb_ 33) (fun t15 w16 =>
   Do Try.prog (zx_ 33 t15 t14) (fun _ w17 =>
   Rd Try.prog (WS.at w17) (zb_ 33 t15 0) fun t18 =>
   Rd Try.prog (WS.at w17) (zc_ 3 t18) fun t19 =>
   Rd Try.prog (WS.at w17) (sBin .eql 3 false t19 (f7 1)) fun t20 =>
   zi_ t20
    (Do Try.prog (zh_ 27 1 [(0, (f7 11))]) (fun t21 w22 =>
    Do Try.prog (ze_ .append #[27, 27] 27 [false, false] [(f7 5), t21]) (fun t23 w24 =>
    K10 (F.upd (F.upd (F.upd (F.upd (F.upd (F.upd (F.upd (F.upd (F.upd (F.upd (F.upd (F.upd (F.upd (F.upd (F.upd f7 12 t9) 13 (f7 11)) 14 t13) 15 t14) 7 t15) 6 (f7 11)) 16 t18) 17 t19) 18 (f7 1)) 19 t20) 20 (f7 5)) 21 (f7 11)) 22 t21) 23 t23) 5 t23) w24) w22) w17)
    (K10 (F.upd (F.upd (F.upd (F.upd (F.upd (F.upd (F.upd (F.upd (F.upd (F.upd f7 12 t9) 13 (f7 11)) 14 t13) 15 t14) 7 t15) 6 (f7 11)) 16 t18) 17 t19) 18 (f7 1)) 19 t20) w17)) w16) w8) (fun f11 w12 =>
   Rd Try.prog (WS.at w12) (sBin .add 3 true (f11 11) (.int .i64 1)) fun t25 =>
   Q6 .normal (F.upd (F.upd f11 24 t25) 11 t25) w12))
   (Q6 (.exit 0) (F.upd f7 12 t9) w8))
  (zt_ 0 (seqQ (fun f26 w27 =>
 k (f26 5) w27) (zr_ Try.prog [.tmp 4] k)))
  (F.upd (F.upd (F.upd (F.upd (F.upd (F.upd (F.upd (zm_ [v0, v1]) 2 t1) 4 (.slice none 0 0)) 5 (.slice none 0 0)) 8 t3) 9 t4) 10 t5) 11 (.int .i64 0)) w2) w
theorem body175 : Try.f175.body = some (zg_ Try.f175) := by kernel_rfl
theorem same175 (v0 v1 : Value) (k : Value → World → Prop) (w : World) : wpF Try.prog pl175 (zg_ Try.f175) (zr_ Try.prog Try.f175.results.toList k) (zm_ [v0, v1]) w = S175 v0 v1 k w := by kernel_rfl
theorem enter175 {v0 v1 : Value} {k : Value → World → Prop} {w : World} (h : S175 v0 v1 k w) : CallK Try.prog 175 [v0, v1] k w :=
  call_of_wpF (pl := pl175) zab_ Try.func175 body175 (by kernel_rfl) (of_decide_eq_true (by kernel_rfl)) (by kernel_rfl) (by kernel_rfl) (Eq.mpr (same175 v0 v1 k w) h)

def pl363 : Plans := fun i => match i with
  | 4 => ⟨false, [], .step 0 .any (.step 1 .any (.step 2 .any (.step 3 .any (.step 4 .any (.step 5 .any (.step 6 .any (.step 7 .any (.step 8 .held (.step 9 .any (.step 10 .any (.step 11 .any (.step 12 .held (.step 13 .any (.step 14 .any (.nil)))))))))))))))⟩
  | 5 => ⟨false, [], .step 0 .any (.step 1 .any (.step 2 .any (.step 3 .any (.step 4 .any (.step 5 .any (.step 6 .any (.step 7 .any (.step 8 .held (.step 9 .any (.step 10 .any (.step 11 .any (.step 12 .held (.step 13 .any (.step 14 .any (.step 15 .any (.nil))))))))))))))))⟩
  | _ => ⟨false, [], .nil⟩
def S363 (v0 v1 : Value) (k : Value → World → Prop) (w : World) : Prop :=
 Rd Try.prog (WS.at w) (ze_ .len #[27] 3 [false] [v0]) fun t1 =>
 zfb_ [9, 10, 5, 11, 12, 13, 14, 15, 16, 17, 18, 19, 20, 21, 22, 23, 24, 25, 26, 27, 28, 29, 30, 31, 32, 33, 34, 35, 36, 37, 38, 39, 40, 4, 41, 8] (fun Q2 f3 w4 =>
  Rd Try.prog (WS.at w4) (sBin .lss 3 false (f3 8) (f3 7)) fun t5 =>
  zi_ t5
   (Rd Try.prog WS.any (ze_ .len #[27] 3 [false] [(f3 1)]) fun t6 =>
   Rd Try.prog WS.any (sBin .geq 3 false (f3 8) t6) fun t7 =>
   za_ t7 false (fun k w' => k (f3 0) w') (fun t8 w9 =>
   za_ t7 false (fun k w' => k (f3 8) w') (fun t10 w11 =>
   za_ t7 false (fun k w' => Rd Try.prog WS.any (zd_ 27 t8 t10) fun v => k v w') (fun t12 w13 =>
   za_ t7 false (fun k w' => Rd Try.prog (WS.at w4.drew) (zc_ 3 t12) fun v => k v w') (fun t14 w15 =>
   za_ t7 false (fun k w' => k (f3 1) w') (fun t16 w17 =>
   za_ t7 false (fun k w' => k (f3 8) w') (fun t18 w19 =>
   za_ t7 false (fun k w' => Rd Try.prog WS.any (zd_ 27 t16 t18) fun v => k v w') (fun t20 w21 =>
   za_ t7 false (fun k w' => Rd Try.prog (WS.at w4.drew) (zc_ 3 t20) fun v => k v w') (fun t22 w23 =>
   za_ t7 false (fun k w' => Rd Try.prog WS.any (sBin .neq 3 false t14 t22) fun v => k v w') (fun t24 w25 =>
   Rd Try.prog WS.any (zw_ t7 (.bool true) t24) fun t26 =>
   zi_ t26
    (Rd Try.prog WS.any (ze_ .len #[27] 3 [false] [(f3 1)]) fun t27 =>
    Rd Try.prog WS.any (sBin .lss 3 false (f3 8) t27) fun t28 =>
    za_ t28 true (fun k w' => k (f3 0) w') (fun t29 w30 =>
    za_ t28 true (fun k w' => k (f3 8) w') (fun t31 w32 =>
    za_ t28 true (fun k w' => Rd Try.prog WS.any (zd_ 27 t29 t31) fun v => k v w') (fun t33 w34 =>
    za_ t28 true (fun k w' => Rd Try.prog (WS.at w25.drew) (zc_ 3 t33) fun v => k v w') (fun t35 w36 =>
    za_ t28 true (fun k w' => k (f3 1) w') (fun t37 w38 =>
    za_ t28 true (fun k w' => k (f3 8) w') (fun t39 w40 =>
    za_ t28 true (fun k w' => Rd Try.prog WS.any (zd_ 27 t37 t39) fun v => k v w') (fun t41 w42 =>
    za_ t28 true (fun k w' => Rd Try.prog (WS.at w25.drew) (zc_ 3 t41) fun v => k v w') (fun t43 w44 =>
    za_ t28 true (fun k w' => Rd Try.prog WS.any (sBin .lss 3 false t35 t43) fun v => k v w') (fun t45 w46 =>
    Rd Try.prog WS.any (zw_ t28 t45 (.bool false)) fun t47 =>
    Q2 .ret (F.upd (F.upd (F.upd (F.upd (F.upd (F.upd (F.upd (F.upd (F.upd (F.upd (F.upd (F.upd (F.upd (F.upd (F.upd (F.upd (F.upd (F.upd (F.upd (F.upd (F.upd (F.upd (F.upd (F.upd (F.upd (F.upd (F.upd (F.upd (F.upd (F.upd (F.upd (F.upd (F.upd (F.upd f3 9 t5) 10 (f3 8)) 5 (f3 8)) 11 (f3 8)) 12 (f3 1)) 13 t6) 14 t7) 15 t7) 16 t8) 17 t10) 18 t12) 19 t14) 20 t16) 21 t18) 22 t20) 23 t22) 24 t24) 25 t26) 26 (f3 8)) 27 (f3 1)) 28 t27) 29 t28) 30 t28) 31 t29) 32 t31) 33 t33) 34 t35) 35 t37) 36 t39) 37 t41) 38 t43) 39 t45) 40 t47) 4 t47) w46) w44) w42) w40) w38) w36) w34) w32) w30) w25.drew)
    (Rd Try.prog (WS.at w25) (sBin .add 3 true (f3 8) (.int .i64 1)) fun t48 =>
    Q2 .normal (F.upd (F.upd (F.upd (F.upd (F.upd (F.upd (F.upd (F.upd (F.upd (F.upd (F.upd (F.upd (F.upd (F.upd (F.upd (F.upd (F.upd (F.upd (F.upd (F.upd f3 9 t5) 10 (f3 8)) 5 (f3 8)) 11 (f3 8)) 12 (f3 1)) 13 t6) 14 t7) 15 t7) 16 t8) 17 t10) 18 t12) 19 t14) 20 t16) 21 t18) 22 t20) 23 t22) 24 t24) 25 t26) 41 t48) 8 t48) w25)) w23) w21) w19) w17) w15) w13) w11) w9) w4.drew)
   (Q2 (.exit 0) (F.upd f3 9 t5) w4))
  (zt_ 0 (seqQ (fun f49 w50 =>
 Rd Try.prog (WS.at w50) (ze_ .len #[27] 3 [false] [(f49 0)]) fun t51 =>
 Rd Try.prog (WS.at w50) (ze_ .len #[27] 3 [false] [(f49 1)]) fun t52 =>
 Rd Try.prog (WS.at w50) (sBin .lss 3 false t51 t52) fun t53 =>
 k t53 w50) (zr_ Try.prog [.tmp 4] k)))
  (F.upd (F.upd (F.upd (F.upd (zm_ [v0, v1]) 4 (.bool false)) 6 v0) 7 t1) 8 (.int .i64 0)) w
theorem body363 : Try.f363.body = some (zg_ Try.f363) := by kernel_rfl
theorem same363 (v0 v1 : Value) (k : Value → World → Prop) (w : World) : wpF Try.prog pl363 (zg_ Try.f363) (zr_ Try.prog Try.f363.results.toList k) (zm_ [v0, v1]) w = S363 v0 v1 k w := by kernel_rfl
theorem enter363 {v0 v1 : Value} {k : Value → World → Prop} {w : World} (h : S363 v0 v1 k w) : CallK Try.prog 363 [v0, v1] k w :=
  call_of_wpF (pl := pl363) zab_ Try.func363 body363 (by kernel_rfl) (of_decide_eq_true (by kernel_rfl)) (by kernel_rfl) (by kernel_rfl) (Eq.mpr (same363 v0 v1 k w) h)

end Go.Proofs.Ytegcjkhebecgbaa

namespace Go.Sh
open Go
def zpb_ (rs : List RuleL) (A : Nat) (n : Nat) : List Int := ((List.range n).filter fun q => decide ((rul rs q).1 = (A : Int))).map fun q : Nat => (q : Int)
theorem rulesOf_yes {rs : List RuleL} {A n : Nat} (h : (rul rs n).1 = (A : Int)) : zpb_ rs A (n + 1) = zpb_ rs A n ++ [(n : Int)] := by
  unfold zpb_
  rw [List.range_succ, List.filter_append, List.map_append]
  simp [h]
theorem rulesOf_no {rs : List RuleL} {A n : Nat} (h : ¬ (rul rs n).1 = (A : Int)) : zpb_ rs A (n + 1) = zpb_ rs A n := by
  unfold zpb_
  rw [List.range_succ, List.filter_append, List.map_append]
  simp [h]
theorem zep_ (rs : List RuleL) (A n : Nat) : (zpb_ rs A n).length ≤ n := by
  unfold zpb_
  rw [List.length_map]
  exact Nat.le_trans (List.length_filter_le _ _) (by simp)
theorem zmt_ {rs : List RuleL} {A n l : Nat} (h : l < (zpb_ rs A n).length) : ∃ q : Nat, (zpb_ rs A n).getD l 0 = (q : Int) ∧ q < n ∧ (rul rs q).1 = (A : Int) ∧ ((List.range n).filter fun q => decide ((rul rs q).1 = (A : Int)))[l]? = some q := by
  unfold zpb_ at h ⊢
  rw [List.length_map] at h
  have hm := List.getElem_mem h
  have := List.mem_filter.1 hm
  refine ⟨_, ?_, List.mem_range.1 this.1, of_decide_eq_true this.2, List.getElem?_eq_getElem h⟩
  rw [List.getD_eq_getElem?_getD, List.getElem?_map, List.getElem?_eq_getElem h]
  rfl
end Go.Sh
namespace Go.Proofs.Ytegcjkhebecgbaa
open Go Go.Sh Go.RowKit
theorem l1Rules_c {F : Nat → Prop} {w : World} {v : Value} {gm : Gram} {A : Nat} (hv : GramV F w v gm) (hg : zy_ gm = true) {k : Value → World → Prop}
    (hk : ∀ w' U d, Gr w w' → Own 3 w' w.heap.size U d (zpb_ gm.rules A gm.rules.length) → k (.slice U (zpb_ gm.rules A gm.rules.length).length d) w') :
    CallK Try.prog 175 [v, .int .i64 A] k w := by
  obtain ⟨Y, cy, rfl, hc, hy⟩ := hv
  have hr16 := zhg_ hg
  have hn6 := ztc_ hg
  refine enter175 ?_
  unfold S175
  have H := Apt.nil w
  refine boxH H fun b1 w1 H => ?_
  simp only [zq18, zq19, zq20, zq21, zq22, zq23, zq24, zq25, zq26, zq27, zq28, zq4, zq3, zq1, zq2, zq0, zq29, zq30, zq14, zq15, zq16, zq17, zq13, zq10, zq12, zq11, zq7, zq5, zq6, zq9, zq8, zq31, zq32, ite_T, ite_F, zq33, zq34, zq35, len27, len24, len35, fa26_0, fa26_1, fa26_2, fa33_0, fa33_1, fa124_0, fa124_1, fa274_0, fa274_1, fa274_2, Nat.reduceEqDiff]
  rw [zuf_ (H.box 0 rfl) rfl]
  simp only [zq18, zq19, zq20, zq21, zq22, zq23, zq24, zq25, zq26, zq27, zq28, zq4, zq3, zq1, zq2, zq0, zq29, zq30, zq14, zq15, zq16, zq17, zq13, zq10, zq12, zq11, zq7, zq5, zq6, zq9, zq8, zq31, zq32, ite_T, ite_F, zq33, zq34, zq35, len27, len24, len35, fa26_0, fa26_1, fa26_2, fa33_0, fa33_1, fa124_0, fa124_1, fa274_0, fa274_1, fa274_2, Nat.reduceEqDiff]
  have H := H.addOwn (Gr.refl w1) (show Own 3 w1 w1.heap.size none 0 [] from Row.nil _ _ _ _)
  simp only [List.nil_append, List.cons_append] at H
  refine zhb_ gm.rules.length 0 (fun q f w' => q ≤ gm.rules.length ∧ f 11 = .int .i64 q ∧ ∃ U d, f 5 = .slice U (zpb_ gm.rules A q).length d ∧ Apt w w' [bx b1 [.int .i64 gm.nons, .int .i64 gm.toks, .slice Y gm.rules.length cy] 26, ows U d (zpb_ gm.rules A q)])
    ⟨Nat.zero_le _, rfl, none, 0, rfl, H⟩ ?_
  clear H
  rintro q f w2 N hag ⟨hq, h11, U, d, h5, H⟩ hN
  have f9 : f 9 = .slice Y gm.rules.length cy := hag 9 (by decide)
  have f10 : f 10 = .int .i64 gm.rules.length := hag 10 (by decide)
  have f1 : f 1 = .int .i64 A := hag 1 (by decide)
  simp only [f9, f10, f1, h11, h5, zq18, zq19, zq20, zq21, zq22, zq23, zq24, zq25, zq26, zq27, zq28, zq4, zq3, zq1, zq2, zq0, zq29, zq30, zq14, zq15, zq16, zq17, zq13, zq10, zq12, zq11, zq7, zq5, zq6, zq9, zq8, zq31, zq32, ite_T, ite_F, zq33, zq34, zq35, len27, len24, len35, fa26_0, fa26_1, fa26_2, fa33_0, fa33_1, fa124_0, fa124_1, fa274_0, fa274_1, fa274_2, Nat.reduceEqDiff]
  by_cases hlq : q < gm.rules.length
  case neg =>
    simp only [show ¬ ((q : Int) < gm.rules.length) from by omega, decide_false, go_sem, Nat.reduceEqDiff]
    obtain rfl : q = gm.rules.length := by omega
    exact hk _ U d H.gr (H.own 1 rfl)
  simp only [show ((q : Int) < gm.rules.length) from by omega, decide_true, zq18, zq19, zq20, zq21, zq22, zq23, zq24, zq25, zq26, zq27, zq28, zq4, zq3, zq1, zq2, zq0, zq29, zq30, zq14, zq15, zq16, zq17, zq13, zq10, zq12, zq11, zq7, zq5, zq6, zq9, zq8, zq31, zq32, ite_T, ite_F, zq33, zq34, zq35, len27, len24, len35, fa26_0, fa26_1, fa26_2, fa33_0, fa33_1, fa124_0, fa124_1, fa274_0, fa274_1, fa274_2, Nat.reduceEqDiff]
  obtain ⟨Z, cz, t1, t2, t3, t4⟩ := hy.row q hlq
  have hleft := zig_ hg hlq
  obtain ⟨xl, hxl⟩ : ∃ x : Nat, (rul gm.rules q).1 = x := ⟨(rul gm.rules q).1.toNat, by omega⟩
  rw [hxl] at t1
  refine zmd_ (fun g w' => g 11 = .int .i64 (q : Int) ∧ ∃ U d, g 5 = .slice U (zpb_ gm.rules A (q + 1)).length d ∧ Apt w w' [bx b1 [.int .i64 gm.nons, .int .i64 gm.toks, .slice Y gm.rules.length cy] 26, ows U d (zpb_ gm.rules A (q + 1))]) (fun K hK => ?_) ?_
  case refine_2 =>
    rintro g w' ⟨g11, U, d, g5, H⟩
    simp only [g11, go_sem, Nat.reduceEqDiff]
    rw [zj_ (by omega) (by omega)]
    exact hN _ _ hlq ⟨hlq, rfl, U, d, g5, H⟩
  refine rdi (zwe_ hy.ptr hlq) ?_
  rw [zfi_ zbe_ sz33 (cs := [.int .i64 xl, .slice Z (rul gm.rules q).2.length cz]) rfl (fun j hj => by
    match j, hj with
    | 0, _ => rw [zhc_, Nat.add_zero]; exact H.gr.cell t1
    | 1, _ => rw [zhc_]; exact H.gr.cell t2)]
  refine zid_ H zhd_ fun b3 w8 H => ?_
  refine zyb_ H 2 rfl sz33 rfl rfl rfl fun w9 H => ?_
  simp only [List.nil_append, List.cons_append, List.set_cons_zero, List.set_cons_succ] at H
  simp only [zq18, zq19, zq20, zq21, zq22, zq23, zq24, zq25, zq26, zq27, zq28, zq4, zq3, zq1, zq2, zq0, zq29, zq30, zq14, zq15, zq16, zq17, zq13, zq10, zq12, zq11, zq7, zq5, zq6, zq9, zq8, zq31, zq32, ite_T, ite_F, zq33, zq34, zq35, len27, len24, len35, fa26_0, fa26_1, fa26_2, fa33_0, fa33_1, fa124_0, fa124_1, fa274_0, fa274_1, fa274_2, Nat.reduceEqDiff]
  rw [ldB3 (H.box 2 rfl) rfl]
  have H := H.take 2
  simp only [zq18, zq19, zq20, zq21, zq22, zq23, zq24, zq25, zq26, zq27, zq28, zq4, zq3, zq1, zq2, zq0, zq29, zq30, zq14, zq15, zq16, zq17, zq13, zq10, zq12, zq11, zq7, zq5, zq6, zq9, zq8, zq31, zq32, ite_T, ite_F, zq33, zq34, zq35, len27, len24, len35, fa26_0, fa26_1, fa26_2, fa33_0, fa33_1, fa124_0, fa124_1, fa274_0, fa274_1, fa274_2, Nat.reduceEqDiff]
  have hln := zep_ gm.rules A q
  by_cases hA : xl = A
  · simp only [show ((xl : Int) = (A : Int)) from by omega, decide_true, zq18, zq19, zq20, zq21, zq22, zq23, zq24, zq25, zq26, zq27, zq28, zq4, zq3, zq1, zq2, zq0, zq29, zq30, zq14, zq15, zq16, zq17, zq13, zq10, zq12, zq11, zq7, zq5, zq6, zq9, zq8, zq31, zq32, ite_T, ite_F, zq33, zq34, zq35, len27, len24, len35, fa26_0, fa26_1, fa26_2, fa33_0, fa33_1, fa124_0, fa124_1, fa274_0, fa274_1, fa274_2, Nat.reduceEqDiff]
    refine pushH H 1 rfl rfl (by omega) fun t1 U1 d1 w10 H => ?_
    have e := rulesOf_yes (rs := gm.rules) (A := A) (n := q) (by omega)
    exact hK _ _ ⟨h11, U1, d1, by rw [e]; rfl, by rw [e]; exact H⟩
  · simp only [show ¬ ((xl : Int) = (A : Int)) from by omega, decide_false, zq18, zq19, zq20, zq21, zq22, zq23, zq24, zq25, zq26, zq27, zq28, zq4, zq3, zq1, zq2, zq0, zq29, zq30, zq14, zq15, zq16, zq17, zq13, zq10, zq12, zq11, zq7, zq5, zq6, zq9, zq8, zq31, zq32, ite_T, ite_F, zq33, zq34, zq35, len27, len24, len35, fa26_0, fa26_1, fa26_2, fa33_0, fa33_1, fa124_0, fa124_1, fa274_0, fa274_1, fa274_2, Nat.reduceEqDiff]
    have e := rulesOf_no (rs := gm.rules) (A := A) (n := q) (by omega)
    exact hK _ _ ⟨h11, U, d, by rw [e]; exact h5, by rw [e]; exact H⟩
theorem l11Less_c {w : World} {X Y : Option Addr} {c d n m : Nat} {a b : List Int} (hX : Ints w X a) (hY : Ints w Y b) (hn : n = a.length) (hm : m = b.length) {k : Value → World → Prop} (hk : ∀ w', Gr w w' → k (.bool (decide (cmpL a b < 0))) w') :
    CallK Try.prog 363 [.slice X n c, .slice Y m d] k w := by
  subst hn hm
  refine enter363 ?_
  unfold S363
  have hle := hX.le
  simp only [go_sem, Nat.reduceEqDiff]
  refine zhb_ a.length 0 (fun i f w' => i ≤ a.length ∧ i ≤ b.length ∧ f 8 = .int .i64 i ∧ Gr w w' ∧ cmpL a b = cmpL (a.drop i) (b.drop i)) ⟨Nat.zero_le _, Nat.zero_le _, rfl, Gr.refl _, by simp⟩ ?_
  rintro i f w1 N hag ⟨hi, hib, h8, gw, hE⟩ hN
  have f0 : f 0 = .slice X a.length c := hag 0 (by decide)
  have f1 : f 1 = .slice Y b.length d := hag 1 (by decide)
  have f7 : f 7 = .int .i64 a.length := hag 7 (by decide)
  simp only [f0, f1, f7, h8, go_sem, Nat.reduceEqDiff]
  by_cases hlt : i < a.length
  case neg =>
    simp only [show ¬ ((i : Int) < a.length) from by omega, decide_false, go_sem, Nat.reduceEqDiff]
    have := hk _ gw
    by_cases hb : a.length < b.length
    · rw [cmpL_left (by omega) (by omega)] at hE
      rw [hE] at this
      rw [decide_eq_true (show (a.length : Int) < (b.length : Int) by omega)]
      exact this
    · rw [cmpL_none (by omega) (by omega)] at hE
      rw [hE] at this
      rw [decide_eq_false (show ¬ (a.length : Int) < (b.length : Int) by omega)]
      exact this
  simp only [show ((i : Int) < a.length) from by omega, decide_true, go_sem, Nat.reduceEqDiff]
  have g1 := zf_ gw (zcb_ w1)
  have g2 := zf_ g1 (zcb_ w1.drew)
  by_cases hb : i < b.length
  case neg =>
    simp only [show ((b.length : Int) ≤ i) from by omega, show ¬ ((i : Int) < b.length) from by omega, decide_true, decide_false, go_sem, Nat.reduceEqDiff]
    rw [cmpL_right hlt (by omega)] at hE
    have := hk _ g2
    rw [hE] at this
    exact this
  simp only [show ¬ ((b.length : Int) ≤ i) from by omega, decide_false, go_sem, Nat.reduceEqDiff]
  refine rdi (zub_ hX.ptr hlt) (rdi (ld3 ((hX.gr g1).cell i hlt)) ?_)
  refine rdi (zub_ hY.ptr hb) (rdi (ld3 ((hY.gr g1).cell i hb)) ?_)
  simp only [go_sem, Nat.reduceEqDiff]
  rw [cmpL_drop hlt hb] at hE
  by_cases e : a.getD i 0 = b.getD i 0
  · simp only [e, decide_true, Bool.not_true, go_sem, Nat.reduceEqDiff]
    rw [zj_ (by omega) (by omega)]
    rw [if_neg (fun h => h (cmpI_eq.2 e))] at hE
    exact hN _ _ hlt ⟨by omega, by omega, rfl, g1, hE⟩
  · simp only [e, show ((i : Int) < b.length) from by omega, decide_true, decide_false, Bool.not_false, go_sem, Nat.reduceEqDiff]
    refine rdi (zub_ hX.ptr hlt) (rdi (ld3 ((hX.gr g2).cell i hlt)) ?_)
    refine rdi (zub_ hY.ptr hb) (rdi (ld3 ((hY.gr g2).cell i hb)) ?_)
    simp only [go_sem, Nat.reduceEqDiff]
    rw [if_pos (fun h => e (cmpI_eq.1 h))] at hE
    have := hk _ g2
    rw [hE] at this
    rw [show decide (a.getD i 0 < b.getD i 0) = decide (cmpI (a.getD i 0) (b.getD i 0) < 0) from by rw [decide_eq_decide, cmpI_lt]]
    exact this
open Go Go.Sh

def pl293 : Plans := fun _ => ⟨false, [], .nil⟩
def S293 (v0 v1 v2 v3 : Value) (k : Value → World → Prop) (w : World) : Prop :=
 Do Try.prog (sBox 26 v0) (fun t1 w2 =>
 Rd Try.prog (WS.at w2) (zc_ 26 t1) fun t3 =>
 CallK Try.prog 128 [t3, v1] (fun t4 w5 =>
 Rd Try.prog (WS.at w5) (sUn .not t4) fun t6 =>
 za_ t6 false (fun k w' => k v2 w') (fun t7 w8 =>
 za_ t6 false (fun k w' => CallK Try.prog 152 [t7, (.int .i64 0), (.int .i64 12)] k w') (fun t9 w10 =>
 za_ t6 false (fun k w' => Rd Try.prog (WS.at w10) (sUn .not t9) fun v => k v w') (fun t11 w12 =>
 Rd Try.prog (WS.at w12) (zw_ t6 (.bool true) t11) fun t13 =>
 za_ t13 false (fun k w' => k v3 w') (fun t14 w15 =>
 za_ t13 false (fun k w' => CallK Try.prog 152 [t14, (.int .i64 0), (.int .i64 60)] k w') (fun t16 w17 =>
 za_ t13 false (fun k w' => Rd Try.prog (WS.at w17) (sUn .not t16) fun v => k v w') (fun t18 w19 =>
 Rd Try.prog (WS.at w19) (zw_ t13 (.bool true) t18) fun t20 =>
 zi_ t20
  (k (.tuple #[(.slice none 0 0), (.bool false)]) w19)
  (Rd Try.prog (WS.at w19) (zc_ 26 t1) fun t21 =>
  CallK Try.prog 316 [t21, v1, v2, v3] (fun t22 w23 =>
  k (.tuple #[t22, (.bool true)]) w23) w19)) w17) w15) w12) w10) w8) w5) w2) w
theorem body293 : Try.f293.body = some (zg_ Try.f293) := by kernel_rfl
theorem same293 (v0 v1 v2 v3 : Value) (k : Value → World → Prop) (w : World) : wpF Try.prog pl293 (zg_ Try.f293) (zr_ Try.prog Try.f293.results.toList k) (zm_ [v0, v1, v2, v3]) w = S293 v0 v1 v2 v3 k w := by kernel_rfl
theorem enter293 {v0 v1 v2 v3 : Value} {k : Value → World → Prop} {w : World} (h : S293 v0 v1 v2 v3 k w) : CallK Try.prog 293 [v0, v1, v2, v3] k w :=
  call_of_wpF (pl := pl293) zab_ Try.func293 body293 (by kernel_rfl) (of_decide_eq_true (by kernel_rfl)) (by kernel_rfl) (by kernel_rfl) (Eq.mpr (same293 v0 v1 v2 v3 k w) h)

def pl316 : Plans := fun i => match i with
  | 1 => ⟨true, [7], .step 0 .held (.step 1 .any (.step 2 .held (.step 3 .any (.step 4 .any (.step 5 .one (.step 6 .any (.step 7 .last (.step 8 .any (.nil)))))))))⟩
  | _ => ⟨false, [], .nil⟩
def S316 (v0 v1 v2 v3 : Value) (k : Value → World → Prop) (w : World) : Prop :=
 Do Try.prog (sBox 26 v0) (fun t1 w2 =>
 ∃ U3 : World → Prop, ∃ h4 : U3 w2.drew,
 Rd Try.prog ⟨U3, w2.drew, h4⟩ (zc_ 26 t1) fun t5 =>
 Rd Try.prog ⟨U3, w2.drew, h4⟩ (zc_ 26 t1) fun t6 =>
 CallK Try.prog 333 [t6, v1, v2] (fun t7 w8 =>
 U3 w8 ∧ Rd Try.prog WS.any (zeb_ 274 [(0, t5), (1, v1), (2, t7)]) fun t9 =>
 Do Try.prog (sBox 274 t9) (fun t10 w11 =>
 zfb_ [20, 21, 22, 23, 24, 25, 26, 27, 28, 31, 32, 33, 34, 35, 36, 37, 38, 39, 40, 41, 10, 29, 30, 11] (fun Q12 f13 w14 =>
  Rd Try.prog (WS.at w14) (sBin .leq 3 false (f13 11) (f13 2)) fun t15 =>
  za_ t15 true (fun k w' => k (f13 10) w') (fun t16 w17 =>
  za_ t15 true (fun k w' => Rd Try.prog (WS.at w17) (ze_ .len #[35] 3 [false] [t16]) fun v => k v w') (fun t18 w19 =>
  za_ t15 true (fun k w' => k (f13 3) w') (fun t20 w21 =>
  za_ t15 true (fun k w' => Rd Try.prog (WS.at w21) (sBin .lss 3 false t18 t20) fun v => k v w') (fun t22 w23 =>
  Rd Try.prog (WS.at w23) (zw_ t15 t22 (.bool false)) fun t24 =>
  zi_ t24
   (Rd Try.prog (WS.at w23) (ze_ .len #[27] 3 [false] [(f13 1)]) fun t25 =>
   Rd Try.prog (WS.at w23) (ze_ .len #[35] 3 [false] [(f13 10)]) fun t26 =>
   Rd Try.prog (WS.at w23) (sBin .sub 3 false (f13 3) t26) fun t27 =>
   CallK Try.prog 334 [(f13 9), (.int .i64 0), (.int .i64 0), t25, (f13 11), t27] (fun t28 w29 =>
   Do Try.prog (ze_ .append #[35, 35] 35 [false, false] [(f13 10), t28]) (fun t30 w31 =>
   Rd Try.prog (WS.at w31) (sBin .add 3 true (f13 11) (.int .i64 1)) fun t32 =>
   Q12 .normal (F.upd (F.upd (F.upd (F.upd (F.upd (F.upd (F.upd (F.upd (F.upd (F.upd (F.upd (F.upd (F.upd (F.upd (F.upd (F.upd (F.upd (F.upd (F.upd (F.upd (F.upd (F.upd (F.upd (F.upd f13 20 (f13 11)) 21 (f13 2)) 22 t15) 23 t15) 24 t16) 25 t18) 26 t20) 27 t22) 28 t24) 31 (f13 10)) 32 (f13 9)) 33 (f13 1)) 34 t25) 35 (f13 11)) 36 (f13 3)) 37 (f13 10)) 38 t26) 39 t27) 40 t28) 41 t30) 10 t30) 29 (f13 11)) 30 t32) 11 t32) w31) w29) w23)
   (Q12 (.exit 0) (F.upd (F.upd (F.upd (F.upd (F.upd (F.upd (F.upd (F.upd (F.upd f13 20 (f13 11)) 21 (f13 2)) 22 t15) 23 t15) 24 t16) 25 t18) 26 t20) 27 t22) 28 t24) w23)) w21) w19) w17) w14)
  (zt_ 0 (seqQ (fun f33 w34 =>
 k (f33 10) w34) (zr_ Try.prog [.tmp 8] k)))
  (F.upd (F.upd (F.upd (F.upd (F.upd (F.upd (F.upd (F.upd (F.upd (F.upd (F.upd (F.upd (F.upd (zm_ [v0, v1, v2, v3]) 4 t1) 8 (.slice none 0 0)) 12 t5) 13 v1) 14 t6) 15 v1) 16 v2) 17 t7) 18 t9) 19 t10) 9 t10) 10 (.slice none 0 0)) 11 (.int .i64 1)) w11) w8) w2.drew) w
theorem body316 : Try.f316.body = some (zg_ Try.f316) := by kernel_rfl
theorem same316 (v0 v1 v2 v3 : Value) (k : Value → World → Prop) (w : World) : wpF Try.prog pl316 (zg_ Try.f316) (zr_ Try.prog Try.f316.results.toList k) (zm_ [v0, v1, v2, v3]) w = S316 v0 v1 v2 v3 k w := by kernel_rfl
theorem enter316 {v0 v1 v2 v3 : Value} {k : Value → World → Prop} {w : World} (h : S316 v0 v1 v2 v3 k w) : CallK Try.prog 316 [v0, v1, v2, v3] k w :=
  call_of_wpF (pl := pl316) zab_ Try.func316 body316 (by kernel_rfl) (of_decide_eq_true (by kernel_rfl)) (by kernel_rfl) (by kernel_rfl) (Eq.mpr (same316 v0 v1 v2 v3 k w) h)

def pl334 : Plans := fun i => match i with
  | 2 => ⟨false, [], .step 0 .any (.step 1 .any (.step 2 .any (.step 3 .held (.step 4 .any (.step 5 .any (.step 6 .held (.step 7 .any (.step 8 .any (.step 9 .any (.step 10 .any (.step 11 .held (.step 12 .any (.step 13 .any (.step 14 .any (.step 15 .any (.step 16 .any (.step 17 .any (.step 18 .held (.step 19 .any (.step 20 .any (.step 21 .held (.step 22 .any (.nil)))))))))))))))))))))))⟩
  | _ => ⟨false, [], .nil⟩
def S334 (v0 v1 v2 v3 v4 v5 : Value) (k : Value → World → Prop) (w : World) : Prop :=
 Rd Try.prog WS.any (zu_ v0) fun t1 =>
 Rd Try.prog WS.any (zb_ 274 t1 2) fun t2 =>
 Rd Try.prog (WS.at w.drew) (zc_ 271 t2) fun t3 =>
 Rd Try.prog WS.any (zd_ 271 t3 v1) fun t4 =>
 Rd Try.prog (WS.at w.drew) (zc_ 35 t4) fun t5 =>
 Rd Try.prog WS.any (zu_ v0) fun t6 =>
 Rd Try.prog WS.any (zb_ 274 t6 1) fun t7 =>
 Rd Try.prog (WS.at w.drew) (zc_ 27 t7) fun t8 =>
 Rd Try.prog WS.any (ze_ .len #[27] 3 [false] [t8]) fun t9 =>
 Rd Try.prog WS.any (sBin .add 3 true t9 (.int .i64 1)) fun t10 =>
 Rd Try.prog WS.any (sBin .mul 3 false v2 t10) fun t11 =>
 Rd Try.prog WS.any (sBin .add 3 false t11 v3) fun t12 =>
 Rd Try.prog WS.any (zd_ 35 t5 t12) fun t13 =>
 Rd Try.prog (WS.at w.drew) (zc_ 27 t13) fun t14 =>
 Rd Try.prog WS.any (zd_ 27 t14 v4) fun t15 =>
 Rd Try.prog (WS.at w.drew) (zc_ 3 t15) fun t16 =>
 Rd Try.prog WS.any (sBin .eql 3 true t16 (.int .i64 0)) fun t17 =>
 zi_ t17
  (k (.slice none 0 0) w.drew)
  (Rd Try.prog (WS.at w.drew) (zu_ v0) fun t18 =>
  Rd Try.prog (WS.at w.drew) (zb_ 274 t18 0) fun t19 =>
  Rd Try.prog (WS.at w.drew) (zc_ 26 t19) fun t20 =>
  CallK Try.prog 175 [t20, v1] (fun t21 w22 =>
  Rd Try.prog (WS.at w22) (ze_ .len #[27] 3 [false] [t21]) fun t23 =>
  zfb_ [49, 50, 51, 15, 52, 53, 54, 55, 56, 57, 58, 59, 60, 61, 62, 63, 64, 65, 66, 67, 68, 69, 70, 71, 72, 73, 74, 75, 17, 76, 77, 78, 79, 80, 81, 82, 13, 83, 72, 84, 85, 86, 87, 88, 89, 90, 12, 91, 48] (fun Q24 f25 w26 =>
   Rd Try.prog (WS.at w26) (sBin .lss 3 false (f25 48) (f25 47)) fun t27 =>
   zi_ t27
    (Rd Try.prog (WS.at w26) (zd_ 27 (f25 46) (f25 48)) fun t28 =>
    Rd Try.prog (WS.at w26) (zc_ 3 t28) fun t29 =>
    Rd Try.prog (WS.at w26) (zu_ (f25 0)) fun t30 =>
    Rd Try.prog (WS.at w26) (zb_ 274 t30 0) fun t31 =>
    Rd Try.prog (WS.at w26) (zb_ 26 t31 2) fun t32 =>
    Rd Try.prog (WS.at w26) (zc_ 24 t32) fun t33 =>
    Rd Try.prog (WS.at w26) (zd_ 24 t33 t29) fun t34 =>
    Rd Try.prog (WS.at w26) (zb_ 33 t34 1) fun t35 =>
    Rd Try.prog (WS.at w26) (zc_ 27 t35) fun t36 =>
    Rd Try.prog (WS.at w26) (sBin .sub 3 true (f25 4) (.int .i64 1)) fun t37 =>
    Rd Try.prog (WS.at w26) (ze_ .len #[35] 3 [false] [(f25 13)]) fun t38 =>
    Rd Try.prog (WS.at w26) (sBin .sub 3 false (f25 5) t38) fun t39 =>
    CallK Try.prog 348 [(f25 0), t36, (f25 2), (f25 3), t37, t39] (fun t40 w41 =>
    Rd Try.prog (WS.at w41) (ze_ .len #[35] 3 [false] [t40]) fun t42 =>
    zfb_ [73, 74, 75, 17, 76, 77, 78, 79, 80, 81, 82, 13, 83, 72] (fun Q43 f44 w45 =>
     Rd Try.prog (WS.at w45) (sBin .lss 3 false (f44 72) (f44 71)) fun t46 =>
     zi_ t46
      (Rd Try.prog (WS.at w45) (zd_ 35 (f44 70) (f44 72)) fun t47 =>
      Rd Try.prog (WS.at w45) (zc_ 27 t47) fun t48 =>
      Do Try.prog (zh_ 27 1 [(0, (f44 15))]) (fun t49 w50 =>
      Do Try.prog (ze_ .append #[27, 27] 27 [false, false] [t49, t48]) (fun t51 w52 =>
      Do Try.prog (zh_ 35 1 [(0, t51)]) (fun t53 w54 =>
      Do Try.prog (ze_ .append #[35, 35] 35 [false, false] [(f44 13), t53]) (fun t55 w56 =>
      Rd Try.prog (WS.at w56) (sBin .add 3 true (f44 72) (.int .i64 1)) fun t57 =>
      Q43 .normal (F.upd (F.upd (F.upd (F.upd (F.upd (F.upd (F.upd (F.upd (F.upd (F.upd (F.upd (F.upd (F.upd (F.upd f44 73 t46) 74 t47) 75 t48) 17 t48) 76 (f44 13)) 77 (f44 15)) 78 t49) 79 t48) 80 t51) 81 t53) 82 t55) 13 t55) 83 t57) 72 t57) w56) w54) w52) w50) w45)
      (Q43 (.exit 2) (F.upd f44 73 t46) w45))
     (zt_ 2 (seqQ (fun f58 w59 =>
    Rd Try.prog (WS.at w59) (ze_ .len #[35] 3 [false] [(f58 13)]) fun t60 =>
    Rd Try.prog (WS.at w59) (sBin .geq 3 false t60 (f58 5)) fun t61 =>
    zi_ t61
     (Rd Try.prog (WS.at w59) (zrb_ 35 (f58 13) none (some (f58 5)) none) fun t62 =>
     Q24 .ret (F.upd (F.upd (F.upd (F.upd (F.upd (F.upd (F.upd (F.upd f58 84 (f58 13)) 85 t60) 86 (f58 5)) 87 t61) 88 (f58 13)) 89 (f58 5)) 90 t62) 12 t62) w59)
     (Rd Try.prog (WS.at w59) (sBin .add 3 true (f58 48) (.int .i64 1)) fun t63 =>
     Q24 .normal (F.upd (F.upd (F.upd (F.upd (F.upd (F.upd f58 84 (f58 13)) 85 t60) 86 (f58 5)) 87 t61) 91 t63) 48 t63) w59)) (zt_ 1 (seqQ (fun f64 w65 =>
    Rd Try.prog (WS.at w65) (sBin .add 3 true (f64 48) (.int .i64 1)) fun t66 =>
    Q24 .normal (F.upd (F.upd f64 91 t66) 48 t66) w65) Q24))))
     (F.upd (F.upd (F.upd (F.upd (F.upd (F.upd (F.upd (F.upd (F.upd (F.upd (F.upd (F.upd (F.upd (F.upd (F.upd (F.upd (F.upd (F.upd (F.upd (F.upd (F.upd (F.upd (F.upd (F.upd (F.upd f25 49 t27) 50 t28) 51 t29) 15 t29) 52 (f25 0)) 53 (f25 0)) 54 t30) 55 t31) 56 t32) 57 t33) 58 t29) 59 t34) 60 t35) 61 t36) 62 (f25 2)) 63 (f25 3)) 64 (f25 4)) 65 t37) 66 (f25 5)) 67 (f25 13)) 68 t38) 69 t39) 70 t40) 71 t42) 72 (.int .i64 0)) w41) w26)
    (Q24 (.exit 0) (F.upd f25 49 t27) w26))
   (zt_ 0 (seqQ (fun f67 w68 =>
  k (f67 13) w68) (zr_ Try.prog [.tmp 12] k)))
   (F.upd (F.upd (F.upd (F.upd (F.upd (F.upd (F.upd (F.upd (F.upd (F.upd (F.upd (F.upd (F.upd (F.upd (F.upd (F.upd (F.upd (F.upd (F.upd (F.upd (F.upd (F.upd (F.upd (F.upd (F.upd (F.upd (F.upd (F.upd (F.upd (F.upd (F.upd (F.upd (F.upd (zm_ [v0, v1, v2, v3, v4, v5]) 12 (.slice none 0 0)) 13 (.slice none 0 0)) 18 v0) 19 t1) 20 t2) 21 t3) 22 v1) 23 t4) 24 t5) 25 v2) 26 v0) 27 t6) 28 t7) 29 t8) 30 t9) 31 t10) 32 t11) 33 v3) 34 t12) 35 t13) 36 t14) 37 v4) 38 t15) 39 t16) 40 t17) 41 v0) 42 t18) 43 t19) 44 t20) 45 v1) 46 t21) 47 t23) 48 (.int .i64 0)) w22) w.drew)
theorem body334 : Try.f334.body = some (zg_ Try.f334) := by kernel_rfl
theorem same334 (v0 v1 v2 v3 v4 v5 : Value) (k : Value → World → Prop) (w : World) : wpF Try.prog pl334 (zg_ Try.f334) (zr_ Try.prog Try.f334.results.toList k) (zm_ [v0, v1, v2, v3, v4, v5]) w = S334 v0 v1 v2 v3 v4 v5 k w := by kernel_rfl
theorem enter334 {v0 v1 v2 v3 v4 v5 : Value} {k : Value → World → Prop} {w : World} (h : S334 v0 v1 v2 v3 v4 v5 k w) : CallK Try.prog 334 [v0, v1, v2, v3, v4, v5] k w :=
  call_of_wpF (pl := pl334) zab_ Try.func334 body334 (by kernel_rfl) (of_decide_eq_true (by kernel_rfl)) (by kernel_rfl) (by kernel_rfl) (Eq.mpr (same334 v0 v1 v2 v3 v4 v5 k w) h)

def pl348 : Plans := fun i => match i with
  | 1 => ⟨false, [12], .step 0 .any (.step 1 .any (.step 2 .any (.step 3 .held (.step 4 .any (.step 5 .any (.step 6 .any (.step 7 .held (.step 8 .any (.step 9 .any (.step 10 .any (.step 11 .any (.step 12 .last (.step 13 .any (.step 14 .any (.step 15 .any (.step 16 .any (.step 17 .any (.nil))))))))))))))))))⟩
  | _ => ⟨false, [], .nil⟩
def S348 (v0 v1 v2 v3 v4 v5 : Value) (k : Value → World → Prop) (w : World) : Prop :=
 Rd Try.prog WS.any (zu_ v0) fun t1 =>
 Rd Try.prog WS.any (zb_ 274 t1 2) fun t2 =>
 Rd Try.prog (WS.at w.drew) (zc_ 271 t2) fun t3 =>
 Rd Try.prog WS.any (zu_ v0) fun t4 =>
 Rd Try.prog WS.any (zb_ 274 t4 1) fun t5 =>
 Rd Try.prog (WS.at w.drew) (zc_ 27 t5) fun t6 =>
 CallK Try.prog 347 [t3, t6, v1, v2, v3, v4] (fun t7 w8 =>
 Rd Try.prog WS.any (sBin .eql 3 true t7 (.int .i64 0)) fun t9 =>
 za_ t9 false (fun k w' => k v5 w') (fun t10 w11 =>
 za_ t9 false (fun k w' => Rd Try.prog WS.any (sBin .leq 3 true t10 (.int .i64 0)) fun v => k v w') (fun t12 w13 =>
 Rd Try.prog WS.any (zw_ t9 (.bool true) t12) fun t14 =>
 zi_ t14
  (k (.slice none 0 0) w13)
  (Rd Try.prog (WS.at w13) (ze_ .len #[27] 3 [false] [v1]) fun t15 =>
  Rd Try.prog (WS.at w13) (sBin .eql 3 true t15 (.int .i64 0)) fun t16 =>
  zi_ t16
   (Do Try.prog (zh_ 35 1 [(0, (.slice none 0 0))]) (fun t17 w18 =>
   k t17 w18) w13)
   (Rd Try.prog (WS.at w13) (zd_ 27 v1 (.int .i64 0)) fun t19 =>
   Rd Try.prog (WS.at w13) (zc_ 3 t19) fun t20 =>
   Rd Try.prog (WS.at w13) (sBin .lss 3 true t20 (.int .i64 0)) fun t21 =>
   zi_ t21
    (Rd Try.prog (WS.at w13) (zrb_ 27 v1 (some (.int .i64 1)) none none) fun t22 =>
    Rd Try.prog (WS.at w13) (sBin .add 3 true v2 (.int .i64 1)) fun t23 =>
    CallK Try.prog 348 [v0, t22, t23, v3, v4, v5] (fun t24 w25 =>
    k t24 w25) w13)
    (zfb_ [57, 58, 59, 15, 62, 63, 64, 67, 68, 69, 70, 71, 72, 73, 74, 75, 76, 16, 77, 78, 79, 80, 81, 82, 83, 84, 85, 86, 87, 88, 89, 90, 91, 92, 93, 18, 94, 95, 96, 97, 98, 99, 20, 100, 101, 102, 103, 104, 105, 106, 13, 107, 96, 108, 90, 65, 66, 15, 60, 61, 14] (fun Q26 f27 w28 =>
     Rd Try.prog (WS.at w28) (sBin .leq 3 false (f27 14) (f27 3)) fun t29 =>
     zi_ t29
      (zfb_ [62, 63, 64, 67, 68, 69, 70, 71, 72, 73, 74, 75, 76, 16, 77, 78, 79, 80, 81, 82, 83, 84, 85, 86, 87, 88, 89, 90, 91, 92, 93, 18, 94, 95, 96, 97, 98, 99, 20, 100, 101, 102, 103, 104, 105, 106, 13, 107, 96, 108, 90, 65, 66, 15] (fun Q30 f31 w32 =>
       Rd Try.prog (WS.at w32) (sBin .leq 3 false (f31 15) (f31 4)) fun t33 =>
       zi_ t33
        (Join (fun K34 =>
        Rd Try.prog (WS.at w32) (zrb_ 27 (f31 1) (some (.int .i64 1)) none none) fun t37 =>
        Rd Try.prog (WS.at w32) (sBin .sub 3 false (f31 4) (f31 15)) fun t38 =>
        CallK Try.prog 348 [(f31 0), t37, (f31 14), (f31 3), t38, (f31 5)] (fun t39 w40 =>
        Rd Try.prog (WS.at w40) (ze_ .len #[35] 3 [false] [t39]) fun t41 =>
        Rd Try.prog (WS.at w40) (sBin .eql 3 true t41 (.int .i64 0)) fun t42 =>
        zi_ t42
         (K34 (F.upd (F.upd (F.upd (F.upd (F.upd (F.upd (F.upd (F.upd (F.upd (F.upd (F.upd (F.upd (F.upd (F.upd (F.upd (F.upd (F.upd f31 62 (f31 15)) 63 (f31 4)) 64 t33) 67 (f31 0)) 68 (f31 1)) 69 t37) 70 (f31 14)) 71 (f31 3)) 72 (f31 4)) 73 (f31 15)) 74 t38) 75 (f31 5)) 76 t39) 16 t39) 77 t39) 78 t41) 79 t42) w40)
         (Rd Try.prog (WS.at w40) (zd_ 27 (f31 1) (.int .i64 0)) fun t43 =>
         Rd Try.prog (WS.at w40) (zc_ 3 t43) fun t44 =>
         CallK Try.prog 334 [(f31 0), t44, (f31 2), (f31 14), (f31 15), (f31 5)] (fun t45 w46 =>
         Rd Try.prog (WS.at w46) (ze_ .len #[35] 3 [false] [t45]) fun t47 =>
         zfb_ [91, 92, 93, 18, 94, 95, 96, 97, 98, 99, 20, 100, 101, 102, 103, 104, 105, 106, 13, 107, 96, 108, 90] (fun Q48 f49 w50 =>
          Rd Try.prog (WS.at w50) (sBin .lss 3 false (f49 90) (f49 89)) fun t51 =>
          zi_ t51
           (Rd Try.prog (WS.at w50) (zd_ 35 (f49 88) (f49 90)) fun t52 =>
           Rd Try.prog (WS.at w50) (zc_ 27 t52) fun t53 =>
           Rd Try.prog (WS.at w50) (ze_ .len #[35] 3 [false] [(f49 16)]) fun t54 =>
           zfb_ [97, 98, 99, 20, 100, 101, 102, 103, 104, 105, 106, 13, 107, 96] (fun Q55 f56 w57 =>
            Rd Try.prog (WS.at w57) (sBin .lss 3 false (f56 96) (f56 95)) fun t58 =>
            zi_ t58
             (Rd Try.prog (WS.at w57) (zd_ 35 (f56 94) (f56 96)) fun t59 =>
             Rd Try.prog (WS.at w57) (zc_ 27 t59) fun t60 =>
             CallK Try.prog 158 [(f56 18)] (fun t61 w62 =>
             Do Try.prog (ze_ .append #[27, 27] 27 [false, false] [t61, t60]) (fun t63 w64 =>
             CallK Try.prog 359 [(f56 13), t63, (f56 5)] (fun t65 w66 =>
             Rd Try.prog (WS.at w66) (sBin .add 3 true (f56 96) (.int .i64 1)) fun t67 =>
             Q55 .normal (F.upd (F.upd (F.upd (F.upd (F.upd (F.upd (F.upd (F.upd (F.upd (F.upd (F.upd (F.upd (F.upd (F.upd f56 97 t58) 98 t59) 99 t60) 20 t60) 100 (f56 13)) 101 (f56 18)) 102 t61) 103 t60) 104 t63) 105 (f56 5)) 106 t65) 13 t65) 107 t67) 96 t67) w66) w64) w62) w57)
             (Q55 (.exit 6) (F.upd f56 97 t58) w57))
            (zt_ 6 (zt_ 5 (seqQ (fun f68 w69 =>
           Rd Try.prog (WS.at w69) (sBin .add 3 true (f68 90) (.int .i64 1)) fun t70 =>
           Q48 .normal (F.upd (F.upd f68 108 t70) 90 t70) w69) Q48)))
            (F.upd (F.upd (F.upd (F.upd (F.upd (F.upd (F.upd f49 91 t51) 92 t52) 93 t53) 18 t53) 94 (f49 16)) 95 t54) 96 (.int .i64 0)) w50)
           (Q48 (.exit 4) (F.upd f49 91 t51) w50))
          (zt_ 4 (zt_ 3 (seqQ K34 Q30)))
          (F.upd (F.upd (F.upd (F.upd (F.upd (F.upd (F.upd (F.upd (F.upd (F.upd (F.upd (F.upd (F.upd (F.upd (F.upd (F.upd (F.upd (F.upd (F.upd (F.upd (F.upd (F.upd (F.upd (F.upd (F.upd (F.upd (F.upd (F.upd f31 62 (f31 15)) 63 (f31 4)) 64 t33) 67 (f31 0)) 68 (f31 1)) 69 t37) 70 (f31 14)) 71 (f31 3)) 72 (f31 4)) 73 (f31 15)) 74 t38) 75 (f31 5)) 76 t39) 16 t39) 77 t39) 78 t41) 79 t42) 80 (f31 0)) 81 (f31 1)) 82 t43) 83 t44) 84 (f31 2)) 85 (f31 14)) 86 (f31 15)) 87 (f31 5)) 88 t45) 89 t47) 90 (.int .i64 0)) w46) w40)) w32) (fun f35 w36 =>
        Rd Try.prog (WS.at w36) (sBin .add 3 true (f35 15) (.int .i64 1)) fun t73 =>
        Q30 .normal (F.upd (F.upd (F.upd f35 65 (f35 15)) 66 t73) 15 t73) w36))
        (Q30 (.exit 2) (F.upd (F.upd (F.upd f31 62 (f31 15)) 63 (f31 4)) 64 t33) w32))
       (zt_ 2 (zt_ 1 (seqQ (fun f74 w75 =>
      Rd Try.prog (WS.at w75) (sBin .add 3 true (f74 14) (.int .i64 1)) fun t76 =>
      Q26 .normal (F.upd (F.upd (F.upd f74 60 (f74 14)) 61 t76) 14 t76) w75) Q26)))
       (F.upd (F.upd (F.upd (F.upd f27 57 (f27 14)) 58 (f27 3)) 59 t29) 15 (.int .i64 1)) w28)
      (Q26 (.exit 0) (F.upd (F.upd (F.upd f27 57 (f27 14)) 58 (f27 3)) 59 t29) w28))
     (zt_ 0 (seqQ (fun f77 w78 =>
    k (f77 13) w78) (zr_ Try.prog [.tmp 12] k)))
     (F.upd (F.upd (F.upd (F.upd (F.upd (F.upd (F.upd (F.upd (F.upd (F.upd (F.upd (F.upd (F.upd (F.upd (F.upd (F.upd (F.upd (F.upd (F.upd (F.upd (F.upd (F.upd (F.upd (F.upd (F.upd (F.upd (F.upd (F.upd (F.upd (zm_ [v0, v1, v2, v3, v4, v5]) 12 (.slice none 0 0)) 21 v0) 22 t1) 23 t2) 24 t3) 25 v0) 26 t4) 27 t5) 28 t6) 29 v1) 30 v2) 31 v3) 32 v4) 33 t7) 34 t9) 35 t9) 36 t10) 37 t12) 38 t14) 39 v1) 40 t15) 41 t16) 43 v1) 44 t19) 45 t20) 46 t21) 13 (.slice none 0 0)) 56 v2) 14 v2) w13)))) w11) w8) w.drew
theorem body348 : Try.f348.body = some (zg_ Try.f348) := by kernel_rfl
theorem same348 (v0 v1 v2 v3 v4 v5 : Value) (k : Value → World → Prop) (w : World) : wpF Try.prog pl348 (zg_ Try.f348) (zr_ Try.prog Try.f348.results.toList k) (zm_ [v0, v1, v2, v3, v4, v5]) w = S348 v0 v1 v2 v3 v4 v5 k w := by kernel_rfl
theorem enter348 {v0 v1 v2 v3 v4 v5 : Value} {k : Value → World → Prop} {w : World} (h : S348 v0 v1 v2 v3 v4 v5 k w) : CallK Try.prog 348 [v0, v1, v2, v3, v4, v5] k w :=
  call_of_wpF (pl := pl348) zab_ Try.func348 body348 (by kernel_rfl) (of_decide_eq_true (by kernel_rfl)) (by kernel_rfl) (by kernel_rfl) (Eq.mpr (same348 v0 v1 v2 v3 v4 v5 k w) h)

def pl359 : Plans := fun _ => ⟨false, [], .nil⟩
def S359 (v0 v1 v2 : Value) (k : Value → World → Prop) (w : World) : Prop :=
 Rd Try.prog (WS.at w) (ze_ .len #[35] 3 [false] [v0]) fun t1 =>
 zfb_ [12, 13, 14, 15, 16, 17, 18, 19, 20, 21, 22, 23, 24, 7] (fun Q2 f3 w4 =>
  Rd Try.prog (WS.at w4) (sBin .gtr 3 true (f3 7) (.int .i64 0)) fun t5 =>
  za_ t5 true (fun k w' => k (f3 1) w') (fun t6 w7 =>
  za_ t5 true (fun k w' => k (f3 0) w') (fun t8 w9 =>
  za_ t5 true (fun k w' => k (f3 7) w') (fun t10 w11 =>
  za_ t5 true (fun k w' => Rd Try.prog (WS.at w11) (sBin .sub 3 true t10 (.int .i64 1)) fun v => k v w') (fun t12 w13 =>
  za_ t5 true (fun k w' => Rd Try.prog (WS.at w13) (zd_ 35 t8 t12) fun v => k v w') (fun t14 w15 =>
  za_ t5 true (fun k w' => Rd Try.prog (WS.at w15) (zc_ 27 t14) fun v => k v w') (fun t16 w17 =>
  za_ t5 true (fun k w' => CallK Try.prog 363 [t6, t16] k w') (fun t18 w19 =>
  Rd Try.prog (WS.at w19) (zw_ t5 t18 (.bool false)) fun t20 =>
  zi_ t20
   (Rd Try.prog (WS.at w19) (sBin .sub 3 true (f3 7) (.int .i64 1)) fun t21 =>
   Q2 .normal (F.upd (F.upd (F.upd (F.upd (F.upd (F.upd (F.upd (F.upd (F.upd (F.upd (F.upd (F.upd (F.upd (F.upd f3 12 (f3 7)) 13 t5) 14 t5) 15 t6) 16 t8) 17 t10) 18 t12) 19 t14) 20 t16) 21 t18) 22 t20) 23 (f3 7)) 24 t21) 7 t21) w19)
   (Q2 (.exit 0) (F.upd (F.upd (F.upd (F.upd (F.upd (F.upd (F.upd (F.upd (F.upd (F.upd (F.upd f3 12 (f3 7)) 13 t5) 14 t5) 15 t6) 16 t8) 17 t10) 18 t12) 19 t14) 20 t16) 21 t18) 22 t20) w19)) w17) w15) w13) w11) w9) w7) w4)
  (zt_ 0 (seqQ (fun f22 w23 =>
 Rd Try.prog (WS.at w23) (sBin .geq 3 false (f22 7) (f22 2)) fun t24 =>
 zi_ t24
  (k (f22 0) w23)
  (Do Try.prog (zh_ 35 0 []) (fun t25 w26 =>
  Rd Try.prog (WS.at w26) (zrb_ 35 (f22 0) (some (f22 7)) none none) fun t27 =>
  Do Try.prog (ze_ .append #[35, 35] 35 [false, false] [t25, t27]) (fun t28 w29 =>
  Do Try.prog (zh_ 35 0 []) (fun t30 w31 =>
  Rd Try.prog (WS.at w31) (zrb_ 35 (f22 0) none (some (f22 7)) none) fun t32 =>
  Do Try.prog (ze_ .append #[35, 35] 35 [false, false] [t30, t32]) (fun t33 w34 =>
  Do Try.prog (zh_ 35 1 [(0, (f22 1))]) (fun t35 w36 =>
  Do Try.prog (ze_ .append #[35, 35] 35 [false, false] [t33, t35]) (fun t37 w38 =>
  Do Try.prog (ze_ .append #[35, 35] 35 [false, false] [t37, t28]) (fun t39 w40 =>
  Rd Try.prog (WS.at w40) (ze_ .len #[35] 3 [false] [t39]) fun t41 =>
  Rd Try.prog (WS.at w40) (sBin .gtr 3 false t41 (f22 2)) fun t42 =>
  zi_ t42
   (Rd Try.prog (WS.at w40) (zrb_ 35 t39 none (some (f22 2)) none) fun t43 =>
   k t43 w40)
   (k t39 w40)) w38) w36) w34) w31) w29) w26) w23)) (zr_ Try.prog [.tmp 6] k)))
  (F.upd (F.upd (F.upd (F.upd (zm_ [v0, v1, v2]) 6 (.slice none 0 0)) 10 v0) 11 t1) 7 t1) w
theorem body359 : Try.f359.body = some (zg_ Try.f359) := by kernel_rfl
theorem same359 (v0 v1 v2 : Value) (k : Value → World → Prop) (w : World) : wpF Try.prog pl359 (zg_ Try.f359) (zr_ Try.prog Try.f359.results.toList k) (zm_ [v0, v1, v2]) w = S359 v0 v1 v2 k w := by kernel_rfl
theorem enter359 {v0 v1 v2 : Value} {k : Value → World → Prop} {w : World} (h : S359 v0 v1 v2 k w) : CallK Try.prog 359 [v0, v1, v2] k w :=
  call_of_wpF (pl := pl359) zab_ Try.func359 body359 (by kernel_rfl) (of_decide_eq_true (by kernel_rfl)) (by kernel_rfl) (by kernel_rfl) (Eq.mpr (same359 v0 v1 v2 k w) h)

end Go.Proofs.Ytegcjkhebecgbaa

namespace Go.Sh
open Go
structure Slots (F : Nat → Prop) (w : World) (ls : List (List Int)) (cells : List Value) : Prop where
  len : cells.length = ls.length
  cell : ∀ (j : Nat) (v : Value), cells[j]? = some v → ∃ Y c, v = .slice Y (rgt ls j).length c ∧ (rgt ls j).length ≤ c ∧ IntsF F w Y (rgt ls j)
theorem Slots.gr {F : Nat → Prop} {w w' : World} {ls : List (List Int)} {cells : List Value} (h : Slots F w ls cells) (g : Gr w w') : Slots F w' ls cells := ⟨h.len, fun j v hv => by
  obtain ⟨Y, c, h1, h2, h3⟩ := h.cell j v hv
  exact ⟨Y, c, h1, h2, h3.gr g⟩⟩
theorem Slots.nil (F : Nat → Prop) (w : World) : Slots F w [] [] := ⟨rfl, fun j v hv => by simp at hv⟩
theorem Slots.single {F : Nat → Prop} {w : World} {x : List Int} {Y : Option Addr} {c : Nat} (hc : x.length ≤ c) (h : IntsF F w Y x) : Slots F w [x] [.slice Y x.length c] := ⟨rfl, fun j v hv => by
  cases j with
  | zero =>
    obtain rfl : (.slice Y x.length c : Value) = v := by simpa using hv
    exact ⟨Y, c, rfl, hc, h⟩
  | succ j => simp at hv⟩
theorem Slots.append {F : Nat → Prop} {w : World} {ls ms : List (List Int)} {cells news : List Value} (h : Slots F w ls cells) (h' : Slots F w ms news) : Slots F w (ls ++ ms) (cells ++ news) := by
  refine ⟨by rw [List.length_append, List.length_append, h.len, h'.len], fun j v hv => ?_⟩
  by_cases hj : j < cells.length
  · rw [List.getElem?_append_left hj] at hv
    rw [zxh_ (by rw [← h.len]; exact hj)]
    exact h.cell j v hv
  · rw [List.getElem?_append_right (by omega)] at hv
    rw [ztk_ (by rw [← h.len]; omega), ← h.len]
    exact h'.cell _ v hv
theorem zyg_ {ls : List (List Int)} {m j : Nat} (h : j < m) : rgt (ls.take m) j = rgt ls j := by
  simp [rgt, List.getD_eq_getElem?_getD, List.getElem?_take, h]
theorem rgt_drop {ls : List (List Int)} {m j : Nat} : rgt (ls.drop m) j = rgt ls (m + j) := by
  simp [rgt, List.getD_eq_getElem?_getD, List.getElem?_drop]
theorem Slots.take {F : Nat → Prop} {w : World} {ls : List (List Int)} {cells : List Value} (h : Slots F w ls cells) (m : Nat) : Slots F w (ls.take m) (cells.take m) := by
  refine ⟨by rw [List.length_take, List.length_take, h.len], fun j v hv => ?_⟩
  rw [List.getElem?_take] at hv
  split at hv
  · rename_i hj
    rw [zyg_ hj]
    exact h.cell j v hv
  · cases hv
theorem Slots.drop {F : Nat → Prop} {w : World} {ls : List (List Int)} {cells : List Value} (h : Slots F w ls cells) (m : Nat) : Slots F w (ls.drop m) (cells.drop m) := by
  refine ⟨by rw [List.length_drop, List.length_drop, h.len], fun j v hv => ?_⟩
  rw [List.getElem?_drop] at hv
  rw [rgt_drop]
  exact h.cell _ v hv
theorem Slots.one {F : Nat → Prop} {w : World} {ls : List (List Int)} {cells : List Value} (h : Slots F w ls cells) : ∀ v ∈ cells, v.oneCell' = true := fun v hv => by
  obtain ⟨j, hj⟩ := List.getElem?_of_mem hv
  obtain ⟨Y, c, rfl, _⟩ := h.cell j v hj
  rfl
structure IssF (F : Nat → Prop) (w : World) (X : Option Addr) (ls : List (List Int)) : Prop where
  le : ls.length ≤ 9223372036854775807
  ptr : 0 < ls.length → X = some (ad X)
  foot : 0 < ls.length → F (ad X).block
  row : ∀ j, j < ls.length → ∃ Y c, w.cell? ((ad X).add j) = some (.slice Y (rgt ls j).length c) ∧ (rgt ls j).length ≤ c ∧ IntsF F w Y (rgt ls j)
section
variable {F : Nat → Prop} {w w' : World} {X : Option Addr} {ls : List (List Int)}
theorem IssF.is (h : IssF F w X ls) : Intss w X ls := ⟨h.le, h.ptr, fun j hj => by
  obtain ⟨Y, c, h1, h2, h3⟩ := h.row j hj
  exact ⟨Y, c, h1, h2, h3.is⟩⟩
theorem IssF.gr (h : IssF F w X ls) (g : Gr w w') : IssF F w' X ls := ⟨h.le, h.ptr, h.foot, fun j hj => by
  obtain ⟨Y, c, h1, h2, h3⟩ := h.row j hj
  exact ⟨Y, c, g.cell h1, h2, h3.gr g⟩⟩
theorem IssF.mono {E : Nat → Prop} (h : IssF F w X ls) (he : ∀ b, F b → E b) : IssF E w X ls := ⟨h.le, h.ptr, fun hp => he _ (h.foot hp), fun j hj => by
  obtain ⟨Y, c, h1, h2, h3⟩ := h.row j hj
  exact ⟨Y, c, h1, h2, h3.mono he⟩⟩
theorem cell_lt {a : Addr} {v : Value} (h : w.cell? a = some v) : a.block < w.heap.size := by
  unfold World.cell? at h
  cases hb : w.heap[a.block]? with
  | none => rw [hb] at h; cases h
  | some _ => exact (Array.getElem?_eq_some_iff.1 hb).1
theorem IntsF.lt {xs : List Int} (h : IntsF F w X xs) : IntsF (fun b => F b ∧ b < w.heap.size) w X xs := ⟨h.is, fun hp => ⟨h.foot hp, by
  have := cell_lt (h.is.cell 0 hp)
  rwa [zkc_] at this⟩⟩
theorem IssF.lt (h : IssF F w X ls) : IssF (fun b => F b ∧ b < w.heap.size) w X ls := ⟨h.le, h.ptr, fun hp => ⟨h.foot hp, by
  obtain ⟨Y, c, h1, _⟩ := h.row 0 hp
  have := cell_lt h1
  rwa [zkc_] at this⟩, fun j hj => by
  obtain ⟨Y, c, h1, h2, h3⟩ := h.row j hj
  exact ⟨Y, c, h1, h2, h3.lt⟩⟩
theorem zem_ {a : Addr} {v : Value} (h : w.cell? a = some v) (hs : w'.heap[a.block]? = w.heap[a.block]?) : w'.cell? a = some v := by
  unfold World.cell? at h ⊢
  rw [hs]
  exact h
theorem IntsF.same {xs : List Int} (h : IntsF F w X xs) (hs : ∀ q, F q → w'.heap[q]? = w.heap[q]?) : IntsF F w' X xs :=
  ⟨⟨h.is.le, h.is.ptr, fun j hj => zem_ (h.is.cell j hj) (hs _ (by rw [zkc_]; exact h.foot (by omega)))⟩, h.foot⟩
theorem IssF.same (h : IssF F w X ls) (hs : ∀ q, F q → w'.heap[q]? = w.heap[q]?) : IssF F w' X ls := ⟨h.le, h.ptr, h.foot, fun j hj => by
  obtain ⟨Y, c, h1, h2, h3⟩ := h.row j hj
  exact ⟨Y, c, zem_ h1 (hs _ (by rw [zkc_]; exact h.foot (by omega))), h2, h3.same hs⟩⟩
theorem IssF.cells (h : IssF F w X ls) : ∃ cells, Src w X cells ∧ Slots F w ls cells := by
  have key : ∀ n, n ≤ ls.length → ∃ cells : List Value, cells.length = n ∧ ∀ (j : Nat) (v : Value), cells[j]? = some v → w.cell? ((ad X).add j) = some v ∧ ∃ Y c, v = .slice Y (rgt ls j).length c ∧ (rgt ls j).length ≤ c ∧ IntsF F w Y (rgt ls j) := by
    intro n
    induction n with
    | zero => exact fun _ => ⟨[], rfl, fun j v hv => by simp at hv⟩
    | succ n ih =>
      intro hn
      obtain ⟨cells, h1, h2⟩ := ih (by omega)
      obtain ⟨Y, c, h3, h4, h5⟩ := h.row n (by omega)
      refine ⟨cells ++ [.slice Y (rgt ls n).length c], by simp [h1], fun j v hv => ?_⟩
      by_cases hj : j < n
      · rw [List.getElem?_append_left (by omega)] at hv
        exact h2 j v hv
      · rw [List.getElem?_append_right (by omega), h1] at hv
        have hlt := (List.getElem?_eq_some_iff.1 hv).1
        obtain rfl : j = n := by simp at hlt; omega
        obtain rfl : (.slice Y (rgt ls j).length c : Value) = v := by simpa using hv
        exact ⟨h3, Y, c, rfl, h4, h5⟩
  obtain ⟨cells, h1, h2⟩ := key ls.length (Nat.le_refl _)
  refine ⟨cells, ⟨fun hne => h.ptr ?_, fun j u hu => (h2 j u hu).1⟩, h1, fun j v hv => (h2 j v hv).2⟩
  cases cells with
  | nil => exact absurd rfl hne
  | cons v cells => rw [← h1]; simp
theorem IssF.of {cells : List Value} (hs : Src w X cells) (h : Slots F w ls cells) (hl : ls.length ≤ 9223372036854775807) (hf : 0 < ls.length → F (ad X).block) : IssF F w X ls := by
  refine ⟨hl, fun hp => hs.ptr fun e => ?_, hf, fun j hj => ?_⟩
  · have := h.len
    rw [e] at this
    simp at this
    omega
  · have hlt : j < cells.length := by rw [h.len]; exact hj
    obtain ⟨Y, c, h1, h2, h3⟩ := h.cell j _ (List.getElem?_eq_getElem hlt)
    refine ⟨Y, c, ?_, h2, h3⟩
    rw [← h1]
    exact hs.cell j _ (List.getElem?_eq_getElem hlt)
theorem IssF.nil (F : Nat → Prop) (w : World) : IssF F w none [] := IssF.of (Src.nil w none) (Slots.nil F w) (by simp) fun h => by simp at h
end
theorem IntsF.nil (F : Nat → Prop) (w : World) : IntsF F w none [] := ⟨⟨by simp, fun h => by simp at h, fun j hj => by simp at hj⟩, fun h => by simp at h⟩
theorem OwnSS.readF {e1 e2 : Nat} {w : World} {B : Nat} {X : Option Addr} {c : Nat} {ls : List (List Int)} {ps : Nat → Option Addr × Nat} (h : OwnSS e1 e2 w B X c ls ps) : IssF (fun q => B ≤ q) w X ls := by
  obtain ⟨⟨cells, hr, hc⟩, ho, ht⟩ := h
  have hcap := hr.cap
  refine ⟨by omega, fun hp => hr.ptr hp, fun hp => ?_, fun j hj => ?_⟩
  · have := hr.ptr hp
    exact (hr.ge (q := (ad X).block) (by rw [this]; rfl)).1
  · have hc' := Row.cap (ho j hj)
    exact ⟨(ps j).1, (ps j).2, hr.src.cell _ _ (hc j hj), by omega, (IntsF.of_own (ho j hj)).mono fun b hb => hb.1⟩
def rdy (B S : Nat) (X : Option Addr) (ls : List (List Int)) : Thing := ⟨fun w => IssF (fun q => B ≤ q ∧ q < S) w X ls, fun q => B ≤ q ∧ q < S⟩
theorem Apt.addRdy {w0 w w' : World} {L : List Thing} {X : Option Addr} {ls : List (List Int)} (H : Apt w0 w L) (g : Gr w w') (h : IssF (fun q => w.heap.size ≤ q) w' X ls) : Apt w0 w' (L ++ [rdy w.heap.size w'.heap.size X ls]) :=
  H.add g _ (fun q hq => hq.1) (fun q hq => hq.2) fun w'' hs => h.lt.same hs
theorem Apt.rdy {w0 w : World} {L : List Thing} (H : Apt w0 w L) (i : Nat) {B S : Nat} {X : Option Addr} {ls : List (List Int)} (hi : L[i]? = some (Sh.rdy B S X ls)) : IssF (fun q => B ≤ q ∧ q < S) w X ls := H.get i hi
theorem sub_own0 {w : World} {B e n c sz : Nat} {X : Option Addr} {cells : List Value} (h : Row w B e sz X n c cells) : sub X 0 c 1 = X := by
  unfold Sh.sub
  split
  · rfl
  · rcases h.at_ with ⟨rfl, _⟩ | ⟨g, rfl, _⟩
    · rfl
    · simp [zq34]
theorem row_foot {w : World} {B e sz n c : Nat} {X : Option Addr} {cells : List Value} (h : Row w B e sz X n c cells) (hn : 0 < n) : B ≤ (ad X).block := by
  have := h.ptr hn
  exact (h.ge (q := (ad X).block) (by rw [this]; rfl)).1
def insV (M : Nat) (ls : List (List Int)) (x : List Int) (m : Nat) : List (List Int) := if M ≤ m then ls else (ls.take m ++ x :: ls.drop m).take M
structure InsAt (ls : List (List Int)) (x : List Int) (m : Nat) : Prop where
  le : m ≤ ls.length
  more : ∀ j, m ≤ j → j < ls.length → ltL x (rgt ls j)
  less : 0 < m → ¬ ltL x (rgt ls (m - 1))
theorem zak_ {ls : List (List Int)} {y : List Int} (h : y ∈ ls) : ∃ j, j < ls.length ∧ rgt ls j = y := by
  obtain ⟨j, hj, e⟩ := List.getElem_of_mem h
  exact ⟨j, hj, by rw [zgi_ hj, e]⟩
theorem rise_at {ls : List (List Int)} (h : Rise ls) {i j : Nat} (hij : i < j) (hj : j < ls.length) : ltL (rgt ls i) (rgt ls j) := by
  rw [zgi_ (by omega), zgi_ hj]
  exact List.pairwise_iff_getElem.1 h i j (by omega) hj hij
theorem Firsts.ins {M m : Nat} {S : List Int → Prop} {ls : List (List Int)} {x : List Int} (h : Firsts M S ls) (hx : ¬ S x) (hi : InsAt ls x m) : Firsts M (fun z => S z ∨ z = x) (insV M ls x m) := by
  have e : ls = ls.take m ++ ls.drop m := (List.take_append_drop m ls).symm
  have hl : (ls.take m).length = m := by rw [List.length_take]; have := hi.le; omega
  rw [e] at h
  have := Firsts.add (x := x) h (fun y hy => ?_) fun y hy => ?_
  · unfold insV
    rw [hl, ← e] at this
    exact this
  · obtain ⟨j, hj, rfl⟩ := zak_ hy
    rw [hl] at hj
    rw [zyg_ hj]
    have hr : Rise ls := by rw [e]; exact h.rise
    have hle := hi.le
    have hlast := hi.less (by omega)
    have hmem : S (rgt ls (m - 1)) := h.mem _ (by rw [← e]; exact zrf_ (by omega))
    have hlt : ltL (rgt ls (m - 1)) x := by
      rcases ltL_tri (rgt ls (m - 1)) x with h1 | h1 | h1
      · exact h1
      · exact absurd (h1 ▸ hmem) hx
      · exact absurd h1 hlast
    by_cases hjm : j = m - 1
    · rw [hjm]; exact hlt
    · exact zfh_ (rise_at hr (i := j) (j := m - 1) (by omega) (by omega)) hlt
  · obtain ⟨j, hj, rfl⟩ := zak_ hy
    rw [List.length_drop] at hj
    rw [rgt_drop]
    exact hi.more _ (by omega) (by omega)
end Go.Sh
namespace Go.Proofs.Ytegcjkhebecgbaa
open Go Go.Sh Go.RowKit
theorem l11Insert_c {F : Nat → Prop} {w : World} {X Y : Option Addr} {c d n n' M : Nat} {ls : List (List Int)} {x : List Int} (hFn : ∀ q, w.heap.size ≤ q → F q) (hX : IssF F w X ls) (hY : IntsF F w Y x) (hn : n = ls.length) (hn' : n' = x.length) (hc : ls.length ≤ c) (hd : x.length ≤ d) (hl : ls.length ≤ 1000000) {k : Value → World → Prop}
    (hk : ∀ w' X' c' m, InsAt ls x m → Gr w w' → IssF F w' X' (insV M ls x m) → (insV M ls x m).length ≤ c' → k (.slice X' (insV M ls x m).length c') w') :
    CallK Try.prog 359 [.slice X n c, .slice Y n' d, .int .i64 (M : Int)] k w := by
  subst hn hn'
  refine enter359 ?_
  unfold S359
  simp only [zq18, zq19, zq20, zq21, zq22, zq23, zq24, zq25, zq26, zq27, zq28, zq4, zq3, zq1, zq2, zq0, zq29, zq30, zq14, zq15, zq16, zq17, zq13, zq10, zq12, zq11, zq7, zq5, zq6, zq9, zq8, zq31, zq32, ite_T, ite_F, zq33, zq34, zq35, len27, len24, len35, fa26_0, fa26_1, fa26_2, fa33_0, fa33_1, fa124_0, fa124_1, fa274_0, fa274_1, fa274_2, Nat.reduceEqDiff]
  refine zbf_ (fun m f w' => f 7 = .int .i64 ((m : Nat) : Int) ∧ Gr w w' ∧ m ≤ ls.length ∧ ∀ j, m ≤ j → j < ls.length → ltL x (rgt ls j)) (fun m => m) ls.length ⟨rfl, Gr.refl w, Nat.le_refl _, fun j h1 h2 => by omega⟩ ?_
  rintro m f w1 N hag ⟨h7, g1, hm, hmore⟩ hN
  have f0 : f 0 = .slice X ls.length c := hag 0 (by decide)
  have f1 : f 1 = .slice Y x.length d := hag 1 (by decide)
  have f2 : f 2 = .int .i64 (M : Int) := hag 2 (by decide)
  have fin : ∀ w2, Gr w w2 → InsAt ls x m → zi_ (.bool (decide ((M : Int) ≤ (m : Int))))
      (k (.slice X ls.length c) w2)
      (Do Try.prog (zh_ 35 0 []) (fun t25 w26 =>
      Rd Try.prog (WS.at w26) (zrb_ 35 (.slice X ls.length c) (some (.int .i64 (m : Int))) none none) fun t27 =>
      Do Try.prog (ze_ .append #[35, 35] 35 [false, false] [t25, t27]) (fun t28 w29 =>
      Do Try.prog (zh_ 35 0 []) (fun t30 w31 =>
      Rd Try.prog (WS.at w31) (zrb_ 35 (.slice X ls.length c) none (some (.int .i64 (m : Int))) none) fun t32 =>
      Do Try.prog (ze_ .append #[35, 35] 35 [false, false] [t30, t32]) (fun t33 w34 =>
      Do Try.prog (zh_ 35 1 [(0, (.slice Y x.length d))]) (fun t35 w36 =>
      Do Try.prog (ze_ .append #[35, 35] 35 [false, false] [t33, t35]) (fun t37 w38 =>
      Do Try.prog (ze_ .append #[35, 35] 35 [false, false] [t37, t28]) (fun t39 w40 =>
      Rd Try.prog (WS.at w40) (ze_ .len #[35] 3 [false] [t39]) fun t41 =>
      Rd Try.prog (WS.at w40) (sBin .gtr 3 false t41 (.int .i64 (M : Int))) fun t42 =>
      zi_ t42
       (Rd Try.prog (WS.at w40) (zrb_ 35 t39 none (some (.int .i64 (M : Int))) none) fun t43 =>
       k t43 w40)
       (k t39 w40)) w38) w36) w34) w31) w29) w26) w2) := by
    intro w2 g2 hi
    by_cases hM : M ≤ m
    · simp only [show (M : Int) ≤ (m : Int) from by omega, decide_true, go_sem, Nat.reduceEqDiff]
      have := hk w2 X c m hi g2
      unfold insV at this
      rw [if_pos hM] at this
      exact this (hX.gr g2) hc
    simp only [show ¬ ((M : Int) ≤ (m : Int)) from by omega, decide_false, zq18, zq19, zq20, zq21, zq22, zq23, zq24, zq25, zq26, zq27, zq28, zq4, zq3, zq1, zq2, zq0, zq29, zq30, zq14, zq15, zq16, zq17, zq13, zq10, zq12, zq11, zq7, zq5, zq6, zq9, zq8, zq31, zq32, ite_T, ite_F, zq33, zq34, zq35, len27, len24, len35, fa26_0, fa26_1, fa26_2, fa33_0, fa33_1, fa124_0, fa124_1, fa274_0, fa274_1, fa274_2, Nat.reduceEqDiff]
    obtain ⟨cells, hS, hT⟩ := hX.cells
    have hcl := hT.len
    have H := Apt.nil w2
    refine zjd_ H u35 zgf_ [] (by decide) (by decide) (by simp [Instr.fill, madeCells]) rfl fun b1 w3 H => ?_
    simp only [List.nil_append] at H
    refine rdi (sll35 (by omega) (by omega)) ?_
    have hS1 := (hS.gr (zf_ g2 H.gr)).sub (l := m) (c := c) (sz := 1) (by omega) (by omega) (ls.length - m)
    rw [Nat.mul_one, List.take_of_length_le (by rw [List.length_drop]; omega)] at hS1
    refine zuh_ H 0 rfl u35 zgf_ rfl (by decide) hS1 (m := ls.length - m) (by rw [List.length_drop]; omega) (hT.drop m).one (by omega) (by omega) fun X1 c1 w4 H => ?_
    simp only [List.nil_append, List.cons_append, List.set_cons_zero, List.set_cons_succ] at H
    refine zjd_ H u35 zgf_ [] (by decide) (by decide) (by simp [Instr.fill, madeCells]) rfl fun b2 w5 H => ?_
    simp only [List.nil_append, List.cons_append, List.set_cons_zero, List.set_cons_succ] at H
    refine rdi (slh35 (by omega) (by omega)) ?_
    have hS2 := (hS.gr (zf_ g2 H.gr)).sub (l := 0) (c := c) (sz := 1) (by omega) (by omega) m
    rw [Nat.zero_mul, List.drop_zero] at hS2
    refine zuh_ H 1 rfl u35 zgf_ rfl (by decide) hS2 (m := m) (by rw [List.length_take]; omega) (hT.take m).one (by omega) (by omega) fun X2 c2 w6 H => ?_
    simp only [List.nil_append, List.cons_append, List.set_cons_zero, List.set_cons_succ] at H
    refine zjd_ H u35 zgf_ [.slice Y x.length d] (by decide) (by decide) (by simp [Instr.fill, madeCells, Value.cells, rng1]) rfl fun b3 w7 H => ?_
    simp only [List.nil_append, List.cons_append, List.set_cons_zero, List.set_cons_succ] at H
    refine zuh_ H 1 rfl u35 zgf_ rfl (by decide) (H.row 2 rfl).src (m := 1) rfl (by intro v hv; simp at hv; subst hv; rfl) (by omega) (by omega) fun X3 c3 w8 H => ?_
    simp only [List.nil_append, List.cons_append, List.set_cons_zero, List.set_cons_succ] at H
    refine zuh_ H 1 rfl u35 zgf_ rfl (by decide) (H.row 0 rfl).src (m := 0 + (ls.length - m)) (by rw [List.length_drop]; omega) (hT.drop m).one (by omega) (by omega) fun X4 c4 w9 H => ?_
    simp only [List.nil_append, List.cons_append, List.set_cons_zero, List.set_cons_succ] at H
    have gall := zf_ g2 H.gr
    have hrow := H.row 1 rfl
    have hcap := Row.cap hrow
    have hsl : Slots F w9 (ls.take m ++ x :: ls.drop m) (cells.take m ++ [.slice Y x.length d] ++ cells.drop m) := by
      have := (((hT.take m).append (Slots.single hd hY)).append (hT.drop m)).gr gall
      simpa using this
    have hlen : (ls.take m ++ x :: ls.drop m).length = ls.length + 1 := by simp; omega
    have hft : F (ad X4).block := hFn _ (Nat.le_trans g2.size (row_foot hrow (by omega)))
    have e0 : 0 + m + 1 + (0 + (ls.length - m)) = ls.length + 1 := by omega
    rw [e0] at hcap
    simp only [e0, zq18, zq19, zq20, zq21, zq22, zq23, zq24, zq25, zq26, zq27, zq28, zq4, zq3, zq1, zq2, zq0, zq29, zq30, zq14, zq15, zq16, zq17, zq13, zq10, zq12, zq11, zq7, zq5, zq6, zq9, zq8, zq31, zq32, ite_T, ite_F, zq33, zq34, zq35, len27, len24, len35, fa26_0, fa26_1, fa26_2, fa33_0, fa33_1, fa124_0, fa124_1, fa274_0, fa274_1, fa274_2, Nat.reduceEqDiff]
    have h1 := hk w9
    unfold insV at h1
    by_cases hM2 : M < ls.length + 1
    · simp only [show ((ls.length + 1 : Nat) : Int) > (M : Int) from by omega, show (M : Int) < ((ls.length + 1 : Nat) : Int) from by omega, decide_true, go_sem, Nat.reduceEqDiff]
      refine rdi (slh35 (by omega) (by omega)) ?_
      have h2 := h1 (sub X4 0 c4 1) c4 m hi gall
      rw [if_neg hM, List.length_take, hlen, Nat.min_eq_left (by omega)] at h2
      rw [show ((M : Nat) : Int).toNat = M from by omega]
      refine h2 ?_ (by omega)
      have hS3 := hrow.src.sub (l := 0) (c := c4) (sz := 1) (by omega) (by have := hrow.len; omega) M
      rw [Nat.zero_mul, List.drop_zero] at hS3
      refine IssF.of hS3 (hsl.take M) (by rw [List.length_take, hlen]; omega) fun _ => ?_
      rw [sub_own0 hrow]
      exact hft
    · simp only [show ¬ (((ls.length + 1 : Nat) : Int) > (M : Int)) from by omega, show ¬ ((M : Int) < ((ls.length + 1 : Nat) : Int)) from by omega, decide_false, go_sem, Nat.reduceEqDiff]
      have h2 := h1 X4 c4 m hi gall
      rw [if_neg hM, List.take_of_length_le (by rw [hlen]; omega), hlen] at h2
      exact h2 (IssF.of hrow.src hsl (by rw [hlen]; omega) fun _ => hft) (by omega)
  simp only [h7, f0, f1, f2, zq18, zq19, zq20, zq21, zq22, zq23, zq24, zq25, zq26, zq27, zq28, zq4, zq3, zq1, zq2, zq0, zq29, zq30, zq14, zq15, zq16, zq17, zq13, zq10, zq12, zq11, zq7, zq5, zq6, zq9, zq8, zq31, zq32, ite_T, ite_F, zq33, zq34, zq35, len27, len24, len35, fa26_0, fa26_1, fa26_2, fa33_0, fa33_1, fa124_0, fa124_1, fa274_0, fa274_1, fa274_2, Nat.reduceEqDiff]
  by_cases hpos : 0 < m
  case neg =>
    simp only [show ¬ ((m : Int) > 0) from by omega, show ¬ ((0 : Int) < (m : Int)) from by omega, decide_false, zq18, zq19, zq20, zq21, zq22, zq23, zq24, zq25, zq26, zq27, zq28, zq4, zq3, zq1, zq2, zq0, zq29, zq30, zq14, zq15, zq16, zq17, zq13, zq10, zq12, zq11, zq7, zq5, zq6, zq9, zq8, zq31, zq32, ite_T, ite_F, zq33, zq34, zq35, len27, len24, len35, fa26_0, fa26_1, fa26_2, fa33_0, fa33_1, fa124_0, fa124_1, fa274_0, fa274_1, fa274_2, Nat.reduceEqDiff]
    exact fin w1 g1 ⟨hm, hmore, fun h => absurd h hpos⟩
  simp only [show ((m : Int) > 0) from by omega, show ((0 : Int) < (m : Int)) from by omega, decide_true, zq18, zq19, zq20, zq21, zq22, zq23, zq24, zq25, zq26, zq27, zq28, zq4, zq3, zq1, zq2, zq0, zq29, zq30, zq14, zq15, zq16, zq17, zq13, zq10, zq12, zq11, zq7, zq5, zq6, zq9, zq8, zq31, zq32, ite_T, ite_F, zq33, zq34, zq35, len27, len24, len35, fa26_0, fa26_1, fa26_2, fa33_0, fa33_1, fa124_0, fa124_1, fa274_0, fa274_1, fa274_2, Nat.reduceEqDiff]
  rw [zj_ (by omega) (by omega), show ((m : Int) - 1) = ((m - 1 : Nat) : Int) from by omega]
  obtain ⟨Z, cz, t1, t2, t3⟩ := hX.row (m - 1) (by omega)
  refine rdi (zce_ hX.ptr (by omega)) (rdi (ld27 (g1.cell t1)) ?_)
  refine l11Less_c (hY.is.gr g1) (t3.is.gr g1) rfl rfl fun w2 g2 => ?_
  by_cases hlt : cmpL x (rgt ls (m - 1)) < 0
  case neg =>
    simp only [hlt, decide_false, zq18, zq19, zq20, zq21, zq22, zq23, zq24, zq25, zq26, zq27, zq28, zq4, zq3, zq1, zq2, zq0, zq29, zq30, zq14, zq15, zq16, zq17, zq13, zq10, zq12, zq11, zq7, zq5, zq6, zq9, zq8, zq31, zq32, ite_T, ite_F, zq33, zq34, zq35, len27, len24, len35, fa26_0, fa26_1, fa26_2, fa33_0, fa33_1, fa124_0, fa124_1, fa274_0, fa274_1, fa274_2, Nat.reduceEqDiff]
    exact fin w2 (zf_ g1 g2) ⟨hm, hmore, fun _ => hlt⟩
  simp only [hlt, decide_true, zq18, zq19, zq20, zq21, zq22, zq23, zq24, zq25, zq26, zq27, zq28, zq4, zq3, zq1, zq2, zq0, zq29, zq30, zq14, zq15, zq16, zq17, zq13, zq10, zq12, zq11, zq7, zq5, zq6, zq9, zq8, zq31, zq32, ite_T, ite_F, zq33, zq34, zq35, len27, len24, len35, fa26_0, fa26_1, fa26_2, fa33_0, fa33_1, fa124_0, fa124_1, fa274_0, fa274_1, fa274_2, Nat.reduceEqDiff]
  refine hN (m - 1) _ _ ⟨rfl, zf_ g1 g2, by omega, fun j h1 h2 => ?_⟩ (by omega)
  by_cases hj : j = m - 1
  · subst hj; exact hlt
  · exact hmore j (by omega) h2
end Go.Proofs.Ytegcjkhebecgbaa

namespace Go.Sh
open Go
theorem Firsts.none {M : Nat} {S : List Int → Prop} (h : Firsts M S []) (hM : 0 < M) (x : List Int) : ¬ S x := fun hx => by
  rcases h.all x hx with h1 | ⟨h1, _⟩
  · simp at h1
  · simp at h1
    omega
theorem Firsts.single {M : Nat} (hM : 0 < M) (x : List Int) : Firsts M (fun z => z = x) [x] :=
  ⟨List.pairwise_singleton _ _, fun y hy => by simpa using hy, by simp; omega, fun y hy => .inl (by simp [show y = x from hy])⟩
theorem Under.mono {M : Nat} {S S' : List Int → Prop} {x : List Int} (h : Under M S x) (hs : ∀ y, S y → S' y) : Under M S' x := by
  obtain ⟨ys, h1, h2, h3⟩ := h
  exact ⟨ys, h1, h2, fun y hy => ⟨hs y (h3 y hy).1, (h3 y hy).2⟩⟩
theorem rise_inj {ls : List (List Int)} (h : Rise ls) {i j : Nat} (hi : i < ls.length) (hj : j < ls.length) (e : rgt ls i = rgt ls j) : i = j := by
  rcases Nat.lt_trichotomy i j with h1 | h1 | h1
  · have := rise_at h h1 hj
    rw [e] at this
    exact absurd this (ztd_ _)
  · exact h1
  · have := rise_at h h1 hi
    rw [e] at this
    exact absurd this (ztd_ _)
def zwf_ (F R : List (List Int)) (a b : Nat) : List (List Int) := prodL (F.take a) R ++ (R.take b).map (rgt F a ++ ·)
theorem partL_zero (F R : List (List Int)) : zwf_ F R 0 0 = [] := by simp [zwf_, prodL]
theorem partL_step {F R : List (List Int)} {a b : Nat} (hb : b < R.length) : zwf_ F R a (b + 1) = zwf_ F R a b ++ [rgt F a ++ rgt R b] := by
  unfold zwf_
  rw [zad_ hb, List.map_append, List.append_assoc]
  rfl
theorem partL_row {F R : List (List Int)} {a b : Nat} (ha : a < F.length) (hb : R.length ≤ b) : zwf_ F R a b = zwf_ F R (a + 1) 0 := by
  unfold zwf_ prodL
  rw [zad_ ha, List.flatMap_append, List.take_of_length_le hb]
  simp
theorem partL_done {F R : List (List Int)} {a : Nat} (ha : F.length ≤ a) : zwf_ F R a 0 = prodL F R := by
  unfold zwf_
  rw [List.take_of_length_le ha]
  simp
theorem partL_mem {F R : List (List Int)} {a b : Nat} (ha : a < F.length) {x : List Int} (h : x ∈ zwf_ F R a b) : ∃ i j, i < F.length ∧ j < R.length ∧ x = rgt F i ++ rgt R j ∧ (i < a ∨ (i = a ∧ j < b)) := by
  rcases List.mem_append.1 h with h | h
  · obtain ⟨u, v, hu, hv, rfl⟩ := mem_prodL.1 h
    obtain ⟨i, hi, rfl⟩ := zak_ hu
    obtain ⟨j, hj, rfl⟩ := zak_ hv
    rw [List.length_take] at hi
    rw [zyg_ (by omega)]
    exact ⟨i, j, by omega, hj, rfl, .inl (by omega)⟩
  · obtain ⟨v, hv, rfl⟩ := List.mem_map.1 h
    obtain ⟨j, hj, rfl⟩ := zak_ hv
    rw [List.length_take] at hj
    rw [zyg_ (by omega)]
    exact ⟨a, j, ha, by omega, rfl, .inr ⟨rfl, by omega⟩⟩
theorem partL_new {A : List Int → Prop} (hA : zxj_ A) {F R : List (List Int)} (hF : Rise F) (hR : Rise R) (hm : ∀ a ∈ F, A a) {a b : Nat} (ha : a < F.length) (hb : b < R.length) : rgt F a ++ rgt R b ∉ zwf_ F R a b := by
  intro h
  obtain ⟨i, j, hi, hj, e, hlt⟩ := partL_mem ha h
  have e1 := hA _ _ _ _ (hm _ (zrf_ ha)) (hm _ (zrf_ hi)) e
  have e2 := rise_inj hF ha hi e1
  subst e2
  have e3 := rise_inj hR hb hj (List.append_cancel_left e)
  omega
theorem Firsts.part {M : Nat} {S A B : List Int → Prop} {F R ls : List (List Int)} (hA : zxj_ A) (hF : Firsts M A F) (hR : Firsts M B R) (h : Firsts M (fun z => S z ∨ z ∈ prodL F R) ls) : Firsts M (fun z => S z ∨ ProdS A B z) ls := by
  refine h.more (fun z hz => ?_) fun z hz => ?_
  · rcases hz with hz | hz
    · exact .inl hz
    · obtain ⟨a, b, ha, hb, rfl⟩ := mem_prodL.1 hz
      exact .inr ⟨a, b, hF.mem a ha, hR.mem b hb, rfl⟩
  · rcases hz with hz | hz
    · exact .inl (.inl hz)
    · rcases prod_under hA hF hR hz with h1 | h1
      · exact .inl (.inr h1)
      · exact .inr (h1.mono fun y hy => .inr hy)
section
variable {rs : List RuleL} {ws : List Int}
theorem partD_none {x : Int} {xs : List Int} {i j s m k : Nat} (h : ∀ t, ¬ Der rs ws (.inr xs) m j (s - k) t) (t : List Int) : ¬ PartD rs ws x xs i j s m k t := by
  rintro ⟨a, b, _, h2, _⟩
  exact h b h2
theorem der_row0 {i j s M : Nat} (hM : 0 < M) (h : i = j ∧ s = 0) : Firsts M (Der rs ws (.inr []) i j s) [[]] :=
  (Firsts.single hM []).congr fun x => by rw [der_nil]; exact ⟨fun h' => h'.2.2, fun e => ⟨h.1, h.2, e⟩⟩
end
end Go.Sh

namespace Go.Proofs.Ytegcjkhebecgbaa
open Go Go.Sh

def pl333 : Plans := fun i => match i with
  | 10 => ⟨true, [9], .step 0 .any (.step 1 .any (.step 2 .any (.step 3 .held (.step 4 .any (.step 5 .any (.step 6 .any (.step 7 .one (.step 8 .any (.step 9 .last (.nil))))))))))⟩
  | 26 => ⟨true, [26], .step 0 .any (.step 1 .any (.step 2 .held (.step 3 .any (.step 4 .held (.step 5 .any (.step 6 .any (.step 7 .any (.step 8 .any (.step 9 .any (.step 10 .any (.step 11 .held (.step 12 .any (.step 13 .any (.step 14 .any (.step 15 .any (.step 16 .any (.step 17 .held (.step 18 .any (.step 19 .any (.step 20 .any (.step 21 .any (.step 22 .one (.step 23 .any (.step 24 .one (.step 25 .any (.step 26 .last (.nil)))))))))))))))))))))))))))⟩
  | _ => ⟨false, [], .nil⟩
def S333 (v0 v1 v2 : Value) (k : Value → World → Prop) (w : World) : Prop :=
 Do Try.prog (sBox 26 v0) (fun t1 w2 =>
 Rd Try.prog (WS.at w2) (ze_ .len #[27] 3 [false] [v1]) fun t3 =>
 Rd Try.prog (WS.at w2) (sBin .add 3 true t3 (.int .i64 1)) fun t4 =>
 Rd Try.prog (WS.at w2) (zb_ 26 t1 0) fun t5 =>
 Rd Try.prog (WS.at w2) (zc_ 3 t5) fun t6 =>
 Do Try.prog (zvc_ 271 t6 t6) (fun t7 w8 =>
 Rd Try.prog (WS.at w8) (ze_ .len #[271] 3 [false] [t7]) fun t9 =>
 zfb_ [26, 27, 9, 28, 29, 30, 31, 32, 33, 34, 35, 36, 37, 38, 39, 40, 41, 42, 10, 43, 44, 45, 46, 47, 48, 49, 50, 51, 52, 40, 53, 25] (fun Q10 f11 w12 =>
  Rd Try.prog (WS.at w12) (sBin .lss 3 false (f11 25) (f11 24)) fun t13 =>
  zi_ t13
   (Rd Try.prog (WS.at w12) (sBin .mul 3 false (f11 7) (f11 7)) fun t14 =>
   Do Try.prog (zvc_ 35 t14 t14) (fun t15 w16 =>
   Rd Try.prog (WS.at w16) (zd_ 271 (f11 8) (f11 25)) fun t17 =>
   Do Try.prog (zx_ 35 t17 t15) (fun _ w18 =>
   Rd Try.prog (WS.at w18) (zd_ 271 (f11 8) (f11 25)) fun t19 =>
   Rd Try.prog (WS.at w18) (zc_ 35 t19) fun t20 =>
   Rd Try.prog (WS.at w18) (ze_ .len #[35] 3 [false] [t20]) fun t21 =>
   zfb_ [41, 42, 10, 43, 44, 45, 46, 47, 48, 49, 50, 51, 52, 40] (fun Q22 f23 w24 =>
    Rd Try.prog (WS.at w24) (sBin .lss 3 false (f23 40) (f23 39)) fun t25 =>
    zi_ t25
     (∃ U26 : World → Prop, ∃ h27 : U26 w24.drew,
     Rd Try.prog WS.any (zd_ 271 (f23 8) (f23 9)) fun t28 =>
     Rd Try.prog ⟨U26, w24.drew, h27⟩ (zc_ 35 t28) fun t29 =>
     Rd Try.prog WS.any (sBin .add 3 true (f23 2) (.int .i64 1)) fun t30 =>
     Do Try.prog (zvc_ 27 t30 t30) (fun t31 w32 =>
     U26 w32 ∧ Rd Try.prog WS.any (zd_ 35 t29 (f23 40)) fun t33 =>
     Do Try.prog (zx_ 27 t33 t31) (fun _ w34 =>
     Rd Try.prog (WS.at w34) (sBin .add 3 true (f23 40) (.int .i64 1)) fun t35 =>
     Q22 .normal (F.upd (F.upd (F.upd (F.upd (F.upd (F.upd (F.upd (F.upd (F.upd (F.upd (F.upd (F.upd (F.upd (F.upd f23 41 t25) 42 (f23 40)) 10 (f23 40)) 43 (f23 8)) 44 (f23 9)) 45 t28) 46 t29) 47 (f23 40)) 48 (f23 2)) 49 t30) 50 t31) 51 t33) 52 t35) 40 t35) w34) w32) w24.drew)
     (Q22 (.exit 2) (F.upd f23 41 t25) w24))
    (zt_ 2 (zt_ 1 (seqQ (fun f36 w37 =>
   Rd Try.prog (WS.at w37) (sBin .add 3 true (f36 25) (.int .i64 1)) fun t38 =>
   Q10 .normal (F.upd (F.upd f36 53 t38) 25 t38) w37) Q10)))
    (F.upd (F.upd (F.upd (F.upd (F.upd (F.upd (F.upd (F.upd (F.upd (F.upd (F.upd (F.upd (F.upd (F.upd (F.upd (F.upd f11 26 t13) 27 (f11 25)) 9 (f11 25)) 28 (f11 8)) 29 (f11 25)) 30 (f11 7)) 31 (f11 7)) 32 t14) 33 t15) 34 t17) 35 (f11 8)) 36 (f11 25)) 37 t19) 38 t20) 39 t21) 40 (.int .i64 0)) w18) w16) w12)
   (Q10 (.exit 0) (F.upd f11 26 t13) w12))
  (zt_ 0 (seqQ (fun f39 w40 =>
 zfb_ [54, 55, 56, 59, 60, 61, 62, 63, 64, 65, 13, 14, 66, 67, 68, 71, 15, 72, 73, 74, 77, 78, 79, 80, 81, 82, 83, 84, 85, 86, 87, 88, 89, 90, 91, 16, 92, 93, 94, 95, 96, 97, 98, 99, 100, 101, 102, 103, 104, 105, 106, 107, 108, 109, 110, 111, 112, 113, 114, 115, 116, 117, 75, 76, 15, 69, 70, 14, 118, 62, 57, 58, 11] (fun Q41 f42 w43 =>
  Rd Try.prog (WS.at w43) (sBin .leq 3 false (f42 11) (f42 2)) fun t44 =>
  zi_ t44
   (Rd Try.prog (WS.at w43) (zb_ 26 (f42 3) 2) fun t45 =>
   Rd Try.prog (WS.at w43) (zc_ 24 t45) fun t46 =>
   Rd Try.prog (WS.at w43) (ze_ .len #[24] 3 [false] [t46]) fun t47 =>
   zfb_ [63, 64, 65, 13, 14, 66, 67, 68, 71, 15, 72, 73, 74, 77, 78, 79, 80, 81, 82, 83, 84, 85, 86, 87, 88, 89, 90, 91, 16, 92, 93, 94, 95, 96, 97, 98, 99, 100, 101, 102, 103, 104, 105, 106, 107, 108, 109, 110, 111, 112, 113, 114, 115, 116, 117, 75, 76, 15, 69, 70, 14, 118, 62] (fun Q48 f49 w50 =>
    Rd Try.prog (WS.at w50) (sBin .lss 3 false (f49 62) (f49 61)) fun t51 =>
    zi_ t51
     (Rd Try.prog (WS.at w50) (zd_ 24 (f49 60) (f49 62)) fun t52 =>
     Rd Try.prog (WS.at w50) (zc_ 33 t52) fun t53 =>
     Do Try.prog (zvb_ 33) (fun t54 w55 =>
     Do Try.prog (zx_ 33 t54 t53) (fun _ w56 =>
     zfb_ [66, 67, 68, 71, 15, 72, 73, 74, 77, 78, 79, 80, 81, 82, 83, 84, 85, 86, 87, 88, 89, 90, 91, 16, 92, 93, 94, 95, 96, 97, 98, 99, 100, 101, 102, 103, 104, 105, 106, 107, 108, 109, 110, 111, 112, 113, 114, 115, 116, 117, 75, 76, 15, 69, 70, 14] (fun Q57 f58 w59 =>
      Rd Try.prog (WS.at w59) (sBin .lss 3 false (f58 14) (f58 7)) fun t60 =>
      zi_ t60
       (zfb_ [72, 73, 74, 77, 78, 79, 80, 81, 82, 83, 84, 85, 86, 87, 88, 89, 90, 91, 16, 92, 93, 94, 95, 96, 97, 98, 99, 100, 101, 102, 103, 104, 105, 106, 107, 108, 109, 110, 111, 112, 113, 114, 115, 116, 117, 75, 76, 15] (fun Q61 f62 w63 =>
        Rd Try.prog (WS.at w63) (sBin .lss 3 false (f62 15) (f62 7)) fun t64 =>
        zi_ t64
         (Rd Try.prog (WS.at w63) (zb_ 33 (f62 13) 0) fun t65 =>
         Rd Try.prog (WS.at w63) (zc_ 3 t65) fun t66 =>
         Rd Try.prog (WS.at w63) (zd_ 271 (f62 8) t66) fun t67 =>
         Rd Try.prog (WS.at w63) (zc_ 35 t67) fun t68 =>
         Rd Try.prog (WS.at w63) (sBin .mul 3 false (f62 14) (f62 7)) fun t69 =>
         Rd Try.prog (WS.at w63) (sBin .add 3 false t69 (f62 15)) fun t70 =>
         Rd Try.prog (WS.at w63) (zd_ 35 t68 t70) fun t71 =>
         Rd Try.prog (WS.at w63) (zc_ 27 t71) fun t72 =>
         Rd Try.prog (WS.at w63) (zd_ 27 t72 (f62 11)) fun t73 =>
         Rd Try.prog (WS.at w63) (zc_ 3 t73) fun t74 =>
         ∃ U75 : World → Prop, ∃ h76 : U75 w63.drew,
         Rd Try.prog WS.any (zb_ 33 (f62 13) 0) fun t77 =>
         Rd Try.prog ⟨U75, w63.drew, h76⟩ (zc_ 3 t77) fun t78 =>
         Rd Try.prog WS.any (zd_ 271 (f62 8) t78) fun t79 =>
         Rd Try.prog ⟨U75, w63.drew, h76⟩ (zc_ 35 t79) fun t80 =>
         Rd Try.prog WS.any (sBin .mul 3 false (f62 14) (f62 7)) fun t81 =>
         Rd Try.prog WS.any (sBin .add 3 false t81 (f62 15)) fun t82 =>
         Rd Try.prog WS.any (zd_ 35 t80 t82) fun t83 =>
         Rd Try.prog ⟨U75, w63.drew, h76⟩ (zc_ 27 t83) fun t84 =>
         Rd Try.prog WS.any (zb_ 33 (f62 13) 1) fun t85 =>
         Rd Try.prog ⟨U75, w63.drew, h76⟩ (zc_ 27 t85) fun t86 =>
         Rd Try.prog WS.any (sBin .sub 3 true (f62 11) (.int .i64 1)) fun t87 =>
         CallK Try.prog 347 [(f62 8), (f62 1), t86, (f62 14), (f62 15), t87] (fun t88 w89 =>
         U75 w89 ∧ Rd Try.prog WS.any (sBin .add 3 false t74 t88) fun t90 =>
         CallK Try.prog 346 [t90] (fun t91 w92 =>
         U75 w92 ∧ Rd Try.prog WS.any (zd_ 27 t84 (f62 11)) fun t93 =>
         Do Try.prog (zx_ 3 t93 t91) (fun _ w94 =>
         Rd Try.prog (WS.at w94) (sBin .add 3 true (f62 15) (.int .i64 1)) fun t95 =>
         Q61 .normal (F.upd (F.upd (F.upd (F.upd (F.upd (F.upd (F.upd (F.upd (F.upd (F.upd (F.upd (F.upd (F.upd (F.upd (F.upd (F.upd (F.upd (F.upd (F.upd (F.upd (F.upd (F.upd (F.upd (F.upd (F.upd (F.upd (F.upd (F.upd (F.upd (F.upd (F.upd (F.upd (F.upd (F.upd (F.upd (F.upd (F.upd (F.upd (F.upd (F.upd (F.upd (F.upd (F.upd (F.upd (F.upd (F.upd (F.upd (F.upd f62 72 (f62 15)) 73 (f62 7)) 74 t64) 77 (f62 8)) 78 t65) 79 t66) 80 t67) 81 t68) 82 (f62 14)) 83 (f62 7)) 84 t69) 85 (f62 15)) 86 t70) 87 t71) 88 t72) 89 (f62 11)) 90 t73) 91 t74) 16 t74) 92 (f62 8)) 93 t77) 94 t78) 95 t79) 96 t80) 97 (f62 14)) 98 (f62 7)) 99 t81) 100 (f62 15)) 101 t82) 102 t83) 103 t84) 104 (f62 11)) 105 t74) 106 (f62 8)) 107 (f62 1)) 108 t85) 109 t86) 110 (f62 14)) 111 (f62 15)) 112 (f62 11)) 113 t87) 114 t88) 115 t90) 116 t91) 117 t93) 75 (f62 15)) 76 t95) 15 t95) w94) w92) w89) w63.drew)
         (Q61 (.exit 10) (F.upd (F.upd (F.upd f62 72 (f62 15)) 73 (f62 7)) 74 t64) w63))
        (zt_ 10 (zt_ 9 (seqQ (fun f96 w97 =>
       Rd Try.prog (WS.at w97) (sBin .add 3 true (f96 14) (.int .i64 1)) fun t98 =>
       Q57 .normal (F.upd (F.upd (F.upd f96 69 (f96 14)) 70 t98) 14 t98) w97) Q57)))
        (F.upd (F.upd (F.upd (F.upd (F.upd f58 66 (f58 14)) 67 (f58 7)) 68 t60) 71 (f58 14)) 15 (f58 14)) w59)
       (Q57 (.exit 8) (F.upd (F.upd (F.upd f58 66 (f58 14)) 67 (f58 7)) 68 t60) w59))
      (zt_ 8 (zt_ 7 (seqQ (fun f99 w100 =>
     Rd Try.prog (WS.at w100) (sBin .add 3 true (f99 62) (.int .i64 1)) fun t101 =>
     Q48 .normal (F.upd (F.upd f99 118 t101) 62 t101) w100) Q48)))
      (F.upd (F.upd (F.upd (F.upd (F.upd f49 63 t51) 64 t52) 65 t53) 13 t54) 14 (.int .i64 0)) w56) w55) w50)
     (Q48 (.exit 6) (F.upd f49 63 t51) w50))
    (zt_ 6 (zt_ 5 (seqQ (fun f102 w103 =>
   Rd Try.prog (WS.at w103) (sBin .add 3 true (f102 11) (.int .i64 1)) fun t104 =>
   Q41 .normal (F.upd (F.upd (F.upd f102 57 (f102 11)) 58 t104) 11 t104) w103) Q41)))
    (F.upd (F.upd (F.upd (F.upd (F.upd (F.upd (F.upd f42 54 (f42 11)) 55 (f42 2)) 56 t44) 59 t45) 60 t46) 61 t47) 62 (.int .i64 0)) w43)
   (Q41 (.exit 4) (F.upd (F.upd (F.upd f42 54 (f42 11)) 55 (f42 2)) 56 t44) w43))
  (zt_ 4 (seqQ (fun f105 w106 =>
 k (f105 8) w106) (zr_ Try.prog [.tmp 6] k)))
  (F.upd f39 11 (.int .i64 1)) w40) (zr_ Try.prog [.tmp 6] k)))
  (F.upd (F.upd (F.upd (F.upd (F.upd (F.upd (F.upd (F.upd (F.upd (F.upd (F.upd (F.upd (F.upd (zm_ [v0, v1, v2]) 3 t1) 6 (.slice none 0 0)) 17 v1) 18 t3) 19 t4) 7 t4) 20 t5) 21 t6) 22 t7) 8 t7) 23 t7) 24 t9) 25 (.int .i64 0)) w8) w2) w
theorem body333 : Try.f333.body = some (zg_ Try.f333) := by kernel_rfl
theorem same333 (v0 v1 v2 : Value) (k : Value → World → Prop) (w : World) : wpF Try.prog pl333 (zg_ Try.f333) (zr_ Try.prog Try.f333.results.toList k) (zm_ [v0, v1, v2]) w = S333 v0 v1 v2 k w := by kernel_rfl
theorem enter333 {v0 v1 v2 : Value} {k : Value → World → Prop} {w : World} (h : S333 v0 v1 v2 k w) : CallK Try.prog 333 [v0, v1, v2] k w :=
  call_of_wpF (pl := pl333) zab_ Try.func333 body333 (by kernel_rfl) (of_decide_eq_true (by kernel_rfl)) (by kernel_rfl) (by kernel_rfl) (Eq.mpr (same333 v0 v1 v2 k w) h)

def pl346 : Plans := fun _ => ⟨false, [], .nil⟩
def S346 (v0 : Value) (k : Value → World → Prop) (w : World) : Prop :=
 CallK Try.prog 292 [v0, (.int .i64 1000000000)] (fun t1 w2 =>
 k t1 w2) w
theorem body346 : Try.f346.body = some (zg_ Try.f346) := by kernel_rfl
theorem same346 (v0 : Value) (k : Value → World → Prop) (w : World) : wpF Try.prog pl346 (zg_ Try.f346) (zr_ Try.prog Try.f346.results.toList k) (zm_ [v0]) w = S346 v0 k w := by kernel_rfl
theorem enter346 {v0 : Value} {k : Value → World → Prop} {w : World} (h : S346 v0 k w) : CallK Try.prog 346 [v0] k w :=
  call_of_wpF (pl := pl346) zab_ Try.func346 body346 (by kernel_rfl) (of_decide_eq_true (by kernel_rfl)) (by kernel_rfl) (by kernel_rfl) (Eq.mpr (same346 v0 k w) h)

def pl347 : Plans := fun _ => ⟨false, [], .nil⟩
def S347 (v0 v1 v2 v3 v4 v5 : Value) (k : Value → World → Prop) (w : World) : Prop :=
 Rd Try.prog (WS.at w) (ze_ .len #[27] 3 [false] [v2]) fun t1 =>
 Rd Try.prog (WS.at w) (sBin .eql 3 true t1 (.int .i64 0)) fun t2 =>
 zi_ t2
  (Rd Try.prog (WS.at w) (sBin .eql 3 false v3 v4) fun t3 =>
  za_ t3 true (fun k w' => k v5 w') (fun t4 w5 =>
  za_ t3 true (fun k w' => Rd Try.prog (WS.at w5) (sBin .eql 3 true t4 (.int .i64 0)) fun v => k v w') (fun t6 w7 =>
  Rd Try.prog (WS.at w7) (zw_ t3 t6 (.bool false)) fun t8 =>
  zi_ t8
   (k (.int .i64 1) w7)
   (k (.int .i64 0) w7)) w5) w)
  (Rd Try.prog (WS.at w) (zd_ 27 v2 (.int .i64 0)) fun t9 =>
  Rd Try.prog (WS.at w) (zc_ 3 t9) fun t10 =>
  Rd Try.prog (WS.at w) (sBin .lss 3 true t10 (.int .i64 0)) fun t11 =>
  zi_ t11
   (Rd Try.prog (WS.at w) (sBin .lss 3 false v3 v4) fun t12 =>
   za_ t12 true (fun k w' => k v1 w') (fun t13 w14 =>
   za_ t12 true (fun k w' => k v3 w') (fun t15 w16 =>
   za_ t12 true (fun k w' => Rd Try.prog (WS.at w16) (zd_ 27 t13 t15) fun v => k v w') (fun t17 w18 =>
   za_ t12 true (fun k w' => Rd Try.prog (WS.at w18) (zc_ 3 t17) fun v => k v w') (fun t19 w20 =>
   za_ t12 true (fun k w' => k t10 w') (fun t21 w22 =>
   za_ t12 true (fun k w' => Rd Try.prog (WS.at w22) (sBin .sub 3 true (.int .i64 (-1)) t21) fun v => k v w') (fun t23 w24 =>
   za_ t12 true (fun k w' => Rd Try.prog (WS.at w24) (sBin .eql 3 false t19 t23) fun v => k v w') (fun t25 w26 =>
   Rd Try.prog (WS.at w26) (zw_ t12 t25 (.bool false)) fun t27 =>
   zi_ t27
    (Rd Try.prog (WS.at w26) (zrb_ 27 v2 (some (.int .i64 1)) none none) fun t28 =>
    Rd Try.prog (WS.at w26) (sBin .add 3 true v3 (.int .i64 1)) fun t29 =>
    CallK Try.prog 347 [v0, v1, t28, t29, v4, v5] (fun t30 w31 =>
    k t30 w31) w26)
    (k (.int .i64 0) w26)) w24) w22) w20) w18) w16) w14) w)
   (zfb_ [55, 56, 57, 16, 60, 61, 62, 65, 66, 67, 68, 69, 70, 71, 72, 73, 74, 75, 76, 77, 78, 79, 80, 17, 81, 82, 83, 84, 85, 86, 87, 88, 89, 90, 91, 92, 93, 94, 95, 96, 97, 14, 63, 64, 16, 58, 59, 15] (fun Q32 f33 w34 =>
    Rd Try.prog (WS.at w34) (sBin .leq 3 false (f33 15) (f33 4)) fun t35 =>
    zi_ t35
     (zfb_ [60, 61, 62, 65, 66, 67, 68, 69, 70, 71, 72, 73, 74, 75, 76, 77, 78, 79, 80, 17, 81, 82, 83, 84, 85, 86, 87, 88, 89, 90, 91, 92, 93, 94, 95, 96, 97, 14, 63, 64, 16] (fun Q36 f37 w38 =>
      Rd Try.prog (WS.at w38) (sBin .leq 3 false (f37 16) (f37 5)) fun t39 =>
      zi_ t39
       (Join (fun K40 =>
       Rd Try.prog (WS.at w38) (zd_ 271 (f37 0) (f37 13)) fun t43 =>
       Rd Try.prog (WS.at w38) (zc_ 35 t43) fun t44 =>
       Rd Try.prog (WS.at w38) (ze_ .len #[27] 3 [false] [(f37 1)]) fun t45 =>
       Rd Try.prog (WS.at w38) (sBin .add 3 true t45 (.int .i64 1)) fun t46 =>
       Rd Try.prog (WS.at w38) (sBin .mul 3 false (f37 3) t46) fun t47 =>
       Rd Try.prog (WS.at w38) (sBin .add 3 false t47 (f37 15)) fun t48 =>
       Rd Try.prog (WS.at w38) (zd_ 35 t44 t48) fun t49 =>
       Rd Try.prog (WS.at w38) (zc_ 27 t49) fun t50 =>
       Rd Try.prog (WS.at w38) (zd_ 27 t50 (f37 16)) fun t51 =>
       Rd Try.prog (WS.at w38) (zc_ 3 t51) fun t52 =>
       Rd Try.prog (WS.at w38) (sBin .gtr 3 true t52 (.int .i64 0)) fun t53 =>
       zi_ t53
        (Rd Try.prog (WS.at w38) (zrb_ 27 (f37 2) (some (.int .i64 1)) none none) fun t54 =>
        Rd Try.prog (WS.at w38) (sBin .sub 3 false (f37 5) (f37 16)) fun t55 =>
        CallK Try.prog 347 [(f37 0), (f37 1), t54, (f37 15), (f37 4), t55] (fun t56 w57 =>
        Rd Try.prog (WS.at w57) (sBin .mul 3 false t52 t56) fun t58 =>
        Rd Try.prog (WS.at w57) (sBin .add 3 false (f37 14) t58) fun t59 =>
        CallK Try.prog 346 [t59] (fun t60 w61 =>
        K40 (F.upd (F.upd (F.upd (F.upd (F.upd (F.upd (F.upd (F.upd (F.upd (F.upd (F.upd (F.upd (F.upd (F.upd (F.upd (F.upd (F.upd (F.upd (F.upd (F.upd (F.upd (F.upd (F.upd (F.upd (F.upd (F.upd (F.upd (F.upd (F.upd (F.upd (F.upd (F.upd (F.upd (F.upd (F.upd (F.upd (F.upd (F.upd f37 60 (f37 16)) 61 (f37 5)) 62 t39) 65 (f37 0)) 66 (f37 13)) 67 t43) 68 t44) 69 (f37 3)) 70 (f37 1)) 71 t45) 72 t46) 73 t47) 74 (f37 15)) 75 t48) 76 t49) 77 t50) 78 (f37 16)) 79 t51) 80 t52) 17 t52) 81 t52) 82 t53) 83 (f37 14)) 84 t52) 85 (f37 0)) 86 (f37 1)) 87 (f37 2)) 88 t54) 89 (f37 15)) 90 (f37 4)) 91 (f37 5)) 92 (f37 16)) 93 t55) 94 t56) 95 t58) 96 t59) 97 t60) 14 t60) w61) w57) w38)
        (K40 (F.upd (F.upd (F.upd (F.upd (F.upd (F.upd (F.upd (F.upd (F.upd (F.upd (F.upd (F.upd (F.upd (F.upd (F.upd (F.upd (F.upd (F.upd (F.upd (F.upd (F.upd (F.upd f37 60 (f37 16)) 61 (f37 5)) 62 t39) 65 (f37 0)) 66 (f37 13)) 67 t43) 68 t44) 69 (f37 3)) 70 (f37 1)) 71 t45) 72 t46) 73 t47) 74 (f37 15)) 75 t48) 76 t49) 77 t50) 78 (f37 16)) 79 t51) 80 t52) 17 t52) 81 t52) 82 t53) w38)) (fun f41 w42 =>
       Rd Try.prog (WS.at w42) (sBin .add 3 true (f41 16) (.int .i64 1)) fun t62 =>
       Q36 .normal (F.upd (F.upd (F.upd f41 63 (f41 16)) 64 t62) 16 t62) w42))
       (Q36 (.exit 2) (F.upd (F.upd (F.upd f37 60 (f37 16)) 61 (f37 5)) 62 t39) w38))
      (zt_ 2 (zt_ 1 (seqQ (fun f63 w64 =>
     Rd Try.prog (WS.at w64) (sBin .add 3 true (f63 15) (.int .i64 1)) fun t65 =>
     Q32 .normal (F.upd (F.upd (F.upd f63 58 (f63 15)) 59 t65) 15 t65) w64) Q32)))
      (F.upd (F.upd (F.upd (F.upd f33 55 (f33 15)) 56 (f33 4)) 57 t35) 16 (.int .i64 1)) w34)
     (Q32 (.exit 0) (F.upd (F.upd (F.upd f33 55 (f33 15)) 56 (f33 4)) 57 t35) w34))
    (zt_ 0 (seqQ (fun f66 w67 =>
   k (f66 14) w67) (zr_ Try.prog [.tmp 12] k)))
    (F.upd (F.upd (F.upd (F.upd (F.upd (F.upd (F.upd (F.upd (F.upd (F.upd (F.upd (F.upd (F.upd (zm_ [v0, v1, v2, v3, v4, v5]) 12 (.int .i64 0)) 18 v2) 19 t1) 20 t2) 28 v2) 29 t9) 30 t10) 13 t10) 31 t10) 32 t11) 14 (.int .i64 0)) 54 v3) 15 v3) w))
theorem body347 : Try.f347.body = some (zg_ Try.f347) := by kernel_rfl
theorem same347 (v0 v1 v2 v3 v4 v5 : Value) (k : Value → World → Prop) (w : World) : wpF Try.prog pl347 (zg_ Try.f347) (zr_ Try.prog Try.f347.results.toList k) (zm_ [v0, v1, v2, v3, v4, v5]) w = S347 v0 v1 v2 v3 v4 v5 k w := by kernel_rfl
theorem enter347 {v0 v1 v2 v3 v4 v5 : Value} {k : Value → World → Prop} {w : World} (h : S347 v0 v1 v2 v3 v4 v5 k w) : CallK Try.prog 347 [v0, v1, v2, v3, v4, v5] k w :=
  call_of_wpF (pl := pl347) zab_ Try.func347 body347 (by kernel_rfl) (of_decide_eq_true (by kernel_rfl)) (by kernel_rfl) (by kernel_rfl) (Eq.mpr (same347 v0 v1 v2 v3 v4 v5 k w) h)

end Go.Proofs.Ytegcjkhebecgbaa

namespace Go.Sh
open Go
structure TabR (w : World) (X : Option Addr) (nons n m : Nat) (t : Nat → Nat → Nat → Nat → Nat) : Prop where
  ptr : 0 < nons → X = some (ad X)
  row : ∀ A, A < nons → ∃ Y c, w.cell? ((ad X).add A) = some (.slice Y (n * n) c) ∧ Y = some (ad Y) ∧ ∀ i j, i < n → j < n → ∃ Z z, w.cell? ((ad Y).add (i * n + j)) = some (.slice Z (m + 1) z) ∧ Z = some (ad Z) ∧ ∀ k, k ≤ m → w.cell? ((ad Z).add k) = some (.int .i64 (t A i j k))
theorem TabR.gr {w w' : World} {X : Option Addr} {nons n m : Nat} {t : Nat → Nat → Nat → Nat → Nat} (h : TabR w X nons n m t) (g : Gr w w') : TabR w' X nons n m t := ⟨h.ptr, fun A hA => by
  obtain ⟨Y, c, h1, h2, h3⟩ := h.row A hA
  refine ⟨Y, c, g.cell h1, h2, fun i j hi hj => ?_⟩
  obtain ⟨Z, z, h4, h5, h6⟩ := h3 i j hi hj
  exact ⟨Z, z, g.cell h4, h5, fun k hk => g.cell (h6 k hk)⟩⟩
end Go.Sh
namespace Go.Proofs.Ytegcjkhebecgbaa
open Go Go.Sh Go.RowKit
theorem l10Cap_c {w : World} {x y M : Nat} (hM : M = 1000000000) (hy : y = min M x) {k : Value → World → Prop} (hk : k (.int .i64 (y : Int)) w) : CallK Try.prog 346 [.int .i64 (x : Int)] k w := by
  have key : ∀ L : Int, L = 1000000000 → CallK Try.prog 292 [.int .i64 (x : Int), .int .i64 L] k w := fun L hL => by
    refine enter292 ?_
    unfold S292
    simp only [go_sem, Nat.reduceEqDiff]
    by_cases h : (x : Int) < L
    · simp only [h, decide_true, go_sem, Nat.reduceEqDiff]
      have e : y = x := by omega
      rwa [e] at hk
    · simp only [h, decide_false, go_sem, Nat.reduceEqDiff]
      have e : (y : Int) = L := by omega
      rwa [e] at hk
  refine enter346 ?_
  exact key _ rfl
theorem zcr_ {w : World} {X W : Option Addr} {nons m cX cW M : Nat} {t c : Nat → Nat → Nat → Nat → Nat} {ws : List Int} (hM : M = 1000000000) (T : TabR w X nons (ws.length + 1) m t) (hW : Ints w W ws) (hl : ws.length ≤ 10) (hwv : ∀ x ∈ ws, 0 ≤ x ∧ x ≤ 100) (hno : nons ≤ 6) (hm : m ≤ 20) :
    ∀ {xs : List Int} {R : Option Addr} {cR i j s : Nat} {k : Value → World → Prop}, Ints w R xs → xs.length ≤ cR → xs.length ≤ 100 → (∀ x ∈ xs, -100 ≤ x ∧ x < nons) → i ≤ ws.length → j ≤ ws.length → s ≤ m → (∀ A i j k, k ≤ s → t A i j k = min M (c A i j k)) →
    (∀ y : Nat, y = min M (cntR c ws xs i j s) → k (.int .i64 (y : Int)) w) →
    CallK Try.prog 347 [.slice X nons cX, .slice W ws.length cW, .slice R xs.length cR, .int .i64 i, .int .i64 j, .int .i64 s] k w := by
  intro xs
  induction xs with
  | nil =>
    intro R cR i j s k hR hc hlx hx hi hj hs ht hk
    refine enter347 ?_
    unfold S347
    simp only [List.length_nil, show (((0 : Nat) : Int) = 0) from rfl, decide_true, go_sem, Nat.reduceEqDiff]
    rw [cntR] at hk
    by_cases hij : i = j
    · subst hij
      by_cases h0 : s = 0
      · subst h0
        simp only [show (((0 : Nat) : Int) = 0) from rfl, decide_true, go_sem, Nat.reduceEqDiff]
        exact hk 1 (by rw [if_pos ⟨rfl, rfl⟩]; omega)
      · simp only [show ¬ ((s : Int) = 0) from by omega, decide_true, decide_false, go_sem, Nat.reduceEqDiff]
        exact hk 0 (by rw [if_neg (fun h => h0 h.2)]; omega)
    · simp only [show ¬ ((i : Int) = j) from by omega, decide_false, go_sem, Nat.reduceEqDiff]
      exact hk 0 (by rw [if_neg (fun h => hij h.1)]; omega)
  | cons x xs ih =>
    intro R cR i j s k hR hc hlx hx hi hj hs ht hk
    refine enter347 ?_
    unfold S347
    rw [List.length_cons] at hc hlx
    have hxx := hx x (List.mem_cons_self ..)
    simp only [show ¬ (((x :: xs).length : Int) = 0) from by rw [List.length_cons]; omega, decide_false, go_sem, Nat.reduceEqDiff]
    refine rdi (zvd_ hR.ptr (by simp)) (rdi (ld3 (hR.cell 0 (by simp))) ?_)
    have hsub := hR.sub (l := 1) (c := cR) (by simp) (by simp; omega) xs.length
    rw [List.drop_one, List.tail_cons, List.take_length] at hsub
    simp only [List.getD_cons_zero, go_sem, Nat.reduceEqDiff]
    rw [cntR] at hk
    by_cases hx0 : x < 0
    · simp only [hx0, decide_true, go_sem, Nat.reduceEqDiff]
      rw [if_pos hx0] at hk
      by_cases hij : i < j
      case neg =>
        simp only [show ¬ ((i : Int) < j) from by omega, decide_false, go_sem, Nat.reduceEqDiff]
        exact hk 0 (by rw [if_neg (fun h => hij h.1)]; omega)
      simp only [show ((i : Int) < j) from by omega, decide_true, go_sem, Nat.reduceEqDiff]
      refine rdi (zub_ hW.ptr (by omega)) (rdi (ld3 (hW.cell i (by omega))) ?_)
      simp only [go_sem, Nat.reduceEqDiff]
      rw [zj_ (by omega) (by omega)]
      by_cases htk : ws.getD i 0 = -1 - x
      case neg =>
        simp only [htk, decide_false, go_sem, Nat.reduceEqDiff]
        exact hk 0 (by rw [if_neg (fun h => htk h.2)]; omega)
      simp only [htk, decide_true, go_sem, Nat.reduceEqDiff]
      refine rdi (sll27 (by omega) (by rw [List.length_cons]; omega)) ?_
      rw [zj_ (by omega) (by omega)]
      rw [if_pos ⟨hij, htk⟩] at hk
      refine ih (i := i + 1) hsub (by show xs.length ≤ cR - 1; omega) (by omega) (fun y hy => hx y (List.mem_cons_of_mem _ hy)) (by omega) hj hs ht ?_
      exact hk
    · simp only [hx0, decide_false, go_sem, Nat.reduceEqDiff]
      rw [if_neg hx0] at hk
      obtain ⟨A, rfl⟩ : ∃ A : Nat, x = A := ⟨x.toNat, by omega⟩
      rw [Int.toNat_natCast] at hk
      have hA : A < nons := by omega
      refine zhb_ (j + 1 - i) 0 (fun q f w' => q ≤ j + 1 - i ∧ f 15 = .int .i64 ((i + q : Nat) : Int) ∧ w' = w ∧ ∃ y : Nat, f 14 = .int .i64 (y : Int) ∧ y = min M (sumN (fun m => sumN (fun k => c A i (i + m) (k + 1) * cntR c ws xs (i + m) j (s - (k + 1))) s) q))
        ⟨Nat.zero_le _, rfl, rfl, 0, rfl, by simp [sumN]⟩ ?_
      rintro q f w1 N hag ⟨hq, h15, rfl, y, h14, hy⟩ hN
      have f0 : f 0 = .slice X nons cX := hag 0 (by decide)
      have f1 : f 1 = .slice W ws.length cW := hag 1 (by decide)
      have f2 : f 2 = .slice R (((A : Int) :: xs).length) cR := hag 2 (by decide)
      have f3 : f 3 = .int .i64 i := hag 3 (by decide)
      have f4 : f 4 = .int .i64 j := hag 4 (by decide)
      have f5 : f 5 = .int .i64 s := hag 5 (by decide)
      have f13 : f 13 = .int .i64 (A : Int) := hag 13 (by decide)
      simp only [f4, h15, h14, go_sem, Nat.reduceEqDiff]
      by_cases hle : i + q ≤ j
      case neg =>
        simp only [show ¬ (((i + q : Nat) : Int) ≤ j) from by omega, decide_false, go_sem, Nat.reduceEqDiff]
        obtain rfl : q = j + 1 - i := by omega
        exact hk y hy
      simp only [show (((i + q : Nat) : Int) ≤ j) from by omega, decide_true, go_sem, Nat.reduceEqDiff]
      refine zhb_ s 0 (fun kk f w' => kk ≤ s ∧ f 16 = .int .i64 ((kk + 1 : Nat) : Int) ∧ w' = w1 ∧ ∃ y : Nat, f 14 = .int .i64 (y : Int) ∧ y = min M (sumN (fun m => sumN (fun k => c A i (i + m) (k + 1) * cntR c ws xs (i + m) j (s - (k + 1))) s) q + sumN (fun k => c A i (i + q) (k + 1) * cntR c ws xs (i + q) j (s - (k + 1))) kk))
        ⟨Nat.zero_le _, rfl, rfl, y, h14, by simpa [sumN] using hy⟩ ?_
      rintro kk g w2 N2 hag2 ⟨hkk, h16, rfl, y2, h14', hy2⟩ hN2
      have g0 : g 0 = .slice X nons cX := (hag2 0 (by decide)).trans f0
      have g1 : g 1 = .slice W ws.length cW := (hag2 1 (by decide)).trans f1
      have g2 : g 2 = .slice R (((A : Int) :: xs).length) cR := (hag2 2 (by decide)).trans f2
      have g3 : g 3 = .int .i64 i := (hag2 3 (by decide)).trans f3
      have g4 : g 4 = .int .i64 j := (hag2 4 (by decide)).trans f4
      have g5 : g 5 = .int .i64 s := (hag2 5 (by decide)).trans f5
      have g13 : g 13 = .int .i64 (A : Int) := (hag2 13 (by decide)).trans f13
      have g15 : g 15 = .int .i64 ((i + q : Nat) : Int) := (hag2 15 (by decide)).trans h15
      simp only [g0, g1, g2, g3, g4, g5, g13, g15, h16, h14', go_sem, Nat.reduceEqDiff]
      by_cases hlt : kk < s
      case neg =>
        simp only [show ¬ (((kk + 1 : Nat) : Int) ≤ s) from by omega, decide_false, go_sem, Nat.reduceEqDiff]
        obtain rfl : kk = s := by omega
        rw [zj_ (by omega) (by omega)]
        exact hN _ _ (by omega) ⟨by omega, by show Value.int .i64 (((i + q : Nat) : Int) + 1) = _; congr 1, rfl, y2, h14', by rw [sumN]; exact hy2⟩
      simp only [show (((kk + 1 : Nat) : Int) ≤ s) from by omega, decide_true, go_sem, Nat.reduceEqDiff]
      obtain ⟨Y, cY, hc1, hYp, hrow⟩ := T.row A hA
      obtain ⟨Z, cZ, hc2, hZp, hcell⟩ := hrow i (i + q) (by omega) (by omega)
      have hmul : i * (ws.length + 1) ≤ 10 * 11 := Nat.mul_le_mul (by omega) (by omega)
      have hmul2 : i * (ws.length + 1) + (ws.length + 1) ≤ (ws.length + 1) * (ws.length + 1) := by
        rw [← Nat.succ_mul]
        exact Nat.mul_le_mul_right _ (by omega)
      refine rdi (zxi_ T.ptr hA) (rdi (ld35 hc1) ?_)
      rw [zj_ (n := (ws.length : Int) + 1) (by omega) (by omega), show (i : Int) * ((ws.length : Int) + 1) = ((i * (ws.length + 1) : Nat) : Int) from by simp, zj_ (n := ((i * (ws.length + 1) : Nat) : Int)) (by omega) (by omega), zj_ (n := ((i * (ws.length + 1) : Nat) : Int) + ((i + q : Nat) : Int)) (by omega) (by omega), show ((i * (ws.length + 1) : Nat) : Int) + ((i + q : Nat) : Int) = ((i * (ws.length + 1) + (i + q) : Nat) : Int) from by omega]
      refine rdi (zce_ (fun _ => hYp) (by omega)) (rdi (ld27 hc2) ?_)
      refine rdi (zub_ (fun _ => hZp) (by omega)) (rdi (ld3 (hcell (kk + 1) (by omega))) ?_)
      have htv := ht A i (i + q) (kk + 1) (by omega)
      simp only [go_sem, Nat.reduceEqDiff]
      by_cases h0 : t A i (i + q) (kk + 1) = 0
      · simp only [h0, show ¬ ((0 : Int) < ((0 : Nat) : Int)) from by omega, decide_false, go_sem, Nat.reduceEqDiff]
        have hc0 : c A i (i + q) (kk + 1) = 0 := by omega
        rw [zj_ (by omega) (by omega)]
        exact hN2 _ _ hlt ⟨by omega, by show Value.int .i64 (((kk + 1 : Nat) : Int) + 1) = _; congr 1, rfl, y2, h14', by rw [sumN, hc0, Nat.zero_mul, Nat.add_zero]; exact hy2⟩
      · simp only [show ((0 : Int) < (t A i (i + q) (kk + 1) : Int)) from by omega, decide_true, go_sem, Nat.reduceEqDiff]
        refine rdi (sll27 (by omega) (by rw [List.length_cons]; omega)) ?_
        rw [zj_ (n := (s : Int) - ((kk + 1 : Nat) : Int)) (by omega) (by omega), show (s : Int) - ((kk + 1 : Nat) : Int) = ((s - (kk + 1) : Nat) : Int) from by omega]
        refine ih (i := i + q) hsub (by show xs.length ≤ cR - 1; omega) (by omega) (fun y hy => hx y (List.mem_cons_of_mem _ hy)) (by omega) hj (by omega) (fun A i j k hk => ht A i j k (by omega)) fun y3 hy3 => ?_
        have hb : t A i (i + q) (kk + 1) * y3 ≤ 1000000000 * 1000000000 := Nat.mul_le_mul (by omega) (by omega)
        simp only [go_sem, Nat.reduceEqDiff]
        rw [show (t A i (i + q) (kk + 1) : Int) * (y3 : Int) = ((t A i (i + q) (kk + 1) * y3 : Nat) : Int) from by simp, zj_ (n := ((t A i (i + q) (kk + 1) * y3 : Nat) : Int)) (by omega) (by omega), zj_ (n := (y2 : Int) + ((t A i (i + q) (kk + 1) * y3 : Nat) : Int)) (by omega) (by omega), show (y2 : Int) + ((t A i (i + q) (kk + 1) * y3 : Nat) : Int) = ((y2 + t A i (i + q) (kk + 1) * y3 : Nat) : Int) from by omega]
        refine l10Cap_c hM rfl ?_
        rw [zj_ (by omega) (by omega)]
        refine hN2 _ _ hlt ⟨by omega, by show Value.int .i64 (((kk + 1 : Nat) : Int) + 1) = _; congr 1, rfl, _, rfl, ?_⟩
        rw [sumN, ← Nat.add_assoc, hy2, hy3, htv, cap_mul_add]
end Go.Proofs.Ytegcjkhebecgbaa

namespace Go.Sh
open Go
structure Fam (e : Nat) (w : World) (B : Nat) (ls : List (List Int)) (ps : Nat → Option Addr × Nat) : Prop where
  own : ∀ j, j < ls.length → Own e w B (ps j).1 (ps j).2 (rgt ls j)
  two : ∀ i j, i < ls.length → j < ls.length → i ≠ j → blk (ps i).1 = none ∨ blk (ps i).1 ≠ blk (ps j).1
def FootL (ps : Nat → Option Addr × Nat) (n q : Nat) : Prop := ∃ l, l < n ∧ blk (ps l).1 = some q
section
variable {e B B' : Nat} {w w' w0 : World} {ls : List (List Int)} {ps : Nat → Option Addr × Nat} {L : List Thing}
theorem Fam.same (h : Fam e w B ls ps) (hs : ∀ q, FootL ps ls.length q → w'.heap[q]? = w.heap[q]?) : Fam e w' B ls ps :=
  ⟨fun j hj => Row.same (h.own j hj) fun q hq => hs q ⟨j, hj, hq⟩, h.two⟩
theorem Fam.up (h : Fam e w B ls ps) (hs : ∀ q, FootL ps ls.length q → B' ≤ q) : Fam e w B' ls ps :=
  ⟨fun j hj => Row.up (h.own j hj) fun q hq => hs q ⟨j, hj, hq⟩, h.two⟩
theorem Fam.mono (h : Fam e w B ls ps) (hb : B' ≤ B) : Fam e w B' ls ps := ⟨fun j hj => Row.mono (h.own j hj) hb, h.two⟩
theorem Fam.foot (h : Fam e w B ls ps) {q : Nat} (hq : FootL ps ls.length q) : B ≤ q ∧ q < w.heap.size := by
  obtain ⟨l, hl, hq⟩ := hq
  exact Row.ge (h.own l hl) hq
def fami (e : Nat) (ls : List (List Int)) (ps : Nat → Option Addr × Nat) : Thing := ⟨fun w => Fam e w 0 ls ps, FootL ps ls.length⟩
theorem zfv_ (h : Fam e w B ls ps) : ∀ w', (∀ q, (fami e ls ps).ft q → w'.heap[q]? = w.heap[q]?) → (fami e ls ps).P w' := fun w' hq => (h.mono (Nat.zero_le B)).same hq
theorem Apt.fam (H : Apt w0 w L) (i : Nat) (hi : L[i]? = some (fami e ls ps)) : Fam e w w0.heap.size ls ps := Fam.up (H.get i hi) (H.ok i _ hi).lo
theorem Apt.addFam (H : Apt w0 w L) (e : Nat) (ps : Nat → Option Addr × Nat) : Apt w0 w (L ++ [fami e [] ps]) :=
  H.add (Gr.refl w) _ (fun q hq => by obtain ⟨l, hl, _⟩ := hq; simp at hl) (fun q hq => by obtain ⟨l, hl, _⟩ := hq; simp at hl) fun w'' _ => ⟨fun j hj => by simp at hj, fun i j hi => by simp at hi⟩
theorem Apt.famPush (H : Apt w0 w L) {i j : Nat} (hij : i ≠ j) {d : Nat} {Y : Option Addr} {ys : List Int} (hi : L[i]? = some (fami e ls ps)) (hj : L[j]? = some (rwi e 1 Y ys.length d (Sh.ints ys))) : Apt w0 w ((L.set i (fami e (ls ++ [ys]) fun l => if l = ls.length then (Y, d) else ps l)).set j emp) := by
  have f := H.fam i hi
  have o := H.row j hj
  have hne : ∀ l, l < ls.length → blk (ps l).1 = none ∨ blk (ps l).1 ≠ blk Y := fun l hl => by
    cases hq : blk (ps l).1 with
    | none => exact .inl rfl
    | some q => exact .inr fun e' => H.two i j _ _ hij hi hj q ⟨l, hl, hq⟩ (show blk Y = some q from e'.symm)
  have f' : Fam e w w0.heap.size (ls ++ [ys]) fun l => if l = ls.length then (Y, d) else ps l := by
    refine ⟨fun l hl => ?_, fun a b ha hb hab => ?_⟩
    · by_cases h1 : l < ls.length
      · rw [if_neg (by omega), zxh_ h1]
        exact f.own l h1
      · obtain rfl : l = ls.length := by simp at hl; omega
        rw [if_pos rfl, zmp_]
        exact o
    · rw [List.length_append] at ha hb
      simp only [List.length_cons, List.length_nil] at ha hb
      by_cases h1 : a < ls.length <;> by_cases h2 : b < ls.length
      · rw [if_neg (by omega), if_neg (by omega)]
        exact f.two a b h1 h2 hab
      · obtain rfl : b = ls.length := by omega
        rw [if_neg (by omega), if_pos rfl]
        exact hne a h1
      · obtain rfl : a = ls.length := by omega
        rw [if_pos rfl, if_neg (by omega)]
        exact zpm_ (hne b h2)
      · omega
  refine H.join hij hi hj (Gx.refl _ w) (fun q hq => ?_) (fun q hq => (f'.foot hq).2) (zfv_ f')
  obtain ⟨l, hl, hq⟩ := hq
  rw [List.length_append] at hl
  simp only [List.length_cons, List.length_nil] at hl
  by_cases h1 : l = ls.length
  · subst h1
    simp only [if_true] at hq
    exact .inr (.inl hq)
  · simp only [h1, if_false] at hq
    exact .inl ⟨l, by omega, hq⟩
end
end Go.Sh
namespace Go.Proofs.Ytegcjkhebecgbaa
open Go Go.Sh Go.RowKit
theorem famPut {k : Value → World → Prop} {w0 w : World} {L : List Thing} (H : Apt w0 w L) (i j : Nat) {m : Nat} {ls : List (List Int)} {ps : Nat → Option Addr × Nat} {x : Int} (hi : L[i]? = some (fami 3 ls ps)) (hj : j < ls.length) (hm : m < (rgt ls j).length)
    (h : ∀ w', Apt w0 w' (L.set i (fami 3 (ls.set j ((rgt ls j).set m x)) ps)) → k undef w') : Do Try.prog (zx_ 3 (.pointer (some ((ad (ps j).1).add m))) (.int .i64 x)) k w := by
  have f := H.fam i hi
  refine zme_ sz3 rfl rfl (f.own j hj) (by omega) fun w' g hs hr => ?_
  have hr' : Row w' w0.heap.size 3 1 (ps j).1 (rgt ls j).length (ps j).2 (ints ((rgt ls j).set m x)) := by
    rw [show ints ((rgt ls j).set m x) = (ints (rgt ls j)).set m (.int .i64 x) from by simp [ints]]
    exact hr
  have hg : ∀ l, rgt (ls.set j ((rgt ls j).set m x)) l = if l = j then (rgt ls j).set m x else rgt ls l := fun l => by
    simp only [rgt, List.getD_eq_getElem?_getD, List.getElem?_set]
    by_cases hij : j = l
    · subst hij
      simp [hj]
    · rw [if_neg hij, if_neg (fun e => hij e.symm)]
  have f' : Fam 3 w' w0.heap.size (ls.set j ((rgt ls j).set m x)) ps := by
    refine ⟨fun l hl => ?_, fun a b ha hb hab => ?_⟩
    · rw [List.length_set] at hl
      rw [hg l]
      by_cases hlj : l = j
      · subst hlj
        rw [if_pos rfl]
        unfold Own
        rw [List.length_set]
        exact hr'
      · rw [if_neg hlj]
        exact Row.kept (f.own l hl) g (f.two l j hl hj hlj)
    · rw [List.length_set] at ha hb
      exact f.two a b ha hb hab
  refine h w' (H.set hi (gx_of g fun q hq => ⟨j, hj, hq⟩) (fun q hq => .inl ?_) (fun q hq => (f'.foot hq).2) (zfv_ f'))
  obtain ⟨l, hl, hq⟩ := hq
  rw [List.length_set] at hl
  exact ⟨l, hl, hq⟩
end Go.Proofs.Ytegcjkhebecgbaa

namespace Go.Sh
open Go
def idxT (n A i j : Nat) : Nat := A * (n * n) + (i * n + j)
theorem zui_ {nons n A i j : Nat} (hA : A < nons) (hi : i < n) (hj : j < n) : idxT n A i j < nons * (n * n) := by
  have h1 := zff_ hi hj
  have h2 : (A + 1) * (n * n) ≤ nons * (n * n) := Nat.mul_le_mul_right _ hA
  rw [Nat.add_mul] at h2
  unfold idxT
  omega
theorem idxT_inj {n A i j A' i' j' : Nat} (hi : i < n) (hj : j < n) (hi' : i' < n) (hj' : j' < n) (h : idxT n A i j = idxT n A' i' j') : A = A' ∧ i = i' ∧ j = j' := by
  have h1 := zff_ hi hj
  have h2 := zff_ hi' hj'
  have hn : 0 < n := by omega
  have hnn : 0 < n * n := Nat.mul_pos hn hn
  unfold idxT at h
  have e1 : A = A' := by
    have := congrArg (· / (n * n)) h
    simp only [Nat.mul_comm _ (n * n), Nat.mul_add_div hnn, Nat.div_eq_of_lt h1, Nat.div_eq_of_lt h2, Nat.add_zero] at this
    exact this
  subst e1
  have h3 : i * n + j = i' * n + j' := by omega
  have e2 : i = i' := by
    have := congrArg (· / n) h3
    simp only [Nat.mul_comm _ n, Nat.mul_add_div hn, Nat.div_eq_of_lt hj, Nat.div_eq_of_lt hj', Nat.add_zero] at this
    exact this
  subst e2
  exact ⟨rfl, rfl, by omega⟩
theorem rgt_put {ls : List (List Int)} {i j : Nat} {l : List Int} (hi : i < ls.length) : rgt (ls.set i l) j = if j = i then l else rgt ls j := by
  simp only [rgt, List.getD_eq_getElem?_getD, List.getElem?_set]
  by_cases hij : i = j
  · subst hij
    simp [hi]
  · rw [if_neg hij, if_neg (fun e => hij e.symm)]
theorem getD_put {l : List Int} {i j : Nat} {x : Int} (hi : i < l.length) : (l.set i x).getD j 0 = if j = i then x else l.getD j 0 := by
  simp only [List.getD_eq_getElem?_getD, List.getElem?_set]
  by_cases hij : i = j
  · subst hij
    simp [hi]
  · rw [if_neg hij, if_neg (fun e => hij e.symm)]
structure LeafT (ls : List (List Int)) (nons n m : Nat) (t : Nat → Nat → Nat → Nat → Nat) : Prop where
  len : ls.length = nons * (n * n)
  row : ∀ A i j, A < nons → i < n → j < n → (rgt ls (idxT n A i j)).length = m + 1
  val : ∀ A i j k, A < nons → i < n → j < n → k ≤ m → (rgt ls (idxT n A i j)).getD k 0 = (t A i j k : Int)
theorem LeafT.congr {ls : List (List Int)} {nons n m : Nat} {t t' : Nat → Nat → Nat → Nat → Nat} (h : LeafT ls nons n m t) (he : ∀ A i j k, A < nons → i < n → j < n → k ≤ m → t' A i j k = t A i j k) : LeafT ls nons n m t' :=
  ⟨h.len, h.row, fun A i j k hA hi hj hk => by rw [h.val A i j k hA hi hj hk, he A i j k hA hi hj hk]⟩
theorem LeafT.put {ls : List (List Int)} {nons n m : Nat} {t t' : Nat → Nat → Nat → Nat → Nat} (h : LeafT ls nons n m t) {A i j k v : Nat} (hA : A < nons) (hi : i < n) (hj : j < n) (hk : k ≤ m) (h1 : t' A i j k = v)
    (h2 : ∀ A' i' j' k', A' < nons → i' < n → j' < n → k' ≤ m → ¬ (A' = A ∧ i' = i ∧ j' = j ∧ k' = k) → t' A' i' j' k' = t A' i' j' k') : LeafT (ls.set (idxT n A i j) ((rgt ls (idxT n A i j)).set k (v : Int))) nons n m t' := by
  have hlt : idxT n A i j < ls.length := by rw [h.len]; exact zui_ hA hi hj
  refine ⟨by rw [List.length_set]; exact h.len, fun A' i' j' hA' hi' hj' => ?_, fun A' i' j' k' hA' hi' hj' hk' => ?_⟩
  · rw [rgt_put hlt]
    split
    · rw [List.length_set]; exact h.row A i j hA hi hj
    · exact h.row A' i' j' hA' hi' hj'
  · rw [rgt_put hlt]
    split
    · rename_i he
      obtain ⟨rfl, rfl, rfl⟩ := idxT_inj hi' hj' hi hj he
      rw [getD_put (by rw [h.row _ _ _ hA hi hj]; omega)]
      split
      · rename_i hkk
        subst hkk
        rw [h1]
      · rename_i hkk
        rw [h.val _ _ _ _ hA hi hj hk', h2 _ _ _ _ hA hi hj hk' (fun hh => hkk hh.2.2.2)]
    · rename_i he
      rw [h.val _ _ _ _ hA' hi' hj' hk', h2 _ _ _ _ hA' hi' hj' hk' (fun hh => he (by rw [hh.1, hh.2.1, hh.2.2.1]))]
theorem leafT_zero {nons n m : Nat} : LeafT (List.replicate (nons * (n * n)) (List.replicate (m + 1) 0)) nons n m fun _ _ _ _ => 0 := by
  have hr : ∀ l, l < nons * (n * n) → rgt (List.replicate (nons * (n * n)) (List.replicate (m + 1) (0 : Int))) l = List.replicate (m + 1) 0 := fun l hl => by
    rw [zgi_ (by simpa using hl)]
    simp
  refine ⟨by simp, fun A i j hA hi hj => ?_, fun A i j k hA hi hj hk => ?_⟩
  · rw [hr _ (zui_ hA hi hj)]
    simp
  · rw [hr _ (zui_ hA hi hj)]
    simp only [List.getD_eq_getElem?_getD, List.getElem?_replicate]
    split <;> rfl
structure HeadT (hs : List (List Value)) (ps : Nat → Option Addr × Nat) (nons n m : Nat) : Prop where
  len : hs.length = nons
  row : ∀ A, A < nons → (vls hs A).length = n * n
  val : ∀ A p, A < nons → p < n * n → (vls hs A)[p]? = some (.slice (ps (A * (n * n) + p)).1 (m + 1) (ps (A * (n * n) + p)).2)
section
variable {e e1 e2 nons n m c B1 B2 : Nat} {w : World} {X : Option Addr} {hs : List (List Value)} {hp ps : Nat → Option Addr × Nat} {ls : List (List Int)} {t : Nat → Nat → Nat → Nat → Nat}
theorem zfm_ (o : OwnV e1 e2 w B1 X c hs hp) (hh : HeadT hs ps nons n m) {A : Nat} (hA : A < nons) : w.cell? ((ad X).add A) = some (.slice (hp A).1 (n * n) (hp A).2) := by
  have := o.cell (j := A) (by rw [hh.len]; exact hA)
  rwa [hh.row A hA] at this
theorem zdr_ (o : OwnV e1 e2 w B1 X c hs hp) (hh : HeadT hs ps nons n m) {A : Nat} (hA : A < nons) (hn : 0 < n) : (hp A).1 = some (ad (hp A).1) := by
  have := o.own A (by rw [hh.len]; exact hA)
  rw [hh.row A hA] at this
  exact this.ptr (Nat.mul_pos hn hn)
theorem zgm_ (o : OwnV e1 e2 w B1 X c hs hp) (hh : HeadT hs ps nons n m) {A i j : Nat} (hA : A < nons) (hi : i < n) (hj : j < n) : w.cell? ((ad (hp A).1).add (i * n + j)) = some (.slice (ps (idxT n A i j)).1 (m + 1) (ps (idxT n A i j)).2) := by
  have := o.own A (by rw [hh.len]; exact hA)
  exact this.src.cell _ _ (hh.val A _ hA (zff_ hi hj))
theorem zer_ (f : Fam e w B2 ls ps) (hl : LeafT ls nons n m t) {A i j : Nat} (hA : A < nons) (hi : i < n) (hj : j < n) : (ps (idxT n A i j)).1 = some (ad (ps (idxT n A i j)).1) := by
  have := f.own (idxT n A i j) (by rw [hl.len]; exact zui_ hA hi hj)
  unfold Own at this
  rw [hl.row A i j hA hi hj] at this
  exact this.ptr (by omega)
theorem zgv_ (f : Fam e w B2 ls ps) (hl : LeafT ls nons n m t) {A i j k : Nat} (hA : A < nons) (hi : i < n) (hj : j < n) (hk : k ≤ m) : w.cell? ((ad (ps (idxT n A i j)).1).add k) = some (.int .i64 (t A i j k)) := by
  have := f.own (idxT n A i j) (by rw [hl.len]; exact zui_ hA hi hj)
  have hlen := hl.row A i j hA hi hj
  rw [← hl.val A i j k hA hi hj hk]
  refine this.src.cell _ _ ?_
  simp only [Sh.ints, List.getElem?_map, List.getD_eq_getElem?_getD]
  rw [List.getElem?_eq_getElem (by omega)]
  rfl
theorem tabR_of (o : OwnV e1 e2 w B1 X c hs hp) (f : Fam e w B2 ls ps) (hh : HeadT hs ps nons n m) (hl : LeafT ls nons n m t) (hn : 0 < n) : TabR w X nons n m t :=
  ⟨fun h => o.ptr (by rw [hh.len]; exact h), fun A hA => ⟨_, _, zfm_ o hh hA, zdr_ o hh hA hn, fun i j hi hj => ⟨_, _, zgm_ o hh hA hi hj, zer_ f hl hA hi hj, fun k hk => zgv_ f hl hA hi hj hk⟩⟩⟩
end
theorem cntR_back {c : Nat → Nat → Nat → Nat → Nat} {ws : List Int} {xs : List Int} {i j s : Nat} (h : j < i) : cntR c ws xs i j s = 0 := by
  cases xs with
  | nil => rw [cntR, if_neg (by omega)]
  | cons x xs =>
    rw [cntR]
    split
    · rw [if_neg (by omega)]
    · rw [show j + 1 - i = 0 from by omega]
      rfl
def addP (rs : List RuleL) (ws : List Int) (s A i j : Nat) (r : RuleL) : Nat := if r.1 = (A : Int) then cntR (cntC rs ws) ws r.2 i j (s - 1) else 0
theorem cntC_sum {rs : List RuleL} {ws : List Int} {A i j s : Nat} (hs : 0 < s) : cntC rs ws A i j s = sumR rs (addP rs ws s A i j) := by
  obtain ⟨s, rfl⟩ : ∃ s', s = s' + 1 := ⟨s - 1, by omega⟩
  rw [zcm_]
  rfl
def zic_ (M : Nat) (rs : List RuleL) (ws : List Int) (s q a b : Nat) (A i j k : Nat) : Nat :=
  if k < s then min M (cntC rs ws A i j k)
  else if k = s then min M (sumR (rs.take q) (addP rs ws s A i j) + if i < a ∨ (i = a ∧ j < b) then addP rs ws s A i j (rul rs q) else 0)
  else 0
theorem sumR_take {rs : List RuleL} {q : Nat} (h : q < rs.length) (p : RuleL → Nat) : sumR (rs.take (q + 1)) p = sumR (rs.take q) p + p (rul rs q) := by
  rw [List.take_succ_eq_append_getElem h, sumR_snoc, zpf_ h]
theorem fillT_row {M : Nat} {rs : List RuleL} {ws : List Int} {s q a : Nat} {n : Nat} {A i j k : Nat} (hj : j < n) : zic_ M rs ws s q (a + 1) 0 A i j k = zic_ M rs ws s q a n A i j k := by
  unfold zic_
  split
  · rfl
  · split
    · by_cases h1 : i < a ∨ (i = a ∧ j < n)
      · rw [if_pos h1, if_pos (by omega)]
      · rw [if_neg h1, if_neg (by omega)]
    · rfl
theorem fillT_col {M : Nat} {rs : List RuleL} {ws : List Int} {s q a : Nat} {A i j k : Nat} : zic_ M rs ws s q a a A i j k = zic_ M rs ws s q a 0 A i j k := by
  unfold zic_
  split
  · rfl
  · split
    · by_cases h1 : i < a
      · rw [if_pos (.inl h1), if_pos (.inl h1)]
      · by_cases h2 : i = a ∧ j < a
        · rw [if_pos (.inr h2), if_neg (by omega)]
          have : addP rs ws s A i j (rul rs q) = 0 := by
            unfold addP
            split
            · exact cntR_back (by omega)
            · rfl
          rw [this]
        · rw [if_neg (by omega), if_neg (by omega)]
    · rfl
theorem fillT_rule {M : Nat} {rs : List RuleL} {ws : List Int} {s q n : Nat} {A i j k : Nat} (hq : q < rs.length) (hi : i < n) : zic_ M rs ws s (q + 1) 0 0 A i j k = zic_ M rs ws s q n 0 A i j k := by
  unfold zic_
  split
  · rfl
  · split
    · rw [if_neg (by omega), if_pos (.inl hi), sumR_take hq, Nat.add_zero]
    · rfl
theorem fillT_size {M : Nat} {rs : List RuleL} {ws : List Int} {s : Nat} {A i j k : Nat} (hs : 0 < s) : zic_ M rs ws (s + 1) 0 0 0 A i j k = zic_ M rs ws s rs.length 0 0 A i j k := by
  unfold zic_
  by_cases h1 : k < s
  · rw [if_pos (by omega), if_pos h1]
  · rw [if_neg h1]
    by_cases h2 : k = s
    · subst h2
      rw [if_pos (by omega), if_pos rfl, if_neg (by omega), List.take_length, Nat.add_zero, cntC_sum hs]
    · rw [if_neg h2, if_neg (by omega)]
      split
      · rw [if_neg (by omega)]
        simp [sumR]
      · rfl
theorem fillT_start {M : Nat} {rs : List RuleL} {ws : List Int} {A i j k : Nat} : zic_ M rs ws 1 0 0 0 A i j k = 0 := by
  unfold zic_
  by_cases h1 : k < 1
  · rw [if_pos h1]
    obtain rfl : k = 0 := by omega
    rw [zbm_]
    omega
  · rw [if_neg h1]
    split
    · rw [if_neg (by omega)]
      simp [sumR]
    · rfl
theorem zpt_ {M : Nat} {rs : List RuleL} {ws : List Int} {s A i j k : Nat} (hk : k < s) {q a b : Nat} : zic_ M rs ws s q a b A i j k = min M (cntC rs ws A i j k) := by
  unfold zic_
  rw [if_pos hk]
theorem fillT_step {M : Nat} {rs : List RuleL} {ws : List Int} {s q a b x A i j k : Nat} (hx : (rul rs q).1 = (x : Int)) (h : ¬ (A = x ∧ i = a ∧ j = b ∧ k = s)) : zic_ M rs ws s q a (b + 1) A i j k = zic_ M rs ws s q a b A i j k := by
  unfold zic_
  split
  · rfl
  · split
    · rename_i h1 h2
      by_cases h3 : i = a ∧ j = b
      · have hA : ¬ (x : Int) = (A : Int) := fun e => h ⟨by omega, h3.1, h3.2, h2⟩
        have : addP rs ws s A i j (rul rs q) = 0 := by
          unfold addP
          rw [hx, if_neg hA]
        rw [this]
        simp
      · by_cases h4 : i < a ∨ (i = a ∧ j < b)
        · rw [if_pos h4, if_pos (by omega)]
        · rw [if_neg h4, if_neg (by omega)]
    · rfl
theorem fillT_at {M : Nat} {rs : List RuleL} {ws : List Int} {s q a b x : Nat} (hx : (rul rs q).1 = (x : Int)) : zic_ M rs ws s q a (b + 1) x a b s = min M (zic_ M rs ws s q a b x a b s + min M (cntR (cntC rs ws) ws (rul rs q).2 a b (s - 1))) := by
  unfold zic_
  rw [if_neg (Nat.lt_irrefl s), if_pos rfl, if_pos (.inr ⟨rfl, by omega⟩), if_neg (Nat.lt_irrefl s), if_pos rfl, if_neg (by omega), Nat.add_zero, cap_add]
  unfold addP
  rw [if_pos hx]
end Go.Sh
