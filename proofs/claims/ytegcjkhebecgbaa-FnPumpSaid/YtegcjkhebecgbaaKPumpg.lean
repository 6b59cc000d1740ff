/- Texts of this repository put together: Sh64, Sh65, ShQL, ShQ10, Cm, Sh66, ShIO. -/
import Derived.Test.YtegcjkhebecgbaaKPumpf
import Derived.Test.YtegcjkhebecgbaaKPumpc
import Derived.Test.YtegcjkhebecgbaaProg
import Derived.Test.YtegcjkhebecgbaaKPumpa
import Derived.Test.YtegcjkhebecgbaaRows
import Derived.JoinedOf
import Derived.KernelRfl

set_option linter.unusedVariables false
set_option linter.unusedSimpArgs false
set_option maxRecDepth 100000
namespace Go.Proofs.Ytegcjkhebecgbaa
open Go Go.Sh Go.RowKit
section
variable {w : World} {k : Value → World → Prop} {Y X Z : Option Addr} {cy cx cz : Nat} {gm : Gram} {ws t : List Int}
set_option maxHeartbeats 3200000 in
theorem zxv_ (hG : kG Y cy gm.rules w) (hX : Ints w X t) (hk : ∀ w' U d, Gr w w' → Own 3 w' w.heap.size U d (zjc_ gm t).1 → k (.tuple #[.slice U (zjc_ gm t).1.length d, .bool (zjc_ gm t).2]) w') :
    CallK Try.prog 232 [grv gm Y cy, .int .i64 0, .slice X t.length cx] k w := by
  refine enter232 ?_
  unfold S232
  have H := (Kn.nil w).addG hG.1 hG.2
  refine zpd_ fun b1 w1 g1 hb B1 => ?_
  have H := (H.step g1).addB B1
  simp only [List.cons_append, List.nil_append] at H
  have no : zge_ gm t = none → ∀ w', Gr w w' → k (.tuple #[.slice none 0 0, .bool false]) w' := fun h w' g => by
    have := hk w' none 0 g
    unfold zjc_ at this
    rw [h] at this
    exact this (Row.nil _ _ _ _)
  have asked0 : zdc_ gm t = false → zge_ gm t = none := fun h => by
    unfold zge_
    rw [h, if_neg Bool.false_ne_true]
  rw [zv_ zdb_ sz26 rfl (H.get 2 rfl)]
  refine zur_ (gvK (H.get 1 rfl)) fun w2 g => ?_
  have H := H.step g
  have hdef : zdc_ gm t = (zy_ gm && decide (t.length ≤ 60) && isT gm t) := rfl
  cases hg : zy_ gm
  · simp only [Bool.false_and, Bool.not_false, zq18, zq19, zq20, zq21, zq22, zq23, zq24, zq25, zq26, zq27, zq28, zq4, zq3, zq1, zq2, zq0, zq29, zq30, zq14, zq15, zq16, zq17, zq13, zq10, zq12, zq11, zq7, zq5, zq6, zq9, zq8, zq31, zq32, ite_T, ite_F, zq33, zq34, zq35, Nat.reduceEqDiff, len22, len24, fa26_0, fa26_1, fa26_2, len27, fa33_0, fa33_1, len35, fa114_0, fa114_1, fa114_2, fa124_0, fa124_1, len134, len154, fa156_0, fa156_1, fa156_2, fa156_3, fa156_4, fa156_5, fa156_6, len271, fa274_0, fa274_1, fa274_2]
    exact no (asked0 (by rw [hdef, hg]; rfl)) _ (H.get 0 rfl)
  have hn := ztc_ hg
  rw [show inB 0 0 (gm.nons - 1) = true from by simp only [inB, Bool.and_eq_true, decide_eq_true_eq]; omega]
  by_cases hl : t.length ≤ 60
  case neg =>
    simp only [hl, decide_false, Bool.and_false, Bool.not_false, zq18, zq19, zq20, zq21, zq22, zq23, zq24, zq25, zq26, zq27, zq28, zq4, zq3, zq1, zq2, zq0, zq29, zq30, zq14, zq15, zq16, zq17, zq13, zq10, zq12, zq11, zq7, zq5, zq6, zq9, zq8, zq31, zq32, ite_T, ite_F, zq33, zq34, zq35, Nat.reduceEqDiff, len22, len24, fa26_0, fa26_1, fa26_2, len27, fa33_0, fa33_1, len35, fa114_0, fa114_1, fa114_2, fa124_0, fa124_1, len134, len154, fa156_0, fa156_1, fa156_2, fa156_3, fa156_4, fa156_5, fa156_6, len271, fa274_0, fa274_1, fa274_2]
    exact no (asked0 (by rw [hdef, decide_eq_false hl]; simp)) _ (H.get 0 rfl)
  simp only [hl, decide_true, Bool.and_true, Bool.not_true, zq18, zq19, zq20, zq21, zq22, zq23, zq24, zq25, zq26, zq27, zq28, zq4, zq3, zq1, zq2, zq0, zq29, zq30, zq14, zq15, zq16, zq17, zq13, zq10, zq12, zq11, zq7, zq5, zq6, zq9, zq8, zq31, zq32, ite_T, ite_F, zq33, zq34, zq35, Nat.reduceEqDiff, len22, len24, fa26_0, fa26_1, fa26_2, len27, fa33_0, fa33_1, len35, fa114_0, fa114_1, fa114_2, fa124_0, fa124_1, len134, len154, fa156_0, fa156_1, fa156_2, fa156_3, fa156_4, fa156_5, fa156_6, len271, fa274_0, fa274_1, fa274_2]
  rw [zv_ zdb_ sz26 rfl (H.get 2 rfl)]
  have hX2 := fun w' (g : Gr w w') => hX.gr g
  refine l11Is_c (gvK (H.get 1 rfl)) hg (hX2 _ (H.get 0 rfl)) rfl (by omega) fun w3 g => ?_
  have H := H.step g
  cases hi : isT gm t
  · simp only [Bool.not_false, zq18, zq19, zq20, zq21, zq22, zq23, zq24, zq25, zq26, zq27, zq28, zq4, zq3, zq1, zq2, zq0, zq29, zq30, zq14, zq15, zq16, zq17, zq13, zq10, zq12, zq11, zq7, zq5, zq6, zq9, zq8, zq31, zq32, ite_T, ite_F, zq33, zq34, zq35, Nat.reduceEqDiff, len22, len24, fa26_0, fa26_1, fa26_2, len27, fa33_0, fa33_1, len35, fa114_0, fa114_1, fa114_2, fa124_0, fa124_1, len134, len154, fa156_0, fa156_1, fa156_2, fa156_3, fa156_4, fa156_5, fa156_6, len271, fa274_0, fa274_1, fa274_2]
    exact no (asked0 (by rw [hdef, hi]; simp)) _ (H.get 0 rfl)
  simp only [Bool.not_true, zq18, zq19, zq20, zq21, zq22, zq23, zq24, zq25, zq26, zq27, zq28, zq4, zq3, zq1, zq2, zq0, zq29, zq30, zq14, zq15, zq16, zq17, zq13, zq10, zq12, zq11, zq7, zq5, zq6, zq9, zq8, zq31, zq32, ite_T, ite_F, zq33, zq34, zq35, Nat.reduceEqDiff, len22, len24, fa26_0, fa26_1, fa26_2, len27, fa33_0, fa33_1, len35, fa114_0, fa114_1, fa114_2, fa124_0, fa124_1, len134, len154, fa156_0, fa156_1, fa156_2, fa156_3, fa156_4, fa156_5, fa156_6, len271, fa274_0, fa274_1, fa274_2]
  have ha : zdc_ gm t = true := by rw [hdef, hg, hi, decide_eq_true hl]; rfl
  obtain ⟨p, u, hW⟩ := asked_whole.1 ha
  have hU : zge_ gm t = some u := by
    unfold zge_
    rw [if_pos ha, hW.read]
    rfl
  have htr := (treeU_iff.1 hU).2.2
  have hul := tr_len (fun q hq => (zpj_ hg hq).1) htr
  dsimp only at hul
  rw [zv_ zdb_ sz26 rfl (H.get 2 rfl)]
  refine l11Yield_c hg (by omega) t.length (pre := []) (t := t) (post := []) (A := 0) (Nat.le_refl _) (by simp) htr (H.get 1 rfl) (hX2 _ (H.get 0 rfl)) fun w4 U d g hUk => ?_
  have hsz := (H.get 0 rfl).size
  have H := H.step g
  simp only [zq18, zq19, zq20, zq21, zq22, zq23, zq24, zq25, zq26, zq27, zq28, zq4, zq3, zq1, zq2, zq0, zq29, zq30, zq14, zq15, zq16, zq17, zq13, zq10, zq12, zq11, zq7, zq5, zq6, zq9, zq8, zq31, zq32, ite_T, ite_F, zq33, zq34, zq35, Nat.reduceEqDiff, len22, len24, fa26_0, fa26_1, fa26_2, len27, fa33_0, fa33_1, len35, fa114_0, fa114_1, fa114_2, fa124_0, fa124_1, len134, len154, fa156_0, fa156_1, fa156_2, fa156_3, fa156_4, fa156_5, fa156_6, len271, fa274_0, fa274_1, fa274_2]
  have := hk w4 U d (H.get 0 rfl)
  unfold zjc_ at this
  rw [hU] at this
  dsimp only at this
  by_cases h10 : u.length ≤ 10
  · rw [if_pos h10] at this
    simp only [show ¬ ((10 : Int) < (u.length : Int)) from by omega, decide_false, zq18, zq19, zq20, zq21, zq22, zq23, zq24, zq25, zq26, zq27, zq28, zq4, zq3, zq1, zq2, zq0, zq29, zq30, zq14, zq15, zq16, zq17, zq13, zq10, zq12, zq11, zq7, zq5, zq6, zq9, zq8, zq31, zq32, ite_T, ite_F, zq33, zq34, zq35, Nat.reduceEqDiff, len22, len24, fa26_0, fa26_1, fa26_2, len27, fa33_0, fa33_1, len35, fa114_0, fa114_1, fa114_2, fa124_0, fa124_1, len134, len154, fa156_0, fa156_1, fa156_2, fa156_3, fa156_4, fa156_5, fa156_6, len271, fa274_0, fa274_1, fa274_2]
    exact this (Row.mono hUk hsz)
  · simp only [show ((10 : Int) < (u.length : Int)) from by omega, decide_true, zq18, zq19, zq20, zq21, zq22, zq23, zq24, zq25, zq26, zq27, zq28, zq4, zq3, zq1, zq2, zq0, zq29, zq30, zq14, zq15, zq16, zq17, zq13, zq10, zq12, zq11, zq7, zq5, zq6, zq9, zq8, zq31, zq32, ite_T, ite_F, zq33, zq34, zq35, Nat.reduceEqDiff, len22, len24, fa26_0, fa26_1, fa26_2, len27, fa33_0, fa33_1, len35, fa114_0, fa114_1, fa114_2, fa124_0, fa124_1, len134, len154, fa156_0, fa156_1, fa156_2, fa156_3, fa156_4, fa156_5, fa156_6, len271, fa274_0, fa274_1, fa274_2]
    have := hk w4 none 0 (H.get 0 rfl)
    unfold zjc_ at this
    rw [hU] at this
    dsimp only at this
    rw [if_neg h10] at this
    exact this (Row.nil _ _ _ _)
theorem zut_ {p : PT} {u : List Int} (hg : zy_ gm = true) (hl : t.length ≤ 60) (h : ztb_ gm.rules t t.length 0 0 [] = some (p, u)) : zge_ gm t = if p.fin = t.length then some u else none := by
  by_cases hf : p.fin = t.length
  · rw [if_pos hf]
    have hW : Whole gm t p u := ⟨hg, hl, h, hf⟩
    have ha : zdc_ gm t = true := by
      cases e : zdc_ gm t with
      | true => rfl
      | false => exact absurd hW (asked_whole.2 e p u)
    unfold zge_
    rw [if_pos ha, h]
    rfl
  · rw [if_neg hf]
    cases hu : zge_ gm t with
    | none => rfl
    | some v =>
      exfalso
      obtain ⟨_, _, htr⟩ := treeU_iff.1 hu
      obtain ⟨p', hW⟩ := zrj_ hg hl htr
      have := hW.read
      rw [h] at this
      simp only [Option.some.injEq, Prod.mk.injEq] at this
      exact hf (this.1 ▸ hW.fin)
theorem treeU_no (hg : zy_ gm = true) (h : ztb_ gm.rules t t.length 0 0 [] = none) : zge_ gm t = none := by
  unfold zge_
  split
  · rw [h]; rfl
  · rfl
set_option maxHeartbeats 3200000 in
theorem zyv_ (hG : kG Y cy gm.rules w) (hX : Ints w X t) (hk : ∀ w' U d, Gr w w' → kI U (zjc_ gm t).1 d w' → k (.tuple #[.slice U (zjc_ gm t).1.length d, .bool (zjc_ gm t).2]) w') :
    CallK Try.prog 114 [grv gm Y cy, .int .i64 0, .slice X t.length cx] k w := by
  refine enter114 ?_
  unfold S114
  have H := (Kn.nil w).addG hG.1 hG.2
  refine zpd_ fun b1 w1 g1 hb B1 => ?_
  have H := (H.step g1).addB B1
  simp only [List.cons_append, List.nil_append] at H
  have no : (zjc_ gm t) = ([], false) → ∀ w', Gr w w' → k (.tuple #[.slice none 0 0, .bool false]) w' := fun h w' g => by
    have := hk w' none 0 g
    rw [h] at this
    exact this ⟨⟨by simp, fun h => by simp at h, fun j hj => by simp at hj⟩, Nat.le_refl _⟩
  have no1 : zge_ gm t = none → zjc_ gm t = ([], false) := fun h => by
    unfold zjc_
    rw [h]
  have hdef : zdc_ gm t = (zy_ gm && decide (t.length ≤ 60) && isT gm t) := rfl
  have asked0 : zdc_ gm t = false → zge_ gm t = none := fun h => by
    unfold zge_
    rw [h, if_neg Bool.false_ne_true]
  rw [zv_ zdb_ sz26 rfl (H.get 2 rfl)]
  refine zug_ (gvK (H.get 1 rfl)) fun w2 g => ?_
  have H := H.step g
  cases hg : zy_ gm
  · simp only [Bool.not_false, zq18, zq19, zq20, zq21, zq22, zq23, zq24, zq25, zq26, zq27, zq28, zq4, zq3, zq1, zq2, zq0, zq29, zq30, zq14, zq15, zq16, zq17, zq13, zq10, zq12, zq11, zq7, zq5, zq6, zq9, zq8, zq31, zq32, ite_T, ite_F, zq33, zq34, zq35, Nat.reduceEqDiff, len22, len24, fa26_0, fa26_1, fa26_2, len27, fa33_0, fa33_1, len35, fa114_0, fa114_1, fa114_2, fa124_0, fa124_1, len134, len154, fa156_0, fa156_1, fa156_2, fa156_3, fa156_4, fa156_5, fa156_6, len271, fa274_0, fa274_1, fa274_2]
    exact no (no1 (asked0 (by rw [hdef, hg]; rfl))) _ (H.get 0 rfl)
  have hn := ztc_ hg
  simp only [Bool.not_true, zq18, zq19, zq20, zq21, zq22, zq23, zq24, zq25, zq26, zq27, zq28, zq4, zq3, zq1, zq2, zq0, zq29, zq30, zq14, zq15, zq16, zq17, zq13, zq10, zq12, zq11, zq7, zq5, zq6, zq9, zq8, zq31, zq32, ite_T, ite_F, zq33, zq34, zq35, Nat.reduceEqDiff, len22, len24, fa26_0, fa26_1, fa26_2, len27, fa33_0, fa33_1, len35, fa114_0, fa114_1, fa114_2, fa124_0, fa124_1, len134, len154, fa156_0, fa156_1, fa156_2, fa156_3, fa156_4, fa156_5, fa156_6, len271, fa274_0, fa274_1, fa274_2]
  rw [ldB3 (H.get 2 rfl) rfl]
  simp only [zq18, zq19, zq20, zq21, zq22, zq23, zq24, zq25, zq26, zq27, zq28, zq4, zq3, zq1, zq2, zq0, zq29, zq30, zq14, zq15, zq16, zq17, zq13, zq10, zq12, zq11, zq7, zq5, zq6, zq9, zq8, zq31, zq32, ite_T, ite_F, zq33, zq34, zq35, Nat.reduceEqDiff, len22, len24, fa26_0, fa26_1, fa26_2, len27, fa33_0, fa33_1, len35, fa114_0, fa114_1, fa114_2, fa124_0, fa124_1, len134, len154, fa156_0, fa156_1, fa156_2, fa156_3, fa156_4, fa156_5, fa156_6, len271, fa274_0, fa274_1, fa274_2]
  rw [zj_ (by omega) (by omega)]
  refine in_c ?_
  rw [show inB 0 0 (gm.nons - 1) = true from by simp only [inB, Bool.and_eq_true, decide_eq_true_eq]; omega]
  simp only [Bool.not_true, zq18, zq19, zq20, zq21, zq22, zq23, zq24, zq25, zq26, zq27, zq28, zq4, zq3, zq1, zq2, zq0, zq29, zq30, zq14, zq15, zq16, zq17, zq13, zq10, zq12, zq11, zq7, zq5, zq6, zq9, zq8, zq31, zq32, ite_T, ite_F, zq33, zq34, zq35, Nat.reduceEqDiff, len22, len24, fa26_0, fa26_1, fa26_2, len27, fa33_0, fa33_1, len35, fa114_0, fa114_1, fa114_2, fa124_0, fa124_1, len134, len154, fa156_0, fa156_1, fa156_2, fa156_3, fa156_4, fa156_5, fa156_6, len271, fa274_0, fa274_1, fa274_2]
  by_cases hl : t.length ≤ 60
  case neg =>
    simp only [show ((60 : Int) < (t.length : Int)) from by omega, decide_true, zq18, zq19, zq20, zq21, zq22, zq23, zq24, zq25, zq26, zq27, zq28, zq4, zq3, zq1, zq2, zq0, zq29, zq30, zq14, zq15, zq16, zq17, zq13, zq10, zq12, zq11, zq7, zq5, zq6, zq9, zq8, zq31, zq32, ite_T, ite_F, zq33, zq34, zq35, Nat.reduceEqDiff, len22, len24, fa26_0, fa26_1, fa26_2, len27, fa33_0, fa33_1, len35, fa114_0, fa114_1, fa114_2, fa124_0, fa124_1, len134, len154, fa156_0, fa156_1, fa156_2, fa156_3, fa156_4, fa156_5, fa156_6, len271, fa274_0, fa274_1, fa274_2]
    exact no (no1 (asked0 (by rw [hdef, decide_eq_false hl]; simp))) _ (H.get 0 rfl)
  simp only [show ¬ ((60 : Int) < (t.length : Int)) from by omega, decide_false, zq18, zq19, zq20, zq21, zq22, zq23, zq24, zq25, zq26, zq27, zq28, zq4, zq3, zq1, zq2, zq0, zq29, zq30, zq14, zq15, zq16, zq17, zq13, zq10, zq12, zq11, zq7, zq5, zq6, zq9, zq8, zq31, zq32, ite_T, ite_F, zq33, zq34, zq35, Nat.reduceEqDiff, len22, len24, fa26_0, fa26_1, fa26_2, len27, fa33_0, fa33_1, len35, fa114_0, fa114_1, fa114_2, fa124_0, fa124_1, len134, len154, fa156_0, fa156_1, fa156_2, fa156_3, fa156_4, fa156_5, fa156_6, len271, fa274_0, fa274_1, fa274_2]
  rw [zv_ zdb_ sz26 rfl (H.get 2 rfl)]
  refine tree_c hg hl (gvK (H.get 1 rfl)) (hX.gr (H.get 0 rfl)) rfl (fun hz w3 v1 v2 g => ?_) fun p u hz w3 b E W cw A => ?_
  · have H := H.step g
    simp only [zmg_, zpg_, zrg_, Bool.not_false, zq18, zq19, zq20, zq21, zq22, zq23, zq24, zq25, zq26, zq27, zq28, zq4, zq3, zq1, zq2, zq0, zq29, zq30, zq14, zq15, zq16, zq17, zq13, zq10, zq12, zq11, zq7, zq5, zq6, zq9, zq8, zq31, zq32, ite_T, ite_F, zq33, zq34, zq35, Nat.reduceEqDiff, len22, len24, fa26_0, fa26_1, fa26_2, len27, fa33_0, fa33_1, len35, fa114_0, fa114_1, fa114_2, fa124_0, fa124_1, len134, len154, fa156_0, fa156_1, fa156_2, fa156_3, fa156_4, fa156_5, fa156_6, len271, fa274_0, fa274_1, fa274_2]
    exact no (no1 (treeU_no hg hz)) _ (H.get 0 rfl)
  have H := H.step A.gr
  have hU := zut_ hg hl hz
  obtain ⟨XK, cK, hBox, _⟩ := PartAt.box (A.get 1 rfl)
  simp only [zmg_, zpg_, zrg_, Bool.not_true, zq18, zq19, zq20, zq21, zq22, zq23, zq24, zq25, zq26, zq27, zq28, zq4, zq3, zq1, zq2, zq0, zq29, zq30, zq14, zq15, zq16, zq17, zq13, zq10, zq12, zq11, zq7, zq5, zq6, zq9, zq8, zq31, zq32, ite_T, ite_F, zq33, zq34, zq35, Nat.reduceEqDiff, len22, len24, fa26_0, fa26_1, fa26_2, len27, fa33_0, fa33_1, len35, fa114_0, fa114_1, fa114_2, fa124_0, fa124_1, len134, len154, fa156_0, fa156_1, fa156_2, fa156_3, fa156_4, fa156_5, fa156_6, len271, fa274_0, fa274_1, fa274_2]
  rw [ldB3 hBox rfl]
  simp only [zq18, zq19, zq20, zq21, zq22, zq23, zq24, zq25, zq26, zq27, zq28, zq4, zq3, zq1, zq2, zq0, zq29, zq30, zq14, zq15, zq16, zq17, zq13, zq10, zq12, zq11, zq7, zq5, zq6, zq9, zq8, zq31, zq32, ite_T, ite_F, zq33, zq34, zq35, Nat.reduceEqDiff, len22, len24, fa26_0, fa26_1, fa26_2, len27, fa33_0, fa33_1, len35, fa114_0, fa114_1, fa114_2, fa124_0, fa124_1, len134, len154, fa156_0, fa156_1, fa156_2, fa156_3, fa156_4, fa156_5, fa156_6, len271, fa274_0, fa274_1, fa274_2]
  by_cases hf : p.fin = t.length
  case neg =>
    rw [if_neg hf] at hU
    simp only [show ¬ ((p.fin : Int) = (t.length : Int)) from by omega, decide_false, Bool.not_false, zq18, zq19, zq20, zq21, zq22, zq23, zq24, zq25, zq26, zq27, zq28, zq4, zq3, zq1, zq2, zq0, zq29, zq30, zq14, zq15, zq16, zq17, zq13, zq10, zq12, zq11, zq7, zq5, zq6, zq9, zq8, zq31, zq32, ite_T, ite_F, zq33, zq34, zq35, Nat.reduceEqDiff, len22, len24, fa26_0, fa26_1, fa26_2, len27, fa33_0, fa33_1, len35, fa114_0, fa114_1, fa114_2, fa124_0, fa124_1, len134, len154, fa156_0, fa156_1, fa156_2, fa156_3, fa156_4, fa156_5, fa156_6, len271, fa274_0, fa274_1, fa274_2]
    exact no (no1 hU) _ (H.get 0 rfl)
  rw [if_pos hf] at hU
  simp only [show ((p.fin : Int) = (t.length : Int)) from by omega, decide_true, Bool.not_true, zq18, zq19, zq20, zq21, zq22, zq23, zq24, zq25, zq26, zq27, zq28, zq4, zq3, zq1, zq2, zq0, zq29, zq30, zq14, zq15, zq16, zq17, zq13, zq10, zq12, zq11, zq7, zq5, zq6, zq9, zq8, zq31, zq32, ite_T, ite_F, zq33, zq34, zq35, Nat.reduceEqDiff, len22, len24, fa26_0, fa26_1, fa26_2, len27, fa33_0, fa33_1, len35, fa114_0, fa114_1, fa114_2, fa124_0, fa124_1, len134, len154, fa156_0, fa156_1, fa156_2, fa156_3, fa156_4, fa156_5, fa156_6, len271, fa274_0, fa274_1, fa274_2]
  by_cases h10 : u.length ≤ 10
  · have e : zjc_ gm t = (u, true) := by
      unfold zjc_
      rw [hU]
      exact if_pos h10
    simp only [show ¬ ((10 : Int) < (u.length : Int)) from by omega, decide_false, zq18, zq19, zq20, zq21, zq22, zq23, zq24, zq25, zq26, zq27, zq28, zq4, zq3, zq1, zq2, zq0, zq29, zq30, zq14, zq15, zq16, zq17, zq13, zq10, zq12, zq11, zq7, zq5, zq6, zq9, zq8, zq31, zq32, ite_T, ite_F, zq33, zq34, zq35, Nat.reduceEqDiff, len22, len24, fa26_0, fa26_1, fa26_2, len27, fa33_0, fa33_1, len35, fa114_0, fa114_1, fa114_2, fa124_0, fa124_1, len134, len154, fa156_0, fa156_1, fa156_2, fa156_3, fa156_4, fa156_5, fa156_6, len271, fa274_0, fa274_1, fa274_2]
    have := hk w3 W cw (H.get 0 rfl)
    rw [e] at this
    exact this ⟨A.ints 0 rfl, (A.row 0 rfl).cap.1⟩
  · have e : zjc_ gm t = ([], false) := by
      unfold zjc_
      rw [hU]
      exact if_neg h10
    simp only [show ((10 : Int) < (u.length : Int)) from by omega, decide_true, zq18, zq19, zq20, zq21, zq22, zq23, zq24, zq25, zq26, zq27, zq28, zq4, zq3, zq1, zq2, zq0, zq29, zq30, zq14, zq15, zq16, zq17, zq13, zq10, zq12, zq11, zq7, zq5, zq6, zq9, zq8, zq31, zq32, ite_T, ite_F, zq33, zq34, zq35, Nat.reduceEqDiff, len22, len24, fa26_0, fa26_1, fa26_2, len27, fa33_0, fa33_1, len35, fa114_0, fa114_1, fa114_2, fa124_0, fa124_1, len134, len154, fa156_0, fa156_1, fa156_2, fa156_3, fa156_4, fa156_5, fa156_6, len271, fa274_0, fa274_1, fa274_2]
    exact no e _ (H.get 0 rfl)
set_option maxHeartbeats 3200000 in
theorem zdu_ (hG : kG Y cy gm.rules w) (hZ : kI Z ws cz w) (hX : kI X t cx w) (hk : ∀ w', Gr w w' → k (.tuple #[.bool (zke_ gm ws t).1, .bool (zke_ gm ws t).2]) w') :
    CallK Try.prog 51 [grv gm Y cy, .slice Z ws.length cz, .slice X t.length cx] k w := by
  refine enter51 ?_
  unfold S51
  have H := (((Kn.nil w).addG hG.1 hG.2).addI hZ.1 hZ.2).addI hX.1 hX.2
  refine zpd_ fun b1 w1 g1 hb B1 => ?_
  have H := (H.step g1).addB B1
  simp only [List.cons_append, List.nil_append] at H
  have no : (zke_ gm ws t) = (false, false) → ∀ w', Gr w w' → k (.tuple #[.bool false, .bool false]) w' := fun h w' g => by
    have := hk w' g
    rwa [h] at this
  rw [zv_ zdb_ sz26 rfl (H.get 4 rfl)]
  refine zug_ (gvK (H.get 1 rfl)) fun w2 g => ?_
  have H := H.step g
  cases hg : zy_ gm
  · simp only [Bool.not_false, zq18, zq19, zq20, zq21, zq22, zq23, zq24, zq25, zq26, zq27, zq28, zq4, zq3, zq1, zq2, zq0, zq29, zq30, zq14, zq15, zq16, zq17, zq13, zq10, zq12, zq11, zq7, zq5, zq6, zq9, zq8, zq31, zq32, ite_T, ite_F, zq33, zq34, zq35, Nat.reduceEqDiff, len22, len24, fa26_0, fa26_1, fa26_2, len27, fa33_0, fa33_1, len35, fa114_0, fa114_1, fa114_2, fa124_0, fa124_1, len134, len154, fa156_0, fa156_1, fa156_2, fa156_3, fa156_4, fa156_5, fa156_6, len271, fa274_0, fa274_1, fa274_2]
    exact no (by unfold zke_; rw [hg]; rfl) _ (H.get 0 rfl)
  have ht := zie_ hg
  simp only [Bool.not_true, zq18, zq19, zq20, zq21, zq22, zq23, zq24, zq25, zq26, zq27, zq28, zq4, zq3, zq1, zq2, zq0, zq29, zq30, zq14, zq15, zq16, zq17, zq13, zq10, zq12, zq11, zq7, zq5, zq6, zq9, zq8, zq31, zq32, ite_T, ite_F, zq33, zq34, zq35, Nat.reduceEqDiff, len22, len24, fa26_0, fa26_1, fa26_2, len27, fa33_0, fa33_1, len35, fa114_0, fa114_1, fa114_2, fa124_0, fa124_1, len134, len154, fa156_0, fa156_1, fa156_2, fa156_3, fa156_4, fa156_5, fa156_6, len271, fa274_0, fa274_1, fa274_2]
  rw [ldB3 (H.get 4 rfl) rfl]
  refine zxp_ (H.get 2 rfl).1 rfl (by omega) (by omega) fun w3 g => ?_
  have H := H.step g
  cases hw : zpc_ gm.toks ws
  · simp only [Bool.not_false, zq18, zq19, zq20, zq21, zq22, zq23, zq24, zq25, zq26, zq27, zq28, zq4, zq3, zq1, zq2, zq0, zq29, zq30, zq14, zq15, zq16, zq17, zq13, zq10, zq12, zq11, zq7, zq5, zq6, zq9, zq8, zq31, zq32, ite_T, ite_F, zq33, zq34, zq35, Nat.reduceEqDiff, len22, len24, fa26_0, fa26_1, fa26_2, len27, fa33_0, fa33_1, len35, fa114_0, fa114_1, fa114_2, fa124_0, fa124_1, len134, len154, fa156_0, fa156_1, fa156_2, fa156_3, fa156_4, fa156_5, fa156_6, len271, fa274_0, fa274_1, fa274_2]
    exact no (by unfold zke_; rw [hg, hw]; rfl) _ (H.get 0 rfl)
  simp only [Bool.not_true, zq18, zq19, zq20, zq21, zq22, zq23, zq24, zq25, zq26, zq27, zq28, zq4, zq3, zq1, zq2, zq0, zq29, zq30, zq14, zq15, zq16, zq17, zq13, zq10, zq12, zq11, zq7, zq5, zq6, zq9, zq8, zq31, zq32, ite_T, ite_F, zq33, zq34, zq35, Nat.reduceEqDiff, len22, len24, fa26_0, fa26_1, fa26_2, len27, fa33_0, fa33_1, len35, fa114_0, fa114_1, fa114_2, fa124_0, fa124_1, len134, len154, fa156_0, fa156_1, fa156_2, fa156_3, fa156_4, fa156_5, fa156_6, len271, fa274_0, fa274_1, fa274_2]
  by_cases hl : t.length ≤ 60
  case neg =>
    simp only [show ((60 : Int) < (t.length : Int)) from by omega, decide_true, zq18, zq19, zq20, zq21, zq22, zq23, zq24, zq25, zq26, zq27, zq28, zq4, zq3, zq1, zq2, zq0, zq29, zq30, zq14, zq15, zq16, zq17, zq13, zq10, zq12, zq11, zq7, zq5, zq6, zq9, zq8, zq31, zq32, ite_T, ite_F, zq33, zq34, zq35, Nat.reduceEqDiff, len22, len24, fa26_0, fa26_1, fa26_2, len27, fa33_0, fa33_1, len35, fa114_0, fa114_1, fa114_2, fa124_0, fa124_1, len134, len154, fa156_0, fa156_1, fa156_2, fa156_3, fa156_4, fa156_5, fa156_6, len271, fa274_0, fa274_1, fa274_2]
    exact no (by unfold zke_; rw [hg, hw, decide_eq_false hl]; rfl) _ (H.get 0 rfl)
  simp only [show ¬ ((60 : Int) < (t.length : Int)) from by omega, decide_false, zq18, zq19, zq20, zq21, zq22, zq23, zq24, zq25, zq26, zq27, zq28, zq4, zq3, zq1, zq2, zq0, zq29, zq30, zq14, zq15, zq16, zq17, zq13, zq10, zq12, zq11, zq7, zq5, zq6, zq9, zq8, zq31, zq32, ite_T, ite_F, zq33, zq34, zq35, Nat.reduceEqDiff, len22, len24, fa26_0, fa26_1, fa26_2, len27, fa33_0, fa33_1, len35, fa114_0, fa114_1, fa114_2, fa124_0, fa124_1, len134, len154, fa156_0, fa156_1, fa156_2, fa156_3, fa156_4, fa156_5, fa156_6, len271, fa274_0, fa274_1, fa274_2]
  have hV : zke_ gm ws t = (decide (zge_ gm t = some ws), true) := by
    unfold zke_
    rw [hg, hw, decide_eq_true hl]
    rfl
  rw [zv_ zdb_ sz26 rfl (H.get 4 rfl)]
  refine tree_c hg hl (gvK (H.get 1 rfl)) (H.get 3 rfl).1 rfl (fun hz w3 v1 v2 g => ?_) fun p u hz w4 b E W cw A => ?_
  · have H := H.step g
    simp only [zmg_, zpg_, zrg_, zq18, zq19, zq20, zq21, zq22, zq23, zq24, zq25, zq26, zq27, zq28, zq4, zq3, zq1, zq2, zq0, zq29, zq30, zq14, zq15, zq16, zq17, zq13, zq10, zq12, zq11, zq7, zq5, zq6, zq9, zq8, zq31, zq32, ite_T, ite_F, zq33, zq34, zq35, Nat.reduceEqDiff, len22, len24, fa26_0, fa26_1, fa26_2, len27, fa33_0, fa33_1, len35, fa114_0, fa114_1, fa114_2, fa124_0, fa124_1, len134, len154, fa156_0, fa156_1, fa156_2, fa156_3, fa156_4, fa156_5, fa156_6, len271, fa274_0, fa274_1, fa274_2]
    have := hk _ (H.get 0 rfl)
    rw [hV, treeU_no hg hz] at this
    simpa using this
  have H := H.step A.gr
  have hU := zut_ hg hl hz
  obtain ⟨XK, cK, hBox, _⟩ := PartAt.box (A.get 1 rfl)
  simp only [zmg_, zpg_, zrg_, zq18, zq19, zq20, zq21, zq22, zq23, zq24, zq25, zq26, zq27, zq28, zq4, zq3, zq1, zq2, zq0, zq29, zq30, zq14, zq15, zq16, zq17, zq13, zq10, zq12, zq11, zq7, zq5, zq6, zq9, zq8, zq31, zq32, ite_T, ite_F, zq33, zq34, zq35, Nat.reduceEqDiff, len22, len24, fa26_0, fa26_1, fa26_2, len27, fa33_0, fa33_1, len35, fa114_0, fa114_1, fa114_2, fa124_0, fa124_1, len134, len154, fa156_0, fa156_1, fa156_2, fa156_3, fa156_4, fa156_5, fa156_6, len271, fa274_0, fa274_1, fa274_2]
  rw [ldB3 hBox rfl]
  simp only [zq18, zq19, zq20, zq21, zq22, zq23, zq24, zq25, zq26, zq27, zq28, zq4, zq3, zq1, zq2, zq0, zq29, zq30, zq14, zq15, zq16, zq17, zq13, zq10, zq12, zq11, zq7, zq5, zq6, zq9, zq8, zq31, zq32, ite_T, ite_F, zq33, zq34, zq35, Nat.reduceEqDiff, len22, len24, fa26_0, fa26_1, fa26_2, len27, fa33_0, fa33_1, len35, fa114_0, fa114_1, fa114_2, fa124_0, fa124_1, len134, len154, fa156_0, fa156_1, fa156_2, fa156_3, fa156_4, fa156_5, fa156_6, len271, fa274_0, fa274_1, fa274_2]
  by_cases hf : p.fin = t.length
  case neg =>
    rw [if_neg hf] at hU
    simp only [show ¬ ((p.fin : Int) = (t.length : Int)) from by omega, decide_false, zq18, zq19, zq20, zq21, zq22, zq23, zq24, zq25, zq26, zq27, zq28, zq4, zq3, zq1, zq2, zq0, zq29, zq30, zq14, zq15, zq16, zq17, zq13, zq10, zq12, zq11, zq7, zq5, zq6, zq9, zq8, zq31, zq32, ite_T, ite_F, zq33, zq34, zq35, Nat.reduceEqDiff, len22, len24, fa26_0, fa26_1, fa26_2, len27, fa33_0, fa33_1, len35, fa114_0, fa114_1, fa114_2, fa124_0, fa124_1, len134, len154, fa156_0, fa156_1, fa156_2, fa156_3, fa156_4, fa156_5, fa156_6, len271, fa274_0, fa274_1, fa274_2]
    have := hk _ (H.get 0 rfl)
    rw [hV, hU] at this
    simpa using this
  rw [if_pos hf] at hU
  simp only [show ((p.fin : Int) = (t.length : Int)) from by omega, decide_true, zq18, zq19, zq20, zq21, zq22, zq23, zq24, zq25, zq26, zq27, zq28, zq4, zq3, zq1, zq2, zq0, zq29, zq30, zq14, zq15, zq16, zq17, zq13, zq10, zq12, zq11, zq7, zq5, zq6, zq9, zq8, zq31, zq32, ite_T, ite_F, zq33, zq34, zq35, Nat.reduceEqDiff, len22, len24, fa26_0, fa26_1, fa26_2, len27, fa33_0, fa33_1, len35, fa114_0, fa114_1, fa114_2, fa124_0, fa124_1, len134, len154, fa156_0, fa156_1, fa156_2, fa156_3, fa156_4, fa156_5, fa156_6, len271, fa274_0, fa274_1, fa274_2]
  refine equalI_c (A.ints 0 rfl) (H.get 2 rfl).1 rfl rfl fun w5 g => ?_
  have H := H.step g
  have := hk _ (H.get 0 rfl)
  rw [hV, hU] at this
  simpa using this
end
section
variable {w0 w : World} {L E : List Thing} {bc N : Nat} {C : Option Addr} {cap : Nat} {bs : List Int} {k : Value → World → Prop}
theorem treesV_le {gm : Gram} {ws : List Int} {most many : Int} (hm : many ≤ 1000) : (treesV gm ws most many).1.length ≤ 1000 := by
  unfold treesV
  split
  · rename_i hc
    have := zhv_ (S := topD gm ws) (many := many.toNat) most.toNat
    dsimp only
    omega
  · simp
set_option maxHeartbeats 6400000 in
theorem treeD_c (H : Apt w0 w (cur bc (.slice C bs.length cap) N :: E)) (hC : Byts w0 C bs) (hN : N ≤ 100000) (hk : ∀ w' gm ft X c Z d t, Drawn 101 gm → t.length ≤ 20 → Apt w0 w' (cur bc (.slice C bs.length cap) (N + 1000) :: ows Z d t :: gth ft X c gm.rules :: E) → k (.tuple #[grv gm X c, .slice Z t.length d]) w') :
    CallK Try.prog 220 [ptrv bc] k w := by
  refine enter220 ?_
  unfold S220
  refine zid_ H inf26 fun b1 w1 H => ?_
  have H := H.insert 1
  simp only [List.take_succ_cons, List.take_zero, List.drop_succ_cons, List.drop_zero, List.nil_append, List.cons_append] at H
  refine any_c H hC (by omega) fun w2 gm ft X c hd H => ?_
  refine zid_ H inf26 fun b5 w3 H => ?_
  have H := H.insert 2
  simp only [List.take_succ_cons, List.take_zero, List.drop_succ_cons, List.drop_zero, List.nil_append, List.cons_append] at H
  refine zyb_ H 2 rfl sz26 rfl rfl rfl fun w4 H => ?_
  have H : Apt w0 w4 (cur bc (.slice C bs.length cap) (N + 600) :: gth ft X c gm.rules :: bx b5 [.int .i64 gm.nons, .int .i64 gm.toks, .slice X gm.rules.length c] 26 :: bx b1 zg 26 :: E) := H
  rw [zv_ zdb_ sz26 rfl (H.box 2 rfl)]
  have hG := gowK (H.gow 1 rfl)
  refine wordIn_c H hC (by omega) hG.1 hG.2 hd.toks fun w5 Z d ws hws H => ?_
  rw [zv_ zdb_ sz26 rfl (H.box 3 rfl)]
  have hG := gowK (H.gow 2 rfl)
  refine ztt_ (gm := gm) (gvK hG) (H.ints 1 rfl) rfl fun w6 U dU ps g o => ?_
  have H := (H.addLss g o).insert 1
  simp only [List.take_succ_cons, List.take_zero, List.drop_succ_cons, List.drop_zero, List.nil_append, List.cons_append] at H
  have hlen : ∀ x ∈ (treesV gm ws 8 20).1, x.length ≤ 12 := fun x hx => (treesV_mem hx).2.2.1
  have hll : (treesV gm ws 8 20).1.length ≤ 1000 := treesV_le (by omega)
  generalize (treesV gm ws 8 20).1 = LS at *
  generalize (treesV gm ws 8 20).2 = okb at *
  simp only [zq18, zq19, zq20, zq21, zq22, zq23, zq24, zq25, zq26, zq27, zq28, zq4, zq3, zq1, zq2, zq0, zq29, zq30, zq14, zq15, zq16, zq17, zq13, zq10, zq12, zq11, zq7, zq5, zq6, zq9, zq8, zq31, zq32, ite_T, ite_F, zq33, zq34, zq35, Nat.reduceEqDiff, len22, len24, fa26_0, fa26_1, fa26_2, len27, fa33_0, fa33_1, len35, fa114_0, fa114_1, fa114_2, fa124_0, fa124_1, len134, len154, fa156_0, fa156_1, fa156_2, fa156_3, fa156_4, fa156_5, fa156_6, len271, fa274_0, fa274_1, fa274_2]
  refine zmd_ (fun f w' => f 0 = ptrv bc ∧ f 2 = ptrv b1 ∧ f 4 = ptrv b5 ∧ ∃ N2 Z d t, N2 ≤ N + 802 ∧ List.length t ≤ 12 ∧ f 8 = .slice Z t.length d ∧ Apt w0 w' (cur bc (.slice C bs.length cap) N2 :: ows Z d t :: gth ft X c gm.rules :: bx b5 [.int .i64 gm.nons, .int .i64 gm.toks, .slice X gm.rules.length c] 26 :: bx b1 zg 26 :: E)) (fun K hK => ?_) ?_
  · by_cases hl0 : LS.length = 0
    · simp only [show ¬ ((0 : Int) < (LS.length : Int)) from by omega, decide_false, zq18, zq19, zq20, zq21, zq22, zq23, zq24, zq25, zq26, zq27, zq28, zq4, zq3, zq1, zq2, zq0, zq29, zq30, zq14, zq15, zq16, zq17, zq13, zq10, zq12, zq11, zq7, zq5, zq6, zq9, zq8, zq31, zq32, ite_T, ite_F, zq33, zq34, zq35, Nat.reduceEqDiff, len22, len24, fa26_0, fa26_1, fa26_2, len27, fa33_0, fa33_1, len35, fa114_0, fa114_1, fa114_2, fa124_0, fa124_1, len134, len154, fa156_0, fa156_1, fa156_2, fa156_3, fa156_4, fa156_5, fa156_6, len271, fa274_0, fa274_1, fa274_2]
      have H := ((H.erase 2).erase 1).addOwn (Gr.refl _) (show Own 3 w6 w6.heap.size none 0 [] from Row.nil _ _ _ _)
      have H := H.insert 1
      simp only [List.take_succ_cons, List.take_zero, List.drop_succ_cons, List.drop_zero, List.nil_append, List.cons_append, List.eraseIdx_cons_zero, List.eraseIdx_cons_succ] at H
      exact hK _ _ ⟨rfl, rfl, rfl, _, none, 0, [], by omega, by simp, rfl, H⟩
    simp only [show ((0 : Int) < (LS.length : Int)) from by omega, decide_true, zq18, zq19, zq20, zq21, zq22, zq23, zq24, zq25, zq26, zq27, zq28, zq4, zq3, zq1, zq2, zq0, zq29, zq30, zq14, zq15, zq16, zq17, zq13, zq10, zq12, zq11, zq7, zq5, zq6, zq9, zq8, zq31, zq32, ite_T, ite_F, zq33, zq34, zq35, Nat.reduceEqDiff, len22, len24, fa26_0, fa26_1, fa26_2, len27, fa33_0, fa33_1, len35, fa114_0, fa114_1, fa114_2, fa124_0, fa124_1, len134, len154, fa156_0, fa156_1, fa156_2, fa156_3, fa156_4, fa156_5, fa156_6, len271, fa274_0, fa274_1, fa274_2]
    refine zfc_ H 0 rfl hC (by omega) (by omega) fun w7 j h1 h2 H => ?_
    simp only [List.set_cons_zero] at H
    have hj : j < LS.length := by
      by_cases h : (LS.length : Int) ≤ 1
      · have := h1 h; omega
      · have := h2 (by omega); omega
    have hr := (H.lssi 1 rfl).read
    obtain ⟨V, cz, t1, t2, t3⟩ := hr.row j hj
    have hx := hlen _ (zrf_ hj)
    refine rdi (zce_ hr.ptr hj) (rdi (ld27 t1) ?_)
    refine zbh_ t3 rfl (by omega) fun X1 d1 w8 g8 o8 => ?_
    have H := ((H.erase 2).erase 1)
    have H := (H.addOwn g8 o8).insert 1
    simp only [List.take_succ_cons, List.take_zero, List.drop_succ_cons, List.drop_zero, List.nil_append, List.cons_append, List.eraseIdx_cons_zero, List.eraseIdx_cons_succ] at H
    exact hK _ _ ⟨rfl, rfl, rfl, _, X1, d1, rgt LS j, by omega, hx, rfl, H⟩
  clear H
  rintro f w7 ⟨f0, f2, f4, N2, Z, d, t, hN2, ht, f8, H⟩
  refine zmd_ (fun f w' => f 2 = ptrv b1 ∧ f 4 = ptrv b5 ∧ ∃ N2 Z d t, N2 ≤ N + 1000 ∧ List.length t ≤ 20 ∧ f 8 = .slice Z t.length d ∧ Apt w0 w' (cur bc (.slice C bs.length cap) N2 :: ows Z d t :: gth ft X c gm.rules :: bx b5 [.int .i64 gm.nons, .int .i64 gm.toks, .slice X gm.rules.length c] 26 :: bx b1 zg 26 :: E)) (fun K hK => ?_) ?_
  case refine_2 =>
    clear H
    rintro f w' ⟨f2, f4, N2, Z, d, t, hN2, ht, f8, H⟩
    simp only [f2, f4, f8]
    rw [zv_ zdb_ sz26 rfl (H.box 3 rfl)]
    refine zyb_ H 4 rfl sz26 rfl rfl rfl fun w9 H => ?_
    simp only [List.set_cons_zero, List.set_cons_succ] at H
    rw [zve_, zv_ zdb_ sz26 rfl (H.box 4 rfl)]
    have H := (H.erase 4).erase 3
    simp only [List.eraseIdx_cons_zero, List.eraseIdx_cons_succ] at H
    exact hk w9 gm ft X c Z d t hd ht (zte_ H hN2)
  simp only [f0]
  refine zfc_ H 0 rfl hC (by omega) (by omega) fun w8 y _ _ H => ?_
  simp only [List.set_cons_zero] at H
  simp only [f0, f8, zq18, zq19, zq20, zq21, zq22, zq23, zq24, zq25, zq26, zq27, zq28, zq4, zq3, zq1, zq2, zq0, zq29, zq30, zq14, zq15, zq16, zq17, zq13, zq10, zq12, zq11, zq7, zq5, zq6, zq9, zq8, zq31, zq32, ite_T, ite_F, zq33, zq34, zq35, Nat.reduceEqDiff, len22, len24, fa26_0, fa26_1, fa26_2, len27, fa33_0, fa33_1, len35, fa114_0, fa114_1, fa114_2, fa124_0, fa124_1, len134, len154, fa156_0, fa156_1, fa156_2, fa156_3, fa156_4, fa156_5, fa156_6, len271, fa274_0, fa274_1, fa274_2]
  by_cases h0 : y = 0
  · subst h0
    simp only [show (((0 : Nat) : Int) = 0) from rfl, decide_true, zq18, zq19, zq20, zq21, zq22, zq23, zq24, zq25, zq26, zq27, zq28, zq4, zq3, zq1, zq2, zq0, zq29, zq30, zq14, zq15, zq16, zq17, zq13, zq10, zq12, zq11, zq7, zq5, zq6, zq9, zq8, zq31, zq32, ite_T, ite_F, zq33, zq34, zq35, Nat.reduceEqDiff, len22, len24, fa26_0, fa26_1, fa26_2, len27, fa33_0, fa33_1, len35, fa114_0, fa114_1, fa114_2, fa124_0, fa124_1, len134, len154, fa156_0, fa156_1, fa156_2, fa156_3, fa156_4, fa156_5, fa156_6, len271, fa274_0, fa274_1, fa274_2]
    refine zfc_ H 0 rfl hC (by omega) (by omega) fun w9 z _ _ H => ?_
    simp only [List.set_cons_zero] at H
    refine pushH H 1 rfl rfl (by omega) fun t1 Z2 d2 w10 H => ?_
    simp only [List.set_cons_zero, List.set_cons_succ] at H
    exact hK _ _ ⟨f2, f4, _, Z2, d2, t ++ [(z : Int)], by omega, by rw [List.length_append, List.length_singleton]; omega, rfl, H⟩
  simp only [show ¬ ((y : Int) = 0) from by omega, decide_false, zq18, zq19, zq20, zq21, zq22, zq23, zq24, zq25, zq26, zq27, zq28, zq4, zq3, zq1, zq2, zq0, zq29, zq30, zq14, zq15, zq16, zq17, zq13, zq10, zq12, zq11, zq7, zq5, zq6, zq9, zq8, zq31, zq32, ite_T, ite_F, zq33, zq34, zq35, Nat.reduceEqDiff, len22, len24, fa26_0, fa26_1, fa26_2, len27, fa33_0, fa33_1, len35, fa114_0, fa114_1, fa114_2, fa124_0, fa124_1, len134, len154, fa156_0, fa156_1, fa156_2, fa156_3, fa156_4, fa156_5, fa156_6, len271, fa274_0, fa274_1, fa274_2]
  by_cases h1 : y = 1
  · subst h1
    simp only [show (((1 : Nat) : Int) = 1) from rfl, decide_true, f8, zq18, zq19, zq20, zq21, zq22, zq23, zq24, zq25, zq26, zq27, zq28, zq4, zq3, zq1, zq2, zq0, zq29, zq30, zq14, zq15, zq16, zq17, zq13, zq10, zq12, zq11, zq7, zq5, zq6, zq9, zq8, zq31, zq32, ite_T, ite_F, zq33, zq34, zq35, Nat.reduceEqDiff, len22, len24, fa26_0, fa26_1, fa26_2, len27, fa33_0, fa33_1, len35, fa114_0, fa114_1, fa114_2, fa124_0, fa124_1, len134, len154, fa156_0, fa156_1, fa156_2, fa156_3, fa156_4, fa156_5, fa156_6, len271, fa274_0, fa274_1, fa274_2]
    by_cases hl0 : t.length = 0
    · simp only [show ¬ ((0 : Int) < (t.length : Int)) from by omega, decide_false, zq18, zq19, zq20, zq21, zq22, zq23, zq24, zq25, zq26, zq27, zq28, zq4, zq3, zq1, zq2, zq0, zq29, zq30, zq14, zq15, zq16, zq17, zq13, zq10, zq12, zq11, zq7, zq5, zq6, zq9, zq8, zq31, zq32, ite_T, ite_F, zq33, zq34, zq35, Nat.reduceEqDiff, len22, len24, fa26_0, fa26_1, fa26_2, len27, fa33_0, fa33_1, len35, fa114_0, fa114_1, fa114_2, fa124_0, fa124_1, len134, len154, fa156_0, fa156_1, fa156_2, fa156_3, fa156_4, fa156_5, fa156_6, len271, fa274_0, fa274_1, fa274_2]
      exact hK _ _ ⟨f2, f4, _, Z, d, t, by omega, by omega, f8, H⟩
    simp only [show ((0 : Int) < (t.length : Int)) from by omega, decide_true, f0, f8, zq18, zq19, zq20, zq21, zq22, zq23, zq24, zq25, zq26, zq27, zq28, zq4, zq3, zq1, zq2, zq0, zq29, zq30, zq14, zq15, zq16, zq17, zq13, zq10, zq12, zq11, zq7, zq5, zq6, zq9, zq8, zq31, zq32, ite_T, ite_F, zq33, zq34, zq35, Nat.reduceEqDiff, len22, len24, fa26_0, fa26_1, fa26_2, len27, fa33_0, fa33_1, len35, fa114_0, fa114_1, fa114_2, fa124_0, fa124_1, len134, len154, fa156_0, fa156_1, fa156_2, fa156_3, fa156_4, fa156_5, fa156_6, len271, fa274_0, fa274_1, fa274_2]
    refine zfc_ H 0 rfl hC (by omega) (by omega) fun w9 j h1 h2 H => ?_
    simp only [List.set_cons_zero] at H
    have hj : j < t.length := by
      by_cases h : (t.length : Int) ≤ 1
      · have := h1 h; omega
      · have := h2 (by omega); omega
    refine zfc_ H 0 rfl hC (by omega) (by omega) fun w10 z _ _ H => ?_
    simp only [List.set_cons_zero] at H
    simp only [f8, zq18, zq19, zq20, zq21, zq22, zq23, zq24, zq25, zq26, zq27, zq28, zq4, zq3, zq1, zq2, zq0, zq29, zq30, zq14, zq15, zq16, zq17, zq13, zq10, zq12, zq11, zq7, zq5, zq6, zq9, zq8, zq31, zq32, ite_T, ite_F, zq33, zq34, zq35, Nat.reduceEqDiff, len22, len24, fa26_0, fa26_1, fa26_2, len27, fa33_0, fa33_1, len35, fa114_0, fa114_1, fa114_2, fa124_0, fa124_1, len134, len154, fa156_0, fa156_1, fa156_2, fa156_3, fa156_4, fa156_5, fa156_6, len271, fa274_0, fa274_1, fa274_2]
    refine rdi (zub_ (H.row 1 rfl |> fun h => fun _ => h.ptr (by omega)) hj) ?_
    generalize IntKind.i64.wrap ((z : Int) - 1) = v
    refine putH' H 1 rfl hj fun w11 H => ?_
    simp only [List.set_cons_zero, List.set_cons_succ] at H
    have hl : (t.set j v).length = t.length := List.length_set
    exact hK _ _ ⟨f2, f4, _, Z, d, t.set j v, by omega, by omega, by rw [hl]; exact f8, H⟩
  simp only [show ¬ ((y : Int) = 1) from by omega, decide_false, zq18, zq19, zq20, zq21, zq22, zq23, zq24, zq25, zq26, zq27, zq28, zq4, zq3, zq1, zq2, zq0, zq29, zq30, zq14, zq15, zq16, zq17, zq13, zq10, zq12, zq11, zq7, zq5, zq6, zq9, zq8, zq31, zq32, ite_T, ite_F, zq33, zq34, zq35, Nat.reduceEqDiff, len22, len24, fa26_0, fa26_1, fa26_2, len27, fa33_0, fa33_1, len35, fa114_0, fa114_1, fa114_2, fa124_0, fa124_1, len134, len154, fa156_0, fa156_1, fa156_2, fa156_3, fa156_4, fa156_5, fa156_6, len271, fa274_0, fa274_1, fa274_2]
  exact hK _ _ ⟨f2, f4, _, Z, d, t, by omega, by omega, f8, H⟩
set_option maxHeartbeats 1600000 in
theorem cuts_c (H : Apt w0 w (cur bc (.slice C bs.length cap) N :: E)) (hC : Byts w0 C bs) (hN : N ≤ 1000000) {n : Nat} (hn : n ≤ 1000) (hk : ∀ w' Z d cs, List.length cs = 4 → Apt w0 w' (cur bc (.slice C bs.length cap) (N + 20) :: ows Z d cs :: E) → k (.slice Z 4 d) w') :
    CallK Try.prog 229 [ptrv bc, .int .i64 (n : Int)] k w := by
  refine enter229 ?_
  unfold S229
  simp only [zq18, zq19, zq20, zq21, zq22, zq23, zq24, zq25, zq26, zq27, zq28, zq4, zq3, zq1, zq2, zq0, zq29, zq30, zq14, zq15, zq16, zq17, zq13, zq10, zq12, zq11, zq7, zq5, zq6, zq9, zq8, zq31, zq32, ite_T, ite_F, zq33, zq34, zq35, Nat.reduceEqDiff, len22, len24, fa26_0, fa26_1, fa26_2, len27, fa33_0, fa33_1, len35, fa114_0, fa114_1, fa114_2, fa124_0, fa124_1, len134, len154, fa156_0, fa156_1, fa156_2, fa156_3, fa156_4, fa156_5, fa156_6, len271, fa274_0, fa274_1, fa274_2]
  rw [zj_ (by omega) (by omega)]
  refine zfc_ H 0 rfl hC (by omega) (by omega) fun w2 a a1 a2 H => ?_
  simp only [List.set_cons_zero] at H
  have ha : a ≤ n := by
    by_cases h : (n : Int) + 1 ≤ 1
    · have := a1 h; omega
    · have := a2 (by omega); omega
  simp only [zq18, zq19, zq20, zq21, zq22, zq23, zq24, zq25, zq26, zq27, zq28, zq4, zq3, zq1, zq2, zq0, zq29, zq30, zq14, zq15, zq16, zq17, zq13, zq10, zq12, zq11, zq7, zq5, zq6, zq9, zq8, zq31, zq32, ite_T, ite_F, zq33, zq34, zq35, Nat.reduceEqDiff, len22, len24, fa26_0, fa26_1, fa26_2, len27, fa33_0, fa33_1, len35, fa114_0, fa114_1, fa114_2, fa124_0, fa124_1, len134, len154, fa156_0, fa156_1, fa156_2, fa156_3, fa156_4, fa156_5, fa156_6, len271, fa274_0, fa274_1, fa274_2]
  rw [zj_ (n := (n : Int) + 1 - a) (by omega) (by omega)]
  refine zfc_ H 0 rfl hC (by omega) (by omega) fun w3 b b1 b2 H => ?_
  simp only [List.set_cons_zero] at H
  have hb : a + b ≤ n := by
    by_cases h : (n : Int) + 1 - a ≤ 1
    · have := b1 h; omega
    · have := b2 (by omega); omega
  simp only [zq18, zq19, zq20, zq21, zq22, zq23, zq24, zq25, zq26, zq27, zq28, zq4, zq3, zq1, zq2, zq0, zq29, zq30, zq14, zq15, zq16, zq17, zq13, zq10, zq12, zq11, zq7, zq5, zq6, zq9, zq8, zq31, zq32, ite_T, ite_F, zq33, zq34, zq35, Nat.reduceEqDiff, len22, len24, fa26_0, fa26_1, fa26_2, len27, fa33_0, fa33_1, len35, fa114_0, fa114_1, fa114_2, fa124_0, fa124_1, len134, len154, fa156_0, fa156_1, fa156_2, fa156_3, fa156_4, fa156_5, fa156_6, len271, fa274_0, fa274_1, fa274_2]
  have e1 : IntKind.i64.wrap ((a : Int) + b) = (a : Int) + b := zj_ (by omega) (by omega)
  have e2 : IntKind.i64.wrap ((n : Int) + 1 - ((a : Int) + b)) = (n : Int) + 1 - ((a : Int) + b) := zj_ (by omega) (by omega)
  rw [e1, e2]
  refine zfc_ H 0 rfl hC (by omega) (by omega) fun w4 x x1 x2 H => ?_
  simp only [List.set_cons_zero] at H
  have hx : a + b + x ≤ n := by
    by_cases h : (n : Int) + 1 - ((a : Int) + b) ≤ 1
    · have := x1 h; omega
    · have := x2 (by omega); omega
  simp only [zq18, zq19, zq20, zq21, zq22, zq23, zq24, zq25, zq26, zq27, zq28, zq4, zq3, zq1, zq2, zq0, zq29, zq30, zq14, zq15, zq16, zq17, zq13, zq10, zq12, zq11, zq7, zq5, zq6, zq9, zq8, zq31, zq32, ite_T, ite_F, zq33, zq34, zq35, Nat.reduceEqDiff, len22, len24, fa26_0, fa26_1, fa26_2, len27, fa33_0, fa33_1, len35, fa114_0, fa114_1, fa114_2, fa124_0, fa124_1, len134, len154, fa156_0, fa156_1, fa156_2, fa156_3, fa156_4, fa156_5, fa156_6, len271, fa274_0, fa274_1, fa274_2]
  have e3 : IntKind.i64.wrap ((a : Int) + b + x) = (a : Int) + b + x := zj_ (by omega) (by omega)
  have e4 : IntKind.i64.wrap ((n : Int) + 1 - ((a : Int) + b + x)) = (n : Int) + 1 - ((a : Int) + b + x) := zj_ (by omega) (by omega)
  rw [e3, e4]
  refine zfc_ H 0 rfl hC (by omega) (by omega) fun w5 y _ _ H => ?_
  simp only [List.set_cons_zero] at H
  simp only [zq18, zq19, zq20, zq21, zq22, zq23, zq24, zq25, zq26, zq27, zq28, zq4, zq3, zq1, zq2, zq0, zq29, zq30, zq14, zq15, zq16, zq17, zq13, zq10, zq12, zq11, zq7, zq5, zq6, zq9, zq8, zq31, zq32, ite_T, ite_F, zq33, zq34, zq35, Nat.reduceEqDiff, len22, len24, fa26_0, fa26_1, fa26_2, len27, fa33_0, fa33_1, len35, fa114_0, fa114_1, fa114_2, fa124_0, fa124_1, len134, len154, fa156_0, fa156_1, fa156_2, fa156_3, fa156_4, fa156_5, fa156_6, len271, fa274_0, fa274_1, fa274_2]
  generalize IntKind.i64.wrap ((a : Int) + b + x + y) = v
  refine zjd_ H u27 inf3 (ints [(a : Int), (a : Int) + b, (a : Int) + b + x, v]) (by decide) (by decide) (by simp [Instr.fill, madeCells, Value.cells, rng4, ints]) rfl fun bZ w6 H => ?_
  have H := H.insert 1
  simp only [List.take_succ_cons, List.take_zero, List.drop_succ_cons, List.drop_zero, List.nil_append, List.cons_append] at H
  have H : Apt w0 w6 (cur bc (.slice C bs.length cap) (N + 2 + 2 + 2 + 2) :: ows (some ⟨bZ, 0, none⟩) 4 [(a : Int), (a : Int) + b, (a : Int) + b + x, v] :: E) := H
  refine zmd_ (fun f w' => ∃ N2 cs, N2 ≤ N + 20 ∧ List.length cs = 4 ∧ f 8 = .slice (some ⟨bZ, 0, none⟩) 4 4 ∧ Apt w0 w' (cur bc (.slice C bs.length cap) N2 :: ows (some ⟨bZ, 0, none⟩) 4 cs :: E)) (fun K hK => ?_) ?_
  case refine_2 =>
    clear H
    rintro f w' ⟨N2, cs, hN2, hcs, f8, H⟩
    rw [f8]
    exact hk w' _ _ cs hcs (zte_ H hN2)
  refine one_c H 0 rfl hC (by omega) (by omega) fun w7 b H => ?_
  simp only [List.set_cons_zero] at H
  cases b
  · simp only [zq18, zq19, zq20, zq21, zq22, zq23, zq24, zq25, zq26, zq27, zq28, zq4, zq3, zq1, zq2, zq0, zq29, zq30, zq14, zq15, zq16, zq17, zq13, zq10, zq12, zq11, zq7, zq5, zq6, zq9, zq8, zq31, zq32, ite_T, ite_F, zq33, zq34, zq35, Nat.reduceEqDiff, len22, len24, fa26_0, fa26_1, fa26_2, len27, fa33_0, fa33_1, len35, fa114_0, fa114_1, fa114_2, fa124_0, fa124_1, len134, len154, fa156_0, fa156_1, fa156_2, fa156_3, fa156_4, fa156_5, fa156_6, len271, fa274_0, fa274_1, fa274_2]
    exact hK _ _ ⟨_, _, by omega, rfl, rfl, H⟩
  simp only [zq18, zq19, zq20, zq21, zq22, zq23, zq24, zq25, zq26, zq27, zq28, zq4, zq3, zq1, zq2, zq0, zq29, zq30, zq14, zq15, zq16, zq17, zq13, zq10, zq12, zq11, zq7, zq5, zq6, zq9, zq8, zq31, zq32, ite_T, ite_F, zq33, zq34, zq35, Nat.reduceEqDiff, len22, len24, fa26_0, fa26_1, fa26_2, len27, fa33_0, fa33_1, len35, fa114_0, fa114_1, fa114_2, fa124_0, fa124_1, len134, len154, fa156_0, fa156_1, fa156_2, fa156_3, fa156_4, fa156_5, fa156_6, len271, fa274_0, fa274_1, fa274_2]
  generalize IntKind.i64.wrap ((n : Int) + 1) = u
  refine rdi (zvd_ (fun _ => rfl) (by omega)) ?_
  refine putH' (j := 0) H 1 rfl (by simp) fun w8 H => ?_
  simp only [List.set_cons_zero, List.set_cons_succ] at H
  exact hK _ _ ⟨_, _, by omega, by simp, rfl, H⟩
set_option maxHeartbeats 1600000 in
theorem zeu_ {w : World} (hC : Byts w C bs) (hk : ∀ w' gm Y cy X cx t m, Gr w w' → kG Y cy gm.rules w' → kI X t cx w' → k (.tuple #[grv gm Y cy, .slice X (List.length t) cx, .int .i64 m]) w') :
    CallK Try.prog 107 [.slice C bs.length cap] k w := by
  refine enter107 ?_
  unfold S107
  have H := Apt.nil w
  refine zid_ H inf26 fun b1 w1 H => ?_
  refine rdi (bd114 (cells := #[.slice C bs.length cap, .int .i64 0, .int .u64 0]) rfl) ?_
  refine boxH H fun b4 w3 H => ?_
  simp only [List.nil_append, List.cons_append] at H
  have H := H.shutCur (N := 0) (tc := TC) (bc := b4) (cv := .slice C bs.length cap) (a := 0) (s := 0) 1 rfl (by omega) (by omega)
  simp only [List.set_cons_succ, List.set_cons_zero] at H
  have H : Apt w w3 [cur b4 (.slice C bs.length cap) 0, bx b1 zg 26] := H.swap
  refine treeD_c H hC (by omega) fun w4 gm ft X c Z d t hd ht H => ?_
  simp only [zq18, zq19, zq20, zq21, zq22, zq23, zq24, zq25, zq26, zq27, zq28, zq4, zq3, zq1, zq2, zq0, zq29, zq30, zq14, zq15, zq16, zq17, zq13, zq10, zq12, zq11, zq7, zq5, zq6, zq9, zq8, zq31, zq32, ite_T, ite_F, zq33, zq34, zq35, Nat.reduceEqDiff, len22, len24, fa26_0, fa26_1, fa26_2, len27, fa33_0, fa33_1, len35, fa114_0, fa114_1, fa114_2, fa124_0, fa124_1, len134, len154, fa156_0, fa156_1, fa156_2, fa156_3, fa156_4, fa156_5, fa156_6, len271, fa274_0, fa274_1, fa274_2]
  refine zid_ H inf26 fun b10 w5 H => ?_
  simp only [List.nil_append, List.cons_append] at H
  refine zyb_ H 4 rfl sz26 rfl rfl rfl fun w6 H => ?_
  have H : Apt w w6 [cur b4 (.slice C bs.length cap) (0 + 1000), ows Z d t, gth ft X c gm.rules, bx b1 zg 26, bx b10 [.int .i64 gm.nons, .int .i64 gm.toks, .slice X gm.rules.length c] 26] := H
  have H := H.drew
  refine ⟨fun w' => Box w' b10 [.int .i64 gm.nons, .int .i64 gm.toks, .slice X gm.rules.length c] 26, H.box 4 rfl, ?_⟩
  refine rdi (rdS26 rfl fun w' h => h) ?_
  refine zjd_ H u27 inf3 (ints [0, 1, 2, 3, 4, 5]) (by decide) (by decide) (by simp [Instr.fill, madeCells, Value.cells, rng6, ints]) rfl fun b9 w9 H => ?_
  simp only [List.cons_append, List.nil_append] at H
  refine ⟨H.box 4 rfl, ?_⟩
  refine among_c (xs := [0, 1, 2, 3, 4, 5]) H 0 rfl hC (by omega) (fun w' H => Apt.ints H 5 (xs := [0, 1, 2, 3, 4, 5]) rfl) rfl (by simp) (by simp) fun w10 j hj H => ?_
  simp only [List.set_cons_zero] at H
  generalize ([0, 1, 2, 3, 4, 5] : List Int).getD j 0 = most
  refine ⟨H.box 4 rfl, ?_⟩
  refine zyb_ H 3 rfl sz26 rfl rfl rfl fun w11 H => ?_
  simp only [List.cons_append, List.nil_append, List.set_cons_zero, List.set_cons_succ] at H
  rw [zve_, zv_ zdb_ sz26 rfl (H.box 3 rfl)]
  exact hk w11 gm X c Z d t most H.gr (gowK (H.gow 2 rfl)) ⟨H.ints 1 rfl, (H.row 1 rfl).cap.1⟩
set_option maxHeartbeats 3200000 in
theorem zfu_ {w : World} (hC : Byts w C bs) (hk : ∀ w' X cx ws Z cz cs m, Gr w w' → kI X ws cx w' → kI Z cs cz w' → List.length cs = 4 → List.length ws ≤ 40 → k (.tuple #[.slice X (List.length ws) cx, .slice Z (List.length cs) cz, .int .i64 m]) w') :
    CallK Try.prog 116 [.slice C bs.length cap] k w := by
  refine enter116 ?_
  unfold S116
  have H := Apt.nil w
  refine rdi (bd114 (cells := #[.slice C bs.length cap, .int .i64 0, .int .u64 0]) rfl) ?_
  refine boxH H fun b2 w3 H => ?_
  simp only [List.nil_append, List.cons_append] at H
  have H := H.shutCur (N := 0) (tc := TC) (bc := b2) (cv := .slice C bs.length cap) (a := 0) (s := 0) 0 rfl (by omega) (by omega)
  simp only [List.set_cons_succ, List.set_cons_zero] at H
  refine zfc_ H 0 rfl hC (by omega) (by omega) fun w4 n0 h1 h2 H => ?_
  simp only [List.set_cons_zero] at H
  have hn0 : n0 ≤ 9 := by have := h2 (by omega); omega
  have H := H.addNil 3 1
  simp only [List.nil_append, List.cons_append] at H
  have H : Apt w w4 [cur b2 (.slice C bs.length cap) (0 + 2), ows none 0 []] := H
  refine zbf_ (fun o f w' => o ≤ n0 ∧ f 7 = .int .i64 (o : Int) ∧ ∃ N2 Z d, ∃ xs : List Int, f 6 = .slice Z xs.length d ∧ N2 ≤ 2 + (n0 - o) * 2 ∧ xs.length ≤ n0 - o ∧ Apt w w' [cur b2 (.slice C bs.length cap) N2, ows Z d xs]) (fun o => o) n0
    ⟨Nat.le_refl _, rfl, _, none, 0, [], rfl, by omega, by simp, H⟩ ?_
  clear H
  rintro o f w5 NN hag ⟨ho, f7, N2, Z, d, xs, f6, hN2, hxs, H⟩ hN'
  have f5 : f 5 = ptrv b2 := hag 5 (by decide)
  simp only [f5, f6, f7, zq18, zq19, zq20, zq21, zq22, zq23, zq24, zq25, zq26, zq27, zq28, zq4, zq3, zq1, zq2, zq0, zq29, zq30, zq14, zq15, zq16, zq17, zq13, zq10, zq12, zq11, zq7, zq5, zq6, zq9, zq8, zq31, zq32, ite_T, ite_F, zq33, zq34, zq35, Nat.reduceEqDiff, len22, len24, fa26_0, fa26_1, fa26_2, len27, fa33_0, fa33_1, len35, fa114_0, fa114_1, fa114_2, fa124_0, fa124_1, len134, len154, fa156_0, fa156_1, fa156_2, fa156_3, fa156_4, fa156_5, fa156_6, len271, fa274_0, fa274_1, fa274_2]
  by_cases ho0 : 0 < o
  case pos =>
    simp only [show ((0 : Int) < (o : Int)) from by omega, decide_true, zq18, zq19, zq20, zq21, zq22, zq23, zq24, zq25, zq26, zq27, zq28, zq4, zq3, zq1, zq2, zq0, zq29, zq30, zq14, zq15, zq16, zq17, zq13, zq10, zq12, zq11, zq7, zq5, zq6, zq9, zq8, zq31, zq32, ite_T, ite_F, zq33, zq34, zq35, Nat.reduceEqDiff, len22, len24, fa26_0, fa26_1, fa26_2, len27, fa33_0, fa33_1, len35, fa114_0, fa114_1, fa114_2, fa124_0, fa124_1, len134, len154, fa156_0, fa156_1, fa156_2, fa156_3, fa156_4, fa156_5, fa156_6, len271, fa274_0, fa274_1, fa274_2]
    refine zfc_ H 0 rfl hC (by omega) (by omega) fun w6 y _ _ H => ?_
    simp only [List.set_cons_zero] at H
    refine pushH H 1 rfl rfl (by omega) fun t1 Z2 d2 w7 H => ?_
    simp only [List.set_cons_zero, List.set_cons_succ, zq18, zq19, zq20, zq21, zq22, zq23, zq24, zq25, zq26, zq27, zq28, zq4, zq3, zq1, zq2, zq0, zq29, zq30, zq14, zq15, zq16, zq17, zq13, zq10, zq12, zq11, zq7, zq5, zq6, zq9, zq8, zq31, zq32, ite_T, ite_F, zq33, zq34, zq35, Nat.reduceEqDiff, len22, len24, fa26_0, fa26_1, fa26_2, len27, fa33_0, fa33_1, len35, fa114_0, fa114_1, fa114_2, fa124_0, fa124_1, len134, len154, fa156_0, fa156_1, fa156_2, fa156_3, fa156_4, fa156_5, fa156_6, len271, fa274_0, fa274_1, fa274_2] at H ⊢
    rw [zj_ (by omega) (by omega), show (o : Int) - 1 = ((o - 1 : Nat) : Int) from by omega]
    exact hN' (o - 1) _ _ ⟨by omega, rfl, _, Z2, d2, xs ++ [(y : Int)], rfl, by omega, by rw [List.length_append, List.length_singleton]; omega, H⟩ (by omega)
  simp only [show ¬ ((0 : Int) < (o : Int)) from by omega, decide_false, f5, zq18, zq19, zq20, zq21, zq22, zq23, zq24, zq25, zq26, zq27, zq28, zq4, zq3, zq1, zq2, zq0, zq29, zq30, zq14, zq15, zq16, zq17, zq13, zq10, zq12, zq11, zq7, zq5, zq6, zq9, zq8, zq31, zq32, ite_T, ite_F, zq33, zq34, zq35, Nat.reduceEqDiff, len22, len24, fa26_0, fa26_1, fa26_2, len27, fa33_0, fa33_1, len35, fa114_0, fa114_1, fa114_2, fa124_0, fa124_1, len134, len154, fa156_0, fa156_1, fa156_2, fa156_3, fa156_4, fa156_5, fa156_6, len271, fa274_0, fa274_1, fa274_2]
  refine zmd_ (fun f w' => f 5 = ptrv b2 ∧ ∃ N2 Z d, ∃ ws : List Int, f 6 = .slice Z ws.length d ∧ N2 ≤ 100 ∧ ws.length ≤ 40 ∧ Apt w w' [cur b2 (.slice C bs.length cap) N2, ows Z d ws]) (fun K hK => ?_) ?_
  · refine one_c H 0 rfl hC (by omega) (by omega) fun w6 b H => ?_
    simp only [List.set_cons_zero] at H
    cases b
    · simp only [zq18, zq19, zq20, zq21, zq22, zq23, zq24, zq25, zq26, zq27, zq28, zq4, zq3, zq1, zq2, zq0, zq29, zq30, zq14, zq15, zq16, zq17, zq13, zq10, zq12, zq11, zq7, zq5, zq6, zq9, zq8, zq31, zq32, ite_T, ite_F, zq33, zq34, zq35, Nat.reduceEqDiff, len22, len24, fa26_0, fa26_1, fa26_2, len27, fa33_0, fa33_1, len35, fa114_0, fa114_1, fa114_2, fa124_0, fa124_1, len134, len154, fa156_0, fa156_1, fa156_2, fa156_3, fa156_4, fa156_5, fa156_6, len271, fa274_0, fa274_1, fa274_2]
      exact hK _ _ ⟨f5, _, Z, d, xs, f6, by omega, by omega, H⟩
    simp only [zq18, zq19, zq20, zq21, zq22, zq23, zq24, zq25, zq26, zq27, zq28, zq4, zq3, zq1, zq2, zq0, zq29, zq30, zq14, zq15, zq16, zq17, zq13, zq10, zq12, zq11, zq7, zq5, zq6, zq9, zq8, zq31, zq32, ite_T, ite_F, zq33, zq34, zq35, Nat.reduceEqDiff, len22, len24, fa26_0, fa26_1, fa26_2, len27, fa33_0, fa33_1, len35, fa114_0, fa114_1, fa114_2, fa124_0, fa124_1, len134, len154, fa156_0, fa156_1, fa156_2, fa156_3, fa156_4, fa156_5, fa156_6, len271, fa274_0, fa274_1, fa274_2]
    refine makeH H (n := 40) u27 inf3 (by omega) (by omega) fun b9 w7 H => ?_
    rw [zeros_ints] at H
    have H := H.erase 1
    simp only [List.nil_append, List.cons_append, List.eraseIdx_cons_zero, List.eraseIdx_cons_succ] at H
    exact hK _ _ ⟨f5, N2 + 2, some ⟨b9, 0, none⟩, 40, List.replicate 40 0, by simp; rfl, by omega, by simp, by simpa [ows] using H⟩
  clear H
  rintro f w6 ⟨f5, N2, Z, d, ws, f6, hN2, hws, H⟩
  simp only [f5, f6, zq18, zq19, zq20, zq21, zq22, zq23, zq24, zq25, zq26, zq27, zq28, zq4, zq3, zq1, zq2, zq0, zq29, zq30, zq14, zq15, zq16, zq17, zq13, zq10, zq12, zq11, zq7, zq5, zq6, zq9, zq8, zq31, zq32, ite_T, ite_F, zq33, zq34, zq35, Nat.reduceEqDiff, len22, len24, fa26_0, fa26_1, fa26_2, len27, fa33_0, fa33_1, len35, fa114_0, fa114_1, fa114_2, fa124_0, fa124_1, len134, len154, fa156_0, fa156_1, fa156_2, fa156_3, fa156_4, fa156_5, fa156_6, len271, fa274_0, fa274_1, fa274_2]
  refine cuts_c H hC (by omega) (by omega) fun w7 V e cs hcs H => ?_
  refine zfc_ H 0 rfl hC (by omega) (by omega) fun w8 y _ _ H => ?_
  simp only [List.set_cons_zero] at H
  have := hk w8 Z d ws V e cs y H.gr ⟨H.ints 2 rfl, (H.row 2 rfl).cap.1⟩ ⟨H.ints 1 rfl, (H.row 1 rfl).cap.1⟩ hcs hws
  rwa [hcs] at this
set_option maxHeartbeats 6400000 in
theorem zmw_ {w : World} (hC : Byts w C bs) (hk : ∀ w' gm Y cy X cx ws Z cz cs m, Gr w w' → kG Y cy gm.rules w' → kI X ws cx w' → kI Z cs cz w' → k (.tuple #[grv gm Y cy, .slice X (List.length ws) cx, .slice Z (List.length cs) cz, .int .i64 m]) w') :
    CallK Try.prog 118 [.slice C bs.length cap] k w := by
  refine enter118 ?_
  unfold S118
  have H := Apt.nil w
  refine zid_ H inf26 fun b1 w1 H => ?_
  refine rdi (bd114 (cells := #[.slice C bs.length cap, .int .i64 0, .int .u64 0]) rfl) ?_
  refine boxH H fun b4 w3 H => ?_
  simp only [List.nil_append, List.cons_append] at H
  have H := H.shutCur (N := 0) (tc := TC) (bc := b4) (cv := .slice C bs.length cap) (a := 0) (s := 0) 1 rfl (by omega) (by omega)
  simp only [List.set_cons_succ, List.set_cons_zero] at H
  have H : Apt w w3 [cur b4 (.slice C bs.length cap) 0, bx b1 zg 26] := H.swap
  refine treeD_c H hC (by omega) fun w4 gm ft X c Z d t hd ht H => ?_
  simp only [zq18, zq19, zq20, zq21, zq22, zq23, zq24, zq25, zq26, zq27, zq28, zq4, zq3, zq1, zq2, zq0, zq29, zq30, zq14, zq15, zq16, zq17, zq13, zq10, zq12, zq11, zq7, zq5, zq6, zq9, zq8, zq31, zq32, ite_T, ite_F, zq33, zq34, zq35, Nat.reduceEqDiff, len22, len24, fa26_0, fa26_1, fa26_2, len27, fa33_0, fa33_1, len35, fa114_0, fa114_1, fa114_2, fa124_0, fa124_1, len134, len154, fa156_0, fa156_1, fa156_2, fa156_3, fa156_4, fa156_5, fa156_6, len271, fa274_0, fa274_1, fa274_2]
  refine zid_ H inf26 fun b10 w5 H => ?_
  simp only [List.nil_append, List.cons_append] at H
  refine zyb_ H 4 rfl sz26 rfl rfl rfl fun w6 H => ?_
  have H : Apt w w6 [cur b4 (.slice C bs.length cap) (0 + 1000), ows Z d t, gth ft X c gm.rules, bx b1 zg 26, bx b10 [.int .i64 gm.nons, .int .i64 gm.toks, .slice X gm.rules.length c] 26] := H
  rw [zv_ zdb_ sz26 rfl (H.box 4 rfl)]
  refine zxv_ (gm := gm) (gowK (H.gow 2 rfl)) (H.ints 1 rfl) fun w7 U dU g o => ?_
  have H := H.addOwn g o
  simp only [List.nil_append, List.cons_append] at H
  have hul : (zjc_ gm t).1.length ≤ 20 := by
    unfold zjc_
    split
    · split
      · dsimp only; omega
      · simp
    · simp
  generalize (zjc_ gm t).1 = u0 at *
  generalize (zjc_ gm t).2 = oky at *
  simp only [zq18, zq19, zq20, zq21, zq22, zq23, zq24, zq25, zq26, zq27, zq28, zq4, zq3, zq1, zq2, zq0, zq29, zq30, zq14, zq15, zq16, zq17, zq13, zq10, zq12, zq11, zq7, zq5, zq6, zq9, zq8, zq31, zq32, ite_T, ite_F, zq33, zq34, zq35, Nat.reduceEqDiff, len22, len24, fa26_0, fa26_1, fa26_2, len27, fa33_0, fa33_1, len35, fa114_0, fa114_1, fa114_2, fa124_0, fa124_1, len134, len154, fa156_0, fa156_1, fa156_2, fa156_3, fa156_4, fa156_5, fa156_6, len271, fa274_0, fa274_1, fa274_2]
  refine zmd_ (fun f w' => f 2 = ptrv b1 ∧ f 6 = ptrv b4 ∧ f 7 = ptrv b10 ∧ f 8 = .slice Z t.length d ∧ f 10 = .bool oky ∧ ∃ N2 W e, ∃ ws : List Int, f 9 = .slice W ws.length e ∧ N2 ≤ 2000 ∧ ws.length ≤ 20 ∧
      Apt w w' [cur b4 (.slice C bs.length cap) N2, ows Z d t, gth ft X c gm.rules, bx b1 zg 26, bx b10 [.int .i64 gm.nons, .int .i64 gm.toks, .slice X gm.rules.length c] 26, ows W e ws]) (fun K hK => ?_) ?_
  · cases oky
    · simp only [Bool.not_false, zq18, zq19, zq20, zq21, zq22, zq23, zq24, zq25, zq26, zq27, zq28, zq4, zq3, zq1, zq2, zq0, zq29, zq30, zq14, zq15, zq16, zq17, zq13, zq10, zq12, zq11, zq7, zq5, zq6, zq9, zq8, zq31, zq32, ite_T, ite_F, zq33, zq34, zq35, Nat.reduceEqDiff, len22, len24, fa26_0, fa26_1, fa26_2, len27, fa33_0, fa33_1, len35, fa114_0, fa114_1, fa114_2, fa124_0, fa124_1, len134, len154, fa156_0, fa156_1, fa156_2, fa156_3, fa156_4, fa156_5, fa156_6, len271, fa274_0, fa274_1, fa274_2]
      rw [zv_ zdb_ sz26 rfl (H.box 4 rfl)]
      have hG := gowK (H.gow 2 rfl)
      refine wordIn_c H hC (by omega) hG.1 hG.2 hd.toks fun w8 W e ws hws H => ?_
      have H := H.erase 6
      simp only [List.eraseIdx_cons_zero, List.eraseIdx_cons_succ] at H
      have H := H.perm (M := [cur b4 (.slice C bs.length cap) (0 + 1000 + 200), ows Z d t, gth ft X c gm.rules, bx b1 zg 26, bx b10 [.int .i64 gm.nons, .int .i64 gm.toks, .slice X gm.rules.length c] 26, ows W e ws]) (List.Perm.cons _ ((List.perm_append_comm (l₁ := [ows W e ws]) (l₂ := [ows Z d t, gth ft X c gm.rules, bx b1 zg 26, bx b10 [.int .i64 gm.nons, .int .i64 gm.toks, .slice X gm.rules.length c] 26]))))
      exact hK _ _ ⟨rfl, rfl, rfl, rfl, rfl, _, W, e, ws, rfl, by omega, hws, H⟩
    · simp only [Bool.not_true, zq18, zq19, zq20, zq21, zq22, zq23, zq24, zq25, zq26, zq27, zq28, zq4, zq3, zq1, zq2, zq0, zq29, zq30, zq14, zq15, zq16, zq17, zq13, zq10, zq12, zq11, zq7, zq5, zq6, zq9, zq8, zq31, zq32, ite_T, ite_F, zq33, zq34, zq35, Nat.reduceEqDiff, len22, len24, fa26_0, fa26_1, fa26_2, len27, fa33_0, fa33_1, len35, fa114_0, fa114_1, fa114_2, fa124_0, fa124_1, len134, len154, fa156_0, fa156_1, fa156_2, fa156_3, fa156_4, fa156_5, fa156_6, len271, fa274_0, fa274_1, fa274_2]
      exact hK _ _ ⟨rfl, rfl, rfl, rfl, rfl, _, U, dU, u0, rfl, by omega, hul, H⟩
  clear H
  rintro f w8 ⟨f2, f6, f7, f8, f10, N2, W, e, ws, f9, hN2, hws, H⟩
  simp only [f2, f6, f7, f8, f9, f10, zq18, zq19, zq20, zq21, zq22, zq23, zq24, zq25, zq26, zq27, zq28, zq4, zq3, zq1, zq2, zq0, zq29, zq30, zq14, zq15, zq16, zq17, zq13, zq10, zq12, zq11, zq7, zq5, zq6, zq9, zq8, zq31, zq32, ite_T, ite_F, zq33, zq34, zq35, Nat.reduceEqDiff, len22, len24, fa26_0, fa26_1, fa26_2, len27, fa33_0, fa33_1, len35, fa114_0, fa114_1, fa114_2, fa124_0, fa124_1, len134, len154, fa156_0, fa156_1, fa156_2, fa156_3, fa156_4, fa156_5, fa156_6, len271, fa274_0, fa274_1, fa274_2]
  rw [zv_ zdb_ sz26 rfl (H.box 4 rfl)]
  refine zam_ (gvK (gowK (H.gow 2 rfl))) (H.ints 1 rfl) rfl fun w9 P cP g o => ?_
  have H := H.addOwn g o
  simp only [List.nil_append, List.cons_append] at H
  have hp2 : (zrc_ gm t).2 = true → 2 ≤ (zrc_ gm t).1.length := fun h => by
    unfold zrc_ at h ⊢
    split at h
    · cases h
    · rename_i p hp
      split at h
      · cases h
      · rename_i i j hij
        exact (by decide : 2 ≤ 6)
  have hpl : (zrc_ gm t).1.length ≤ 6 := by
    unfold zrc_
    split
    · simp
    · split
      · simp
      · exact Nat.le_refl _
  generalize (zrc_ gm t).1 = pl at *
  generalize (zrc_ gm t).2 = okp at *
  have other : ∀ w' N2, N2 ≤ 3000 → Apt w w' [cur b4 (.slice C bs.length cap) N2, ows Z d t, gth ft X c gm.rules, bx b1 zg 26, bx b10 [.int .i64 gm.nons, .int .i64 gm.toks, .slice X gm.rules.length c] 26, ows W e ws, ows P cP pl] → ∃ S40 : World → Prop, ∃ h41 : S40 w'.drew, Rd Try.prog ⟨S40, w'.drew, h41⟩ (zc_ 26 (ptrv b10)) fun t52 => CallK Try.prog 229 [ptrv b4, .int .i64 (ws.length : Int)] (fun t54 w55 =>
      S40 w55 ∧ CallK Try.prog 146 [ptrv b4, .int .i64 6] (fun t56 w57 => S40 w57 ∧ Do Try.prog (zx_ 26 (ptrv b1) t52) (fun _ w58 => Rd Try.prog (WS.at w58) (zac_ 26 (ptrv b1)) fun t59 => k (.tuple #[t59, .slice W ws.length e, t54, t56]) w58) w57) w55) w'.drew := fun w' N2 hN2 H => by
    have H := H.drew
    refine ⟨fun w' => Box w' b10 [.int .i64 gm.nons, .int .i64 gm.toks, .slice X gm.rules.length c] 26, H.box 4 rfl, ?_⟩
    refine rdi (rdS26 rfl fun w' h => h) ?_
    refine cuts_c H hC (by omega) (by omega) fun w10 V eV cs hcs H => ?_
    refine ⟨H.box 5 rfl, ?_⟩
    refine zfc_ H 0 rfl hC (by omega) (by omega) fun w11 y _ _ H => ?_
    simp only [List.set_cons_zero] at H
    refine ⟨H.box 5 rfl, ?_⟩
    refine zyb_ H 4 rfl sz26 rfl rfl rfl fun w12 H => ?_
    simp only [List.cons_append, List.nil_append, List.set_cons_zero, List.set_cons_succ] at H
    rw [zve_, zv_ zdb_ sz26 rfl (H.box 4 rfl)]
    have := hk w12 gm X c W e ws V eV cs y H.gr (gowK (H.gow 3 rfl)) ⟨H.ints 6 rfl, (H.row 6 rfl).cap.1⟩ ⟨H.ints 1 rfl, (H.row 1 rfl).cap.1⟩
    rwa [hcs] at this
  simp only [zq18, zq19, zq20, zq21, zq22, zq23, zq24, zq25, zq26, zq27, zq28, zq4, zq3, zq1, zq2, zq0, zq29, zq30, zq14, zq15, zq16, zq17, zq13, zq10, zq12, zq11, zq7, zq5, zq6, zq9, zq8, zq31, zq32, ite_T, ite_F, zq33, zq34, zq35, Nat.reduceEqDiff, len22, len24, fa26_0, fa26_1, fa26_2, len27, fa33_0, fa33_1, len35, fa114_0, fa114_1, fa114_2, fa124_0, fa124_1, len134, len154, fa156_0, fa156_1, fa156_2, fa156_3, fa156_4, fa156_5, fa156_6, len271, fa274_0, fa274_1, fa274_2]
  cases oky
  · simp only [f7, f9, f6, f2, zq18, zq19, zq20, zq21, zq22, zq23, zq24, zq25, zq26, zq27, zq28, zq4, zq3, zq1, zq2, zq0, zq29, zq30, zq14, zq15, zq16, zq17, zq13, zq10, zq12, zq11, zq7, zq5, zq6, zq9, zq8, zq31, zq32, ite_T, ite_F, zq33, zq34, zq35, Nat.reduceEqDiff, len22, len24, fa26_0, fa26_1, fa26_2, len27, fa33_0, fa33_1, len35, fa114_0, fa114_1, fa114_2, fa124_0, fa124_1, len134, len154, fa156_0, fa156_1, fa156_2, fa156_3, fa156_4, fa156_5, fa156_6, len271, fa274_0, fa274_1, fa274_2]
    exact other _ _ (by omega) H
  cases okp
  · simp only [f7, f9, f6, f2, zq18, zq19, zq20, zq21, zq22, zq23, zq24, zq25, zq26, zq27, zq28, zq4, zq3, zq1, zq2, zq0, zq29, zq30, zq14, zq15, zq16, zq17, zq13, zq10, zq12, zq11, zq7, zq5, zq6, zq9, zq8, zq31, zq32, ite_T, ite_F, zq33, zq34, zq35, Nat.reduceEqDiff, len22, len24, fa26_0, fa26_1, fa26_2, len27, fa33_0, fa33_1, len35, fa114_0, fa114_1, fa114_2, fa124_0, fa124_1, len134, len154, fa156_0, fa156_1, fa156_2, fa156_3, fa156_4, fa156_5, fa156_6, len271, fa274_0, fa274_1, fa274_2]
    exact other _ _ (by omega) H
  simp only [f6, zq18, zq19, zq20, zq21, zq22, zq23, zq24, zq25, zq26, zq27, zq28, zq4, zq3, zq1, zq2, zq0, zq29, zq30, zq14, zq15, zq16, zq17, zq13, zq10, zq12, zq11, zq7, zq5, zq6, zq9, zq8, zq31, zq32, ite_T, ite_F, zq33, zq34, zq35, Nat.reduceEqDiff, len22, len24, fa26_0, fa26_1, fa26_2, len27, fa33_0, fa33_1, len35, fa114_0, fa114_1, fa114_2, fa124_0, fa124_1, len134, len154, fa156_0, fa156_1, fa156_2, fa156_3, fa156_4, fa156_5, fa156_6, len271, fa274_0, fa274_1, fa274_2]
  refine one_c H 0 rfl hC (by omega) (by omega) fun w10 b H => ?_
  simp only [List.set_cons_zero] at H
  cases b
  case true =>
    simp only [Bool.not_true, f7, f9, f6, f2, zq18, zq19, zq20, zq21, zq22, zq23, zq24, zq25, zq26, zq27, zq28, zq4, zq3, zq1, zq2, zq0, zq29, zq30, zq14, zq15, zq16, zq17, zq13, zq10, zq12, zq11, zq7, zq5, zq6, zq9, zq8, zq31, zq32, ite_T, ite_F, zq33, zq34, zq35, Nat.reduceEqDiff, len22, len24, fa26_0, fa26_1, fa26_2, len27, fa33_0, fa33_1, len35, fa114_0, fa114_1, fa114_2, fa124_0, fa124_1, len134, len154, fa156_0, fa156_1, fa156_2, fa156_3, fa156_4, fa156_5, fa156_6, len271, fa274_0, fa274_1, fa274_2]
    exact other _ _ (by omega) H
  simp only [Bool.not_false, f7, f9, f6, f2, zq18, zq19, zq20, zq21, zq22, zq23, zq24, zq25, zq26, zq27, zq28, zq4, zq3, zq1, zq2, zq0, zq29, zq30, zq14, zq15, zq16, zq17, zq13, zq10, zq12, zq11, zq7, zq5, zq6, zq9, zq8, zq31, zq32, ite_T, ite_F, zq33, zq34, zq35, Nat.reduceEqDiff, len22, len24, fa26_0, fa26_1, fa26_2, len27, fa33_0, fa33_1, len35, fa114_0, fa114_1, fa114_2, fa124_0, fa124_1, len134, len154, fa156_0, fa156_1, fa156_2, fa156_3, fa156_4, fa156_5, fa156_6, len271, fa274_0, fa274_1, fa274_2]
  have H := H.drew
  have hpl2 := hp2 rfl
  refine ⟨fun w' => Box w' b10 [.int .i64 gm.nons, .int .i64 gm.toks, .slice X gm.rules.length c] 26, H.box 4 rfl, ?_⟩
  refine rdi (rdS26 rfl fun w' h => h) ?_
  refine rdi (sll27 (by omega) (by omega)) ?_
  have hP := H.ints 6 rfl
  have hs2 : Ints w10.drew (sub P 2 cP 1) (pl.drop 2) := by
    have := hP.sub (l := 2) (c := cP) hpl2 (H.row 6 rfl).cap.1 pl.length
    rwa [List.take_of_length_le (by simp)] at this
  refine zbh_ hs2 (by simp) (by simp; omega) fun V eV w11 g o => ?_
  have H := H.addOwn g o
  simp only [List.nil_append, List.cons_append] at H
  refine ⟨H.box 4 rfl, ?_⟩
  refine zfc_ H 0 rfl hC (by omega) (by omega) fun w12 y _ _ H => ?_
  simp only [List.set_cons_zero] at H
  refine ⟨H.box 4 rfl, ?_⟩
  refine zyb_ H 3 rfl sz26 rfl rfl rfl fun w13 H => ?_
  simp only [List.cons_append, List.nil_append, List.set_cons_zero, List.set_cons_succ] at H
  rw [zve_, zv_ zdb_ sz26 rfl (H.box 3 rfl)]
  exact hk w13 gm X c W e ws V eV (pl.drop 2) y H.gr (gowK (H.gow 2 rfl)) ⟨H.ints 5 rfl, (H.row 5 rfl).cap.1⟩ ⟨H.ints 7 rfl, (H.row 7 rfl).cap.1⟩
end
end Go.Proofs.Ytegcjkhebecgbaa

namespace Go.Sh
open Go
end Go.Sh

namespace Go.Proofs.Ytegcjkhebecgbaa
open Go Go.Sh Go.RowKit

theorem zgu_ {F : Nat → Prop} {w : World} {v : Value} {gm : Gram} {tree : List Int} {X : Option Addr} {n c : Nat} {m : Int} (hv : GramV F w v gm) (hx : Ints w X tree) (hn : n = tree.length) (hcap : tree.length ≤ c) {k : Value → World → Prop}
    (hk : ∀ w' U d, Gr w w' → Own 3 w' w.heap.size U d (zed_ gm tree m).1 → k (.tuple #[.slice U (zed_ gm tree m).1.length d, .bool (zed_ gm tree m).2]) w') :
    CallK Try.prog 108 [v, .slice X n c, .int .i64 m] k w := by
  subst hn
  obtain ⟨Y, cy, rfl, hc, hy⟩ := hv
  refine enter108 ?_
  unfold S108
  have H := Apt.nil w
  refine boxH H fun b1 w1 H => ?_
  rw [zv_ zdb_ sz26 rfl (H.box 0 rfl)]
  unfold zed_ at hk
  have G1 := H.gr
  refine whole_c (gm := gm) (tree := tree) ⟨Y, cy, rfl, hc, hy.gr H.gr⟩ (hx.gr H.gr) rfl (fun ha w2 v1 v2 g2 => ?_) fun p ws hW w2 b E W cw H2 => ?_
  · simp only [go_sem, Bool.not_false]
    rw [zyh_ ha] at hk
    exact hk _ none 0 (zf_ G1 g2) (Row.nil _ _ _ _)
  rw [hW.eq] at hk
  dsimp only at hk
  simp only [go_sem, Bool.not_true]
  have H := H.append H2
  refine in_c ?_
  cases hm : inB m 0 4
  · simp only [Bool.not_false, go_sem, Nat.reduceEqDiff]
    simp only [hm, Bool.false_eq_true, if_false] at hk
    exact hk _ none 0 H.gr (Row.nil _ _ _ _)
  simp only [hm, if_true] at hk
  obtain ⟨m, rfl⟩ : ∃ m' : Nat, m = m' := by
    simp only [inB, Bool.and_eq_true, decide_eq_true_eq] at hm
    exact ⟨m.toNat, by omega⟩
  have hm4 : m ≤ 4 := by
    simp only [inB, Bool.and_eq_true, decide_eq_true_eq] at hm
    omega
  rw [Int.toNat_natCast] at hk
  simp only [Bool.not_true, go_sem, Nat.reduceEqDiff]
  have h60 := hW.le
  refine pump_c hW (pti_lt H (i := 2) rfl) (H.get 2 rfl) (fun he w3 g3 => ?_) fun i j he w3 bi bj g3 pi pj => ?_
  · have H := H.step g3
    simp only [he] at hk
    simp only [go_sem, Nat.reduceEqDiff]
    rw [zei_ Try.underlying151]
    simp only [Option.isNone_none, go_sem, Nat.reduceEqDiff]
    exact hk _ none 0 H.gr (Row.nil _ _ _ _)
  have H := H.step g3
  simp only [he] at hk
  simp only [go_sem, Nat.reduceEqDiff]
  rw [zei_ Try.underlying151]
  simp only [Option.isNone_some, go_sem, Nat.reduceEqDiff]
  obtain ⟨hi, hij, hjf, hj, hcuts⟩ := zrm_ hW he
  have lai := (hW.laid i hi).1
  have laj := (hW.laid j hj).1
  rw [← zxd_ hi, Nat.zero_add] at lai
  rw [← zxd_ hj, Nat.zero_add] at laj
  obtain ⟨Xi, ci, bxi, _⟩ := pi.box
  obtain ⟨Xj, cj, bxj, _⟩ := pj.box
  rw [lai] at bxi
  rw [laj] at bxj
  generalize hP : p.parts = P at *
  obtain ⟨_, c0, c1, c2, c3, c4⟩ := hcuts
  simp only [zwc_, List.getD_cons_zero, List.getD_cons_succ] at c0 c1 c2 c3 c4
  have hpump : zwb_ tree (zwc_ P i j) m = seg tree 0 i ++ rep m (seg tree i j) ++ seg tree j (ptn P j).fin ++ rep m (seg tree (ptn P j).fin (ptn P i).fin) ++ seg tree (ptn P i).fin tree.length := rfl
  rw [hpump] at hk
  obtain ⟨p0, l0⟩ := zdd_ (hx.gr H.gr) hcap (Int.le_refl 0) c0 (by omega)
  obtain ⟨p1, l1⟩ := zdd_ (hx.gr H.gr) hcap c0 c1 (by omega)
  obtain ⟨p2, l2⟩ := zdd_ (hx.gr H.gr) hcap (by omega) c2 (by omega)
  obtain ⟨p3, l3⟩ := zdd_ (hx.gr H.gr) hcap (by omega) c3 (by omega)
  obtain ⟨p4, l4⟩ := zdd_ (hx.gr H.gr) hcap (a := (ptn P i).fin) (b := tree.length) (by omega) c4 (Int.le_refl _)
  have hG := H.gr
  have K := Apt.nil w3
  refine zjd_ K u27 inf3 [] (by decide) (by decide) (by simp [Instr.fill, madeCells]) rfl fun b5 w4 K => ?_
  rw [ldB3 (bxi.gr K.gr) rfl, slh27 c0 (by omega)]
  refine apH (xs := []) K 0 rfl (ys := seg tree 0 i) (p0.gr K.gr) rfl (by rw [l0]; simp) (by simp only [List.length_nil]; omega) fun U5 d5 w5 K => ?_
  simp only [List.nil_append, List.cons_append, List.set_cons_zero, List.set_cons_succ] at K
  refine zhb_ m 0 (fun k f w' => k ≤ m ∧ f 44 = .int .i64 k ∧ ∃ (U : Option Addr) (d : Nat), f 13 = .slice U (seg tree 0 i ++ rep k (seg tree i j)).length d ∧ Apt w3 w' [ows U d (seg tree 0 i ++ rep k (seg tree i j))]) ⟨Nat.zero_le _, rfl, U5, d5, by simp [rep]; rfl, by simpa [rep] using K⟩ ?_
  rintro r f w6 N hag ⟨hr, h44, U6, d6, h13, K⟩ hN
  have f43 : f 43 = .int .i64 m := hag 43 (by decide)
  have f11 : f 11 = ptrv bi := hag 11 (by decide)
  have f12 : f 12 = ptrv bj := hag 12 (by decide)
  have f1 : f 1 = .slice X tree.length c := hag 1 (by decide)
  have f2 : f 2 = .int .i64 m := hag 2 (by decide)
  simp only [f43, f11, f12, f1, h44, h13, go_sem, Nat.reduceEqDiff]
  have hlen : (seg tree 0 i ++ rep r (seg tree i j)).length ≤ 100 + 4 * 100 := by
    rw [List.length_append, zcf_]
    have := Nat.mul_le_mul (show r ≤ 4 by omega) (show (seg tree i j).length ≤ 100 by omega)
    omega
  by_cases hlt : r < m
  · simp only [show (r : Int) < m from by omega, decide_true, go_sem, Nat.reduceEqDiff]
    have K := K.drew
    rw [ldB3 (bxi.gr K.gr) rfl, ldB3 (bxj.gr K.gr) rfl, sl27 c0 c1 (by omega)]
    refine apH K 0 rfl (ys := seg tree i j) (p1.gr K.gr) rfl (by rw [l1]) (by omega) fun U7 d7 w7 K => ?_
    simp only [List.set_cons_zero, List.set_cons_succ] at K
    rw [List.append_assoc, ← zcd_] at K
    rw [zj_ (by omega) (by omega)]
    exact hN _ _ hlt ⟨hlt, rfl, U7, d7, by rw [List.append_assoc, ← zcd_]; rfl, K⟩
  obtain rfl : r = m := by omega
  simp only [show ¬ (r : Int) < r from by omega, decide_false, go_sem, Nat.reduceEqDiff]
  have K := K.drew
  rw [ldB3 (bxj.gr K.gr) rfl, ldB3 (bxj.gr K.gr) rfl, sl27 (by omega) c2 (by omega)]
  refine apH K 0 rfl (ys := seg tree j (ptn P j).fin) (p2.gr K.gr) rfl (by rw [l2]) (by omega) fun U7 d7 w7 K => ?_
  simp only [List.set_cons_zero, List.set_cons_succ] at K
  have hlen3 : (seg tree 0 i ++ rep r (seg tree i j) ++ seg tree j (ptn P j).fin).length ≤ 600 := by
    rw [List.length_append]
    omega
  generalize hA : seg tree 0 i ++ rep r (seg tree i j) ++ seg tree j (ptn P j).fin = A at *
  refine zhb_ r 0 (fun k f w' => k ≤ r ∧ f 72 = .int .i64 k ∧ ∃ (U : Option Addr) (d : Nat), f 13 = .slice U (A ++ rep k (seg tree (ptn P j).fin (ptn P i).fin)).length d ∧ Apt w3 w' [ows U d (A ++ rep k (seg tree (ptn P j).fin (ptn P i).fin))]) ⟨Nat.zero_le _, rfl, U7, d7, by simp [rep]; rfl, by simpa [rep] using K⟩ ?_
  rintro s f' w8 N' hag' ⟨hs, h72, U8, d8, h13', K8⟩ hN'
  have f71 : f' 71 = .int .i64 r := (hag' 71 (by decide)).trans f2
  have f11' : f' 11 = ptrv bi := (hag' 11 (by decide)).trans f11
  have f12' : f' 12 = ptrv bj := (hag' 12 (by decide)).trans f12
  have f1' : f' 1 = .slice X tree.length c := (hag' 1 (by decide)).trans f1
  simp only [f71, f11', f12', f1', h72, h13', go_sem, Nat.reduceEqDiff]
  have hlen4 : (A ++ rep s (seg tree (ptn P j).fin (ptn P i).fin)).length ≤ 600 + 4 * 100 := by
    rw [List.length_append, zcf_]
    have := Nat.mul_le_mul (show s ≤ 4 by omega) (show (seg tree (ptn P j).fin (ptn P i).fin).length ≤ 100 by omega)
    omega
  by_cases hlt2 : s < r
  · simp only [show (s : Int) < r from by omega, decide_true, go_sem, Nat.reduceEqDiff]
    have K := K8.drew
    rw [ldB3 (bxj.gr K.gr) rfl, ldB3 (bxi.gr K.gr) rfl, sl27 (by omega) c3 (by omega)]
    refine apH K 0 rfl (ys := seg tree (ptn P j).fin (ptn P i).fin) (p3.gr K.gr) rfl (by rw [l3]) (by omega) fun U9 d9 w9 K => ?_
    simp only [List.set_cons_zero, List.set_cons_succ] at K
    rw [List.append_assoc, ← zcd_] at K
    rw [zj_ (by omega) (by omega)]
    exact hN' _ _ hlt2 ⟨hlt2, rfl, U9, d9, by rw [List.append_assoc, ← zcd_]; rfl, K⟩
  obtain rfl : s = r := by omega
  simp only [show ¬ (s : Int) < s from by omega, decide_false, go_sem, Nat.reduceEqDiff]
  rw [ldB3 (bxi.gr K8.gr) rfl, sll27 (by omega) c4]
  refine apH K8 0 rfl (ys := seg tree (ptn P i).fin tree.length) (p4.gr K8.gr) rfl (by rw [l4]; simp) (by omega) fun U9 d9 w9 K9 => ?_
  simp only [List.set_cons_zero, List.set_cons_succ] at K9
  simp only [go_sem, Nat.reduceEqDiff]
  generalize A ++ rep s (seg tree (ptn P j).fin (ptn P i).fin) ++ seg tree (ptn P i).fin tree.length = Z at *
  by_cases h60' : Z.length ≤ 60
  · simp only [show ¬ ((60 : Int) < Z.length) from by omega, decide_false, go_sem, Nat.reduceEqDiff]
    simp only [if_pos h60'] at hk
    exact hk _ U9 d9 (zf_ hG K9.gr) (Row.mono (K9.own 0 rfl) hG.size)
  · simp only [show ((60 : Int) < Z.length) from by omega, decide_true, go_sem, Nat.reduceEqDiff]
    simp only [if_neg h60'] at hk
    exact hk _ none 0 (zf_ hG K9.gr) (Row.nil _ _ _ _)
open Go Go.Sh

def pl12 : Plans := fun i => match i with
  | 14 => ⟨false, [], .step 0 .any (.step 1 .any (.step 2 .any (.step 3 .any (.step 4 .any (.step 5 .any (.step 6 .held (.step 7 .any (.step 8 .any (.step 9 .held (.step 10 .any (.step 11 .any (.step 12 .any (.step 13 .any (.step 14 .held (.step 15 .any (.step 16 .any (.step 17 .held (.step 18 .any (.step 19 .any (.step 20 .any (.step 21 .any (.step 22 .any (.step 23 .any (.step 24 .any (.step 25 .any (.step 26 .any (.step 27 .any (.nil))))))))))))))))))))))))))))⟩
  | _ => ⟨false, [], .nil⟩
def S12 (v0 v1 : Value) (k : Value → World → Prop) (w : World) : Prop :=
 CallK Try.prog 15 [v0, v1] (fun t1 w2 =>
 zi_ t1
  (k (.bool true) w2)
  (CallK Try.prog 107 [v0] (fun t3 w4 =>
  Rd Try.prog (WS.at w4) (zk_ t3 0) fun t5 =>
  Rd Try.prog (WS.at w4) (zk_ t3 1) fun t6 =>
  Rd Try.prog (WS.at w4) (zk_ t3 2) fun t7 =>
  Do Try.prog (zvb_ 26) (fun t8 w9 =>
  Do Try.prog (zx_ 26 t8 t5) (fun _ w10 =>
  Rd Try.prog (WS.at w10) (zc_ 26 t8) fun t11 =>
  CallK Try.prog 108 [t11, t6, t7] (fun t12 w13 =>
  Rd Try.prog (WS.at w13) (zk_ t12 0) fun t14 =>
  Rd Try.prog (WS.at w13) (zk_ t12 1) fun t15 =>
  Rd Try.prog (WS.at w13) (zc_ 26 t8) fun t16 =>
  CallK Try.prog 109 [t16, t6, t7] (fun t17 w18 =>
  Rd Try.prog (WS.at w18) (zk_ t17 0) fun t19 =>
  Rd Try.prog (WS.at w18) (zk_ t17 1) fun t20 =>
  Rd Try.prog (WS.at w18) (zc_ 26 t8) fun t21 =>
  CallK Try.prog 110 [t21, t6] (fun t22 w23 =>
  Rd Try.prog (WS.at w23) (zk_ t22 0) fun t24 =>
  Rd Try.prog (WS.at w23) (zk_ t22 1) fun t25 =>
  Rd Try.prog (WS.at w23) (zc_ 26 t8) fun t26 =>
  CallK Try.prog 111 [t26, t6] (fun t27 w28 =>
  Rd Try.prog (WS.at w28) (zk_ t27 0) fun t29 =>
  Rd Try.prog (WS.at w28) (zk_ t27 1) fun t30 =>
  Rd Try.prog (WS.at w28) (zc_ 26 t8) fun t31 =>
  CallK Try.prog 112 [t31, t6] (fun t32 w33 =>
  Rd Try.prog (WS.at w33) (zk_ t32 0) fun t34 =>
  Rd Try.prog (WS.at w33) (zk_ t32 1) fun t35 =>
  Rd Try.prog (WS.at w33) (zc_ 26 t8) fun t36 =>
  CallK Try.prog 113 [t36, t6] (fun t37 w38 =>
  Rd Try.prog (WS.at w38) (zk_ t37 0) fun t39 =>
  Rd Try.prog (WS.at w38) (zk_ t37 1) fun t40 =>
  Rd Try.prog (WS.at w38) (sBin .neq 4 false t15 t20) fun t41 =>
  za_ t41 false (fun k w' => k t14 w') (fun t42 w43 =>
  za_ t41 false (fun k w' => k t19 w') (fun t44 w45 =>
  za_ t41 false (fun k w' => CallK Try.prog 34 [t42, t44] k w') (fun t46 w47 =>
  za_ t41 false (fun k w' => Rd Try.prog (WS.at w47) (sUn .not t46) fun v => k v w') (fun t48 w49 =>
  Rd Try.prog (WS.at w49) (zw_ t41 (.bool true) t48) fun t50 =>
  za_ t50 false (fun k w' => k t25 w') (fun t51 w52 =>
  za_ t50 false (fun k w' => k t30 w') (fun t53 w54 =>
  za_ t50 false (fun k w' => Rd Try.prog (WS.at w54) (sBin .neq 4 false t51 t53) fun v => k v w') (fun t55 w56 =>
  Rd Try.prog (WS.at w56) (zw_ t50 (.bool true) t55) fun t57 =>
  za_ t57 false (fun k w' => k t24 w') (fun t58 w59 =>
  za_ t57 false (fun k w' => k t29 w') (fun t60 w61 =>
  za_ t57 false (fun k w' => CallK Try.prog 34 [t58, t60] k w') (fun t62 w63 =>
  za_ t57 false (fun k w' => Rd Try.prog (WS.at w63) (sUn .not t62) fun v => k v w') (fun t64 w65 =>
  Rd Try.prog (WS.at w65) (zw_ t57 (.bool true) t64) fun t66 =>
  za_ t66 false (fun k w' => k t35 w') (fun t67 w68 =>
  za_ t66 false (fun k w' => k t40 w') (fun t69 w70 =>
  za_ t66 false (fun k w' => Rd Try.prog (WS.at w70) (sBin .neq 4 false t67 t69) fun v => k v w') (fun t71 w72 =>
  Rd Try.prog (WS.at w72) (zw_ t66 (.bool true) t71) fun t73 =>
  za_ t73 false (fun k w' => k t34 w') (fun t74 w75 =>
  za_ t73 false (fun k w' => k t39 w') (fun t76 w77 =>
  za_ t73 false (fun k w' => CallK Try.prog 25 [t74, t76] k w') (fun t78 w79 =>
  za_ t73 false (fun k w' => Rd Try.prog (WS.at w79) (sUn .not t78) fun v => k v w') (fun t80 w81 =>
  Rd Try.prog (WS.at w81) (zw_ t73 (.bool true) t80) fun t82 =>
  zi_ t82
   (k (.bool false) w81)
   (Rd Try.prog (WS.at w81) (zc_ 26 t8) fun t83 =>
   CallK Try.prog 114 [t83, (.int .i64 0), t6] (fun t84 w85 =>
   Rd Try.prog (WS.at w85) (zk_ t84 0) fun t86 =>
   Rd Try.prog (WS.at w85) (zk_ t84 1) fun t87 =>
   Join (fun K88 =>
   za_ t25 true (fun k w' => k t87 w') (fun t91 w92 =>
   Rd Try.prog (WS.at w92) (zw_ t25 t91 (.bool false)) fun t93 =>
   zi_ t93
    (Rd Try.prog WS.any (ze_ .len #[27] 3 [false] [t24]) fun t94 =>
    Rd Try.prog WS.any (sBin .neq 3 true t94 (.int .i64 6)) fun t95 =>
    za_ t95 false (fun k w' => k t24 w') (fun t96 w97 =>
    za_ t95 false (fun k w' => Rd Try.prog WS.any (zd_ 27 t96 (.int .i64 2)) fun v => k v w') (fun t98 w99 =>
    za_ t95 false (fun k w' => Rd Try.prog (WS.at w92.drew) (zc_ 3 t98) fun v => k v w') (fun t100 w101 =>
    za_ t95 false (fun k w' => k t24 w') (fun t102 w103 =>
    za_ t95 false (fun k w' => Rd Try.prog WS.any (zd_ 27 t102 (.int .i64 3)) fun v => k v w') (fun t104 w105 =>
    za_ t95 false (fun k w' => Rd Try.prog (WS.at w92.drew) (zc_ 3 t104) fun v => k v w') (fun t106 w107 =>
    za_ t95 false (fun k w' => Rd Try.prog WS.any (sBin .eql 3 false t100 t106) fun v => k v w') (fun t108 w109 =>
    za_ t95 false (fun k w' => k t108 w') (fun t110 w111 =>
    za_ t110 true (fun k w' => k t24 w') (fun t112 w113 =>
    za_ t110 true (fun k w' => Rd Try.prog WS.any (zd_ 27 t112 (.int .i64 4)) fun v => k v w') (fun t114 w115 =>
    za_ t110 true (fun k w' => Rd Try.prog (WS.at w92.drew) (zc_ 3 t114) fun v => k v w') (fun t116 w117 =>
    za_ t110 true (fun k w' => k t24 w') (fun t118 w119 =>
    za_ t110 true (fun k w' => Rd Try.prog WS.any (zd_ 27 t118 (.int .i64 5)) fun v => k v w') (fun t120 w121 =>
    za_ t110 true (fun k w' => Rd Try.prog (WS.at w92.drew) (zc_ 3 t120) fun v => k v w') (fun t122 w123 =>
    za_ t110 true (fun k w' => Rd Try.prog WS.any (sBin .eql 3 false t116 t122) fun v => k v w') (fun t124 w125 =>
    za_ t95 false (fun k w' => Rd Try.prog WS.any (zw_ t110 t124 (.bool false)) fun v => k v w') (fun t126 w127 =>
    Rd Try.prog WS.any (zw_ t95 (.bool true) t126) fun t128 =>
    za_ t128 false (fun k w' => k t34 w') (fun t129 w130 =>
    za_ t128 false (fun k w' => Rd Try.prog WS.any (ze_ .len #[35] 3 [false] [t129]) fun v => k v w') (fun t131 w132 =>
    za_ t128 false (fun k w' => k t6 w') (fun t133 w134 =>
    za_ t128 false (fun k w' => Rd Try.prog WS.any (ze_ .len #[27] 3 [false] [t133]) fun v => k v w') (fun t135 w136 =>
    za_ t128 false (fun k w' => Rd Try.prog WS.any (sBin .neq 3 false t131 t135) fun v => k v w') (fun t137 w138 =>
    Rd Try.prog WS.any (zw_ t128 (.bool true) t137) fun t139 =>
    zi_ t139
     (k (.bool false) w138)
     (Rd Try.prog (WS.at w138) (zrb_ 27 t24 (some (.int .i64 2)) none none) fun t140 =>
     CallK Try.prog 115 [t86, t140, t7] (fun t141 w142 =>
     Rd Try.prog (WS.at w142) (zk_ t141 0) fun t143 =>
     Rd Try.prog (WS.at w142) (zk_ t141 1) fun t144 =>
     za_ t15 true (fun k w' => k t144 w') (fun t145 w146 =>
     Rd Try.prog (WS.at w146) (zw_ t15 t145 (.bool false)) fun t147 =>
     za_ t147 true (fun k w' => k t143 w') (fun t148 w149 =>
     za_ t147 true (fun k w' => Rd Try.prog (WS.at w149) (ze_ .len #[27] 3 [false] [t148]) fun v => k v w') (fun t150 w151 =>
     za_ t147 true (fun k w' => Rd Try.prog (WS.at w151) (sBin .leq 3 true t150 (.int .i64 10)) fun v => k v w') (fun t152 w153 =>
     Rd Try.prog (WS.at w153) (zw_ t147 t152 (.bool false)) fun t154 =>
     zi_ t154
      (Rd Try.prog (WS.at w153) (zc_ 26 t8) fun t155 =>
      CallK Try.prog 51 [t155, t143, t14] (fun t156 w157 =>
      Rd Try.prog (WS.at w157) (zk_ t156 0) fun t158 =>
      Rd Try.prog (WS.at w157) (zk_ t156 1) fun t159 =>
      Rd Try.prog (WS.at w157) (zc_ 26 t8) fun t160 =>
      CallK Try.prog 26 [t160, t143] (fun t161 w162 =>
      Rd Try.prog (WS.at w162) (zk_ t161 0) fun t163 =>
      Rd Try.prog (WS.at w162) (zk_ t161 1) fun t164 =>
      Rd Try.prog (WS.at w162) (sUn .not t159) fun t165 =>
      za_ t165 false (fun k w' => k t158 w') (fun t166 w167 =>
      za_ t165 false (fun k w' => Rd Try.prog (WS.at w167) (sUn .not t166) fun v => k v w') (fun t168 w169 =>
      Rd Try.prog (WS.at w169) (zw_ t165 (.bool true) t168) fun t170 =>
      za_ t170 false (fun k w' => k t164 w') (fun t171 w172 =>
      za_ t170 false (fun k w' => Rd Try.prog (WS.at w172) (sUn .not t171) fun v => k v w') (fun t173 w174 =>
      Rd Try.prog (WS.at w174) (zw_ t170 (.bool true) t173) fun t175 =>
      za_ t175 false (fun k w' => k t163 w') (fun t176 w177 =>
      za_ t175 false (fun k w' => Rd Try.prog (WS.at w177) (sUn .not t176) fun v => k v w') (fun t178 w179 =>
      Rd Try.prog (WS.at w179) (zw_ t175 (.bool true) t178) fun t180 =>
      zi_ t180
       (k (.bool false) w179)
       (K88 (F.upd (F.upd (F.upd (F.upd (F.upd (F.upd (F.upd (F.upd (F.upd (F.upd (F.upd (F.upd (F.upd (F.upd (F.upd (F.upd (F.upd (F.upd (F.upd (F.upd (F.upd (F.upd (F.upd (F.upd (F.upd (F.upd (F.upd (F.upd (F.upd (F.upd (F.upd (F.upd (F.upd (F.upd (F.upd (F.upd (F.upd (F.upd (F.upd (F.upd (F.upd (F.upd (F.upd (F.upd (F.upd (F.upd (F.upd (F.upd (F.upd (F.upd (F.upd (F.upd (F.upd (F.upd (F.upd (F.upd (F.upd (F.upd (F.upd (F.upd (F.upd (F.upd (F.upd (F.upd (F.upd (F.upd (F.upd (F.upd (F.upd (F.upd (F.upd (F.upd (F.upd (F.upd (F.upd (F.upd (F.upd (F.upd (F.upd (F.upd (F.upd (F.upd (F.upd (F.upd (F.upd (F.upd (F.upd (F.upd (F.upd (F.upd (F.upd (F.upd (F.upd (F.upd (F.upd (F.upd (F.upd (F.upd (F.upd (F.upd (F.upd (F.upd (F.upd (F.upd (F.upd (F.upd (F.upd (F.upd (F.upd (F.upd (F.upd (F.upd (F.upd (F.upd (F.upd (F.upd (F.upd (F.upd (F.upd (F.upd (F.upd (F.upd (F.upd (F.upd (F.upd (F.upd (F.upd (F.upd (F.upd (F.upd (F.upd (F.upd (F.upd (F.upd (F.upd (F.upd (F.upd (F.upd (F.upd (F.upd (F.upd (F.upd (F.upd (F.upd (F.upd (F.upd (F.upd (F.upd (F.upd (F.upd (F.upd (F.upd (F.upd (F.upd (F.upd (F.upd (F.upd (F.upd (F.upd (F.upd (F.upd (F.upd (F.upd (F.upd (F.upd (F.upd (F.upd (F.upd (F.upd (F.upd (F.upd (F.upd (F.upd (F.upd (F.upd (F.upd (F.upd (F.upd (F.upd (F.upd (F.upd (F.upd (F.upd (F.upd (zm_ [v0, v1]) 4 (.bool false)) 43 v0) 44 v1) 45 t1) 47 v0) 48 t3) 46 t3) 49 t5) 50 t6) 51 t7) 5 t8) 6 t6) 7 t7) 53 t11) 54 t6) 55 t7) 56 t12) 52 t12) 57 t14) 58 t15) 8 t14) 9 t15) 60 t16) 61 t6) 62 t7) 63 t17) 59 t17) 64 t19) 65 t20) 10 t19) 11 t20) 67 t21) 68 t6) 69 t22) 66 t22) 70 t24) 71 t25) 12 t24) 13 t25) 73 t26) 74 t6) 75 t27) 72 t27) 76 t29) 77 t30) 14 t29) 15 t30) 79 t31) 80 t6) 81 t32) 78 t32) 82 t34) 83 t35) 16 t34) 17 t35) 85 t36) 86 t6) 87 t37) 84 t37) 88 t39) 89 t40) 18 t39) 19 t40) 90 t15) 91 t20) 92 t41) 93 t41) 94 t42) 95 t44) 96 t46) 97 t48) 98 t50) 99 t50) 100 t51) 101 t53) 102 t55) 103 t57) 104 t57) 105 t58) 106 t60) 107 t62) 108 t64) 109 t66) 110 t66) 111 t67) 112 t69) 113 t71) 114 t73) 115 t73) 116 t74) 117 t76) 118 t78) 119 t80) 120 t82) 122 t83) 123 t6) 124 t84) 121 t84) 125 t86) 126 t87) 20 t86) 21 t87) 127 t25) 128 t25) 129 t91) 130 t93) 131 t24) 132 t94) 133 t95) 134 t95) 135 t96) 136 t98) 137 t100) 138 t102) 139 t104) 140 t106) 141 t108) 142 t110) 143 t112) 144 t114) 145 t116) 146 t118) 147 t120) 148 t122) 149 t124) 150 t126) 151 t128) 152 t128) 153 t129) 154 t131) 155 t133) 156 t135) 157 t137) 158 t139) 160 t86) 161 t24) 162 t140) 163 t7) 164 t141) 159 t141) 165 t143) 166 t144) 22 t143) 23 t144) 167 t15) 168 t15) 169 t145) 170 t147) 171 t147) 172 t148) 173 t150) 174 t152) 175 t154) 177 t155) 178 t143) 179 t14) 180 t156) 176 t156) 181 t158) 182 t159) 24 t158) 25 t159) 184 t160) 185 t143) 186 t161) 183 t161) 187 t163) 188 t164) 26 t163) 27 t164) 189 t159) 190 t165) 191 t165) 192 t166) 193 t168) 194 t170) 195 t170) 196 t171) 197 t173) 198 t175) 199 t175) 200 t176) 201 t178) 202 t180) w179)) w177) w174) w172) w169) w167) w162) w157) w153)
      (K88 (F.upd (F.upd (F.upd (F.upd (F.upd (F.upd (F.upd (F.upd (F.upd (F.upd (F.upd (F.upd (F.upd (F.upd (F.upd (F.upd (F.upd (F.upd (F.upd (F.upd (F.upd (F.upd (F.upd (F.upd (F.upd (F.upd (F.upd (F.upd (F.upd (F.upd (F.upd (F.upd (F.upd (F.upd (F.upd (F.upd (F.upd (F.upd (F.upd (F.upd (F.upd (F.upd (F.upd (F.upd (F.upd (F.upd (F.upd (F.upd (F.upd (F.upd (F.upd (F.upd (F.upd (F.upd (F.upd (F.upd (F.upd (F.upd (F.upd (F.upd (F.upd (F.upd (F.upd (F.upd (F.upd (F.upd (F.upd (F.upd (F.upd (F.upd (F.upd (F.upd (F.upd (F.upd (F.upd (F.upd (F.upd (F.upd (F.upd (F.upd (F.upd (F.upd (F.upd (F.upd (F.upd (F.upd (F.upd (F.upd (F.upd (F.upd (F.upd (F.upd (F.upd (F.upd (F.upd (F.upd (F.upd (F.upd (F.upd (F.upd (F.upd (F.upd (F.upd (F.upd (F.upd (F.upd (F.upd (F.upd (F.upd (F.upd (F.upd (F.upd (F.upd (F.upd (F.upd (F.upd (F.upd (F.upd (F.upd (F.upd (F.upd (F.upd (F.upd (F.upd (F.upd (F.upd (F.upd (F.upd (F.upd (F.upd (F.upd (F.upd (F.upd (F.upd (F.upd (F.upd (F.upd (F.upd (F.upd (F.upd (F.upd (F.upd (F.upd (F.upd (F.upd (F.upd (F.upd (F.upd (F.upd (F.upd (F.upd (F.upd (F.upd (zm_ [v0, v1]) 4 (.bool false)) 43 v0) 44 v1) 45 t1) 47 v0) 48 t3) 46 t3) 49 t5) 50 t6) 51 t7) 5 t8) 6 t6) 7 t7) 53 t11) 54 t6) 55 t7) 56 t12) 52 t12) 57 t14) 58 t15) 8 t14) 9 t15) 60 t16) 61 t6) 62 t7) 63 t17) 59 t17) 64 t19) 65 t20) 10 t19) 11 t20) 67 t21) 68 t6) 69 t22) 66 t22) 70 t24) 71 t25) 12 t24) 13 t25) 73 t26) 74 t6) 75 t27) 72 t27) 76 t29) 77 t30) 14 t29) 15 t30) 79 t31) 80 t6) 81 t32) 78 t32) 82 t34) 83 t35) 16 t34) 17 t35) 85 t36) 86 t6) 87 t37) 84 t37) 88 t39) 89 t40) 18 t39) 19 t40) 90 t15) 91 t20) 92 t41) 93 t41) 94 t42) 95 t44) 96 t46) 97 t48) 98 t50) 99 t50) 100 t51) 101 t53) 102 t55) 103 t57) 104 t57) 105 t58) 106 t60) 107 t62) 108 t64) 109 t66) 110 t66) 111 t67) 112 t69) 113 t71) 114 t73) 115 t73) 116 t74) 117 t76) 118 t78) 119 t80) 120 t82) 122 t83) 123 t6) 124 t84) 121 t84) 125 t86) 126 t87) 20 t86) 21 t87) 127 t25) 128 t25) 129 t91) 130 t93) 131 t24) 132 t94) 133 t95) 134 t95) 135 t96) 136 t98) 137 t100) 138 t102) 139 t104) 140 t106) 141 t108) 142 t110) 143 t112) 144 t114) 145 t116) 146 t118) 147 t120) 148 t122) 149 t124) 150 t126) 151 t128) 152 t128) 153 t129) 154 t131) 155 t133) 156 t135) 157 t137) 158 t139) 160 t86) 161 t24) 162 t140) 163 t7) 164 t141) 159 t141) 165 t143) 166 t144) 22 t143) 23 t144) 167 t15) 168 t15) 169 t145) 170 t147) 171 t147) 172 t148) 173 t150) 174 t152) 175 t154) w153)) w151) w149) w146) w142) w138)) w136) w134) w132) w130) w127) w125) w123) w121) w119) w117) w115) w113) w111) w109) w107) w105) w103) w101) w99) w97) w92.drew)
    (K88 (F.upd (F.upd (F.upd (F.upd (F.upd (F.upd (F.upd (F.upd (F.upd (F.upd (F.upd (F.upd (F.upd (F.upd (F.upd (F.upd (F.upd (F.upd (F.upd (F.upd (F.upd (F.upd (F.upd (F.upd (F.upd (F.upd (F.upd (F.upd (F.upd (F.upd (F.upd (F.upd (F.upd (F.upd (F.upd (F.upd (F.upd (F.upd (F.upd (F.upd (F.upd (F.upd (F.upd (F.upd (F.upd (F.upd (F.upd (F.upd (F.upd (F.upd (F.upd (F.upd (F.upd (F.upd (F.upd (F.upd (F.upd (F.upd (F.upd (F.upd (F.upd (F.upd (F.upd (F.upd (F.upd (F.upd (F.upd (F.upd (F.upd (F.upd (F.upd (F.upd (F.upd (F.upd (F.upd (F.upd (F.upd (F.upd (F.upd (F.upd (F.upd (F.upd (F.upd (F.upd (F.upd (F.upd (F.upd (F.upd (F.upd (F.upd (F.upd (F.upd (F.upd (F.upd (F.upd (F.upd (F.upd (F.upd (F.upd (F.upd (F.upd (F.upd (F.upd (F.upd (F.upd (F.upd (zm_ [v0, v1]) 4 (.bool false)) 43 v0) 44 v1) 45 t1) 47 v0) 48 t3) 46 t3) 49 t5) 50 t6) 51 t7) 5 t8) 6 t6) 7 t7) 53 t11) 54 t6) 55 t7) 56 t12) 52 t12) 57 t14) 58 t15) 8 t14) 9 t15) 60 t16) 61 t6) 62 t7) 63 t17) 59 t17) 64 t19) 65 t20) 10 t19) 11 t20) 67 t21) 68 t6) 69 t22) 66 t22) 70 t24) 71 t25) 12 t24) 13 t25) 73 t26) 74 t6) 75 t27) 72 t27) 76 t29) 77 t30) 14 t29) 15 t30) 79 t31) 80 t6) 81 t32) 78 t32) 82 t34) 83 t35) 16 t34) 17 t35) 85 t36) 86 t6) 87 t37) 84 t37) 88 t39) 89 t40) 18 t39) 19 t40) 90 t15) 91 t20) 92 t41) 93 t41) 94 t42) 95 t44) 96 t46) 97 t48) 98 t50) 99 t50) 100 t51) 101 t53) 102 t55) 103 t57) 104 t57) 105 t58) 106 t60) 107 t62) 108 t64) 109 t66) 110 t66) 111 t67) 112 t69) 113 t71) 114 t73) 115 t73) 116 t74) 117 t76) 118 t78) 119 t80) 120 t82) 122 t83) 123 t6) 124 t84) 121 t84) 125 t86) 126 t87) 20 t86) 21 t87) 127 t25) 128 t25) 129 t91) 130 t93) w92)) w85) (fun f89 w90 =>
   CallK Try.prog 116 [(f89 1)] (fun t181 w182 =>
   Rd Try.prog (WS.at w182) (zk_ t181 0) fun t183 =>
   Rd Try.prog (WS.at w182) (zk_ t181 1) fun t184 =>
   Rd Try.prog (WS.at w182) (zk_ t181 2) fun t185 =>
   CallK Try.prog 115 [t183, t184, t185] (fun t186 w187 =>
   Rd Try.prog (WS.at w187) (zk_ t186 0) fun t188 =>
   Rd Try.prog (WS.at w187) (zk_ t186 1) fun t189 =>
   CallK Try.prog 117 [t183, t184, t185] (fun t190 w191 =>
   Rd Try.prog (WS.at w191) (zk_ t190 0) fun t192 =>
   Rd Try.prog (WS.at w191) (zk_ t190 1) fun t193 =>
   CallK Try.prog 118 [(f89 1)] (fun t194 w195 =>
   Rd Try.prog (WS.at w195) (zk_ t194 0) fun t196 =>
   Rd Try.prog (WS.at w195) (zk_ t194 1) fun t197 =>
   Rd Try.prog (WS.at w195) (zk_ t194 2) fun t198 =>
   Rd Try.prog (WS.at w195) (zk_ t194 3) fun t199 =>
   Do Try.prog (zvb_ 26) (fun t200 w201 =>
   Do Try.prog (zx_ 26 t200 t196) (fun _ w202 =>
   Rd Try.prog (WS.at w202) (zc_ 26 t200) fun t203 =>
   CallK Try.prog 119 [t203, t197, t198, t199] (fun t204 w205 =>
   Rd Try.prog (WS.at w205) (zk_ t204 0) fun t206 =>
   Rd Try.prog (WS.at w205) (zk_ t204 1) fun t207 =>
   Rd Try.prog (WS.at w205) (zc_ 26 t200) fun t208 =>
   CallK Try.prog 120 [t208, t197, t198, t199] (fun t209 w210 =>
   Rd Try.prog (WS.at w210) (zk_ t209 0) fun t211 =>
   Rd Try.prog (WS.at w210) (zk_ t209 1) fun t212 =>
   Rd Try.prog (WS.at w210) (sBin .eql 4 false t189 t193) fun t213 =>
   za_ t213 true (fun k w' => k t188 w') (fun t214 w215 =>
   za_ t213 true (fun k w' => k t192 w') (fun t216 w217 =>
   za_ t213 true (fun k w' => CallK Try.prog 34 [t214, t216] k w') (fun t218 w219 =>
   Rd Try.prog (WS.at w219) (zw_ t213 t218 (.bool false)) fun t220 =>
   za_ t220 true (fun k w' => k t207 w') (fun t221 w222 =>
   za_ t220 true (fun k w' => k t212 w') (fun t223 w224 =>
   za_ t220 true (fun k w' => Rd Try.prog (WS.at w224) (sBin .eql 4 false t221 t223) fun v => k v w') (fun t225 w226 =>
   Rd Try.prog (WS.at w226) (zw_ t220 t225 (.bool false)) fun t227 =>
   za_ t227 true (fun k w' => k t206 w') (fun t228 w229 =>
   za_ t227 true (fun k w' => k t211 w') (fun t230 w231 =>
   za_ t227 true (fun k w' => Rd Try.prog (WS.at w231) (sBin .eql 4 false t228 t230) fun v => k v w') (fun t232 w233 =>
   Rd Try.prog (WS.at w233) (zw_ t227 t232 (.bool false)) fun t234 =>
   k t234 w233) w231) w229) w226) w224) w222) w219) w217) w215) w210) w205) w202) w201) w195) w191) w187) w182) w90)) w81)) w79) w77) w75) w72) w70) w68) w65) w63) w61) w59) w56) w54) w52) w49) w47) w45) w43) w38) w33) w28) w23) w18) w13) w10) w9) w4) w2)) w
theorem body12 : Try.f12.body = some (zg_ Try.f12) := by kernel_rfl
theorem same12 (v0 v1 : Value) (k : Value → World → Prop) (w : World) : wpF Try.prog pl12 (zg_ Try.f12) (zr_ Try.prog Try.f12.results.toList k) (zm_ [v0, v1]) w = S12 v0 v1 k w := by kernel_rfl
theorem enter12 {v0 v1 : Value} {k : Value → World → Prop} {w : World} (h : S12 v0 v1 k w) : CallK Try.prog 12 [v0, v1] k w :=
  call_of_wpF (pl := pl12) zab_ Try.func12 body12 (by kernel_rfl) (of_decide_eq_true (by kernel_rfl)) (by kernel_rfl) (by kernel_rfl) (Eq.mpr (same12 v0 v1 k w) h)

end Go.Proofs.Ytegcjkhebecgbaa

namespace Go.Sh
open Go Go.Proofs.Ytegcjkhebecgbaa
structure PumpF (gm : Gram) (t u p x : List Int) (l : List (List Int)) (m : Int) (ok : Bool) : Prop where
  ex : ∃ i j : Nat, p = [(i : Int), j, p.getD 2 0, p.getD 3 0, p.getD 4 0, p.getD 5 0]
  six : p.length = 6
  ne : ¬ (p.getD 2 0 = p.getD 3 0 ∧ p.getD 4 0 = p.getD 5 0)
  len : l.length = t.length
  tree : ∀ v, zbc_ u (p.drop 2) m = some v → ok = true → v.length ≤ 10 → zke_ gm v x = (true, true) ∧ inLV gm v = (true, true)
theorem pumpF {gm : Gram} {t u p x : List Int} {l : List (List Int)} {m : Int} {ok two : Bool} (hx : zed_ gm t m = (x, ok)) (hp : zrc_ gm t = (p, true)) (hl : zje_ gm t = (l, two)) (hu : zjc_ gm t = (u, true)) : PumpF gm t u p x l m ok := by
  obtain ⟨hg, h60, htr, h10⟩ := yieldV_true hu
  obtain ⟨q, hW⟩ := zrj_ hg h60 htr
  unfold zrc_ at hp
  rw [hW.eq] at hp
  dsimp only at hp
  split at hp
  · cases hp
  rename_i i j hij
  have hpe := (Prod.mk.inj hp).1
  unfold zje_ at hl
  rw [hW.eq] at hl
  have hle := (Prod.mk.inj hl).1
  have hpair := zkt_ hij
  unfold zee_ at hpair
  simp only [Bool.and_eq_true, Bool.or_eq_true, Bool.not_eq_true', decide_eq_true_eq, decide_eq_false_iff_not] at hpair
  subst hpe
  refine ⟨⟨i, j, rfl⟩, rfl, ?_, by rw [← hle, zuc_, hW.len], fun v hv hok hv10 => ?_⟩
  · show ¬ (((ptn q.parts i).fr : Int) = ((ptn q.parts j).fr : Int) ∧ ((ptn q.parts j).to : Int) = ((ptn q.parts i).to : Int))
    rintro ⟨h1, h2⟩
    rcases hpair.2 with h | h
    · exact h (by omega)
    · exact h (by omega)
  · have hve := zbj_ hv
    have ht := pump_tr hW hij (zkt_ hij) m.toNat
    unfold zed_ at hx
    rw [hW.eq] at hx
    dsimp only at hx
    split at hx
    · rw [hij] at hx
      dsimp only at hx
      split at hx
      · rename_i hx60
        have hxe := (Prod.mk.inj hx).1
        rw [hxe] at ht hx60
        have ht' : Tr gm.rules (.inl 0) x v := by rw [hve]; exact ht
        have hyi := tr_yi ht'
        have htk := zie_ hg
        have hwb : zpc_ gm.toks v = true := by
          simp only [zpc_, allB, inB, Bool.and_eq_true, decide_eq_true_eq, List.all_eq_true]
          exact ⟨by omega, fun t ht => by have := good_yi hg hyi t ht; omega⟩
        refine ⟨isTreeV_of hwb hg hx60 ht', ?_⟩
        rw [inLV_of hg hwb, (inL_yi hg hv10).2 hyi]
      · have := (Prod.mk.inj hx).2
        rw [← this] at hok
        cases hok
    · have := (Prod.mk.inj hx).2
      rw [← this] at hok
      cases hok
section
variable {P : Program} {S : WS} {k : Value → Prop} {a b c d : Value}
theorem ext4_0 : Rd P S (zk_ (.tuple #[a, b, c, d]) 0) k = k a := zgc_ fun w _ => rfl
theorem ext4_1 : Rd P S (zk_ (.tuple #[a, b, c, d]) 1) k = k b := zgc_ fun w _ => rfl
theorem ext4_2 : Rd P S (zk_ (.tuple #[a, b, c, d]) 2) k = k c := zgc_ fun w _ => rfl
theorem ext4_3 : Rd P S (zk_ (.tuple #[a, b, c, d]) 3) k = k d := zgc_ fun w _ => rfl
end
end Go.Sh
namespace Go.Proofs.Ytegcjkhebecgbaa
open Go Go.Sh Go.RowKit
section
variable {w : World} {k : Value → World → Prop} {Y X Z : Option Addr} {cy cx cz n : Nat} {gm : Gram} {ws t cs p x : List Int} {b is ok : Bool} {most many m : Int} {V : Value} {ls : List (List Int)}
theorem zjk_ {d : Nat} (hx : Ints w X ws) (hy : Ints w Z ws) (hk : ∀ w', Gr w w' → k (.bool true) w') : CallK Try.prog 34 [.slice X ws.length cx, .slice Z ws.length d] k w :=
  zjt_ hx hy fun w' g => by rw [decide_eq_true rfl]; exact hk w' g
theorem sameLists_s {d : Nat} (hx : Intss w X ls) (hy : Intss w Z ls) (hk : ∀ w', Gr w w' → k (.bool true) w') : CallK Try.prog 25 [.slice X ls.length cx, .slice Z ls.length d] k w :=
  sameLists_c hx hy fun w' g => by rw [decide_eq_true rfl]; exact hk w' g
theorem implPT_n (e : zed_ gm t m = (x, ok)) (hG : kG Y cy gm.rules w) (hX : kI X t cx w) (hk : ∀ w' U d, Gr w w' → kI U x d w' → k (.tuple #[.slice U x.length d, .bool ok]) w') :
    CallK Try.prog 108 [grv gm Y cy, .slice X t.length cx, .int .i64 m] k w := by
  refine zgu_ (gvK hG) hX.1 rfl hX.2 fun w' U d g o => ?_
  rw [e] at o ⊢
  exact hk w' U d g ⟨o.ints, (Row.cap o).1⟩
theorem specPT_n (e : zed_ gm t m = (x, ok)) (hG : kG Y cy gm.rules w) (hX : kI X t cx w) (hk : ∀ w' U d, Gr w w' → kI U x d w' → k (.tuple #[.slice U x.length d, .bool ok]) w') :
    CallK Try.prog 109 [grv gm Y cy, .slice X t.length cx, .int .i64 m] k w := by
  refine zxt_ (gvK hG) hX.1 rfl hX.2 fun w' U d g o => ?_
  rw [e] at o ⊢
  exact hk w' U d g ⟨o.ints, (Row.cap o).1⟩
theorem specPO_n (e : zrc_ gm t = (p, b)) (hG : kG Y cy gm.rules w) (hX : Ints w X t) (hk : ∀ w' U d, Gr w w' → kI U p d w' → k (.tuple #[.slice U p.length d, .bool b]) w') :
    CallK Try.prog 111 [grv gm Y cy, .slice X t.length cx] k w := by
  refine zam_ (gvK hG) hX rfl fun w' U d g o => ?_
  rw [e] at o ⊢
  exact hk w' U d g ⟨o.ints, (Row.cap o).1⟩
theorem implPI_n (e : zje_ gm t = (ls, b)) (hG : kG Y cy gm.rules w) (hX : Ints w X t) (hk : ∀ w' U d, Gr w w' → kS U ls w' → k (.tuple #[.slice U ls.length d, .bool b]) w') :
    CallK Try.prog 112 [grv gm Y cy, .slice X t.length cx] k w := by
  refine zkw_ (gvK hG) hX rfl fun w' U d ps g o => ?_
  rw [e] at o ⊢
  exact hk w' U d g o.read
theorem specPI_n (e : zje_ gm t = (ls, b)) (hG : kG Y cy gm.rules w) (hX : Ints w X t) (hk : ∀ w' U d, Gr w w' → kS U ls w' → k (.tuple #[.slice U ls.length d, .bool b]) w') :
    CallK Try.prog 113 [grv gm Y cy, .slice X t.length cx] k w := by
  refine zgw_ (gvK hG) hX rfl fun w' U d ps g o => ?_
  rw [e] at o ⊢
  exact hk w' U d g o.read
theorem implYO_n (e : zjc_ gm t = (x, b)) (hG : kG Y cy gm.rules w) (hX : Ints w X t) (hk : ∀ w' U d, Gr w w' → kI U x d w' → k (.tuple #[.slice U x.length d, .bool b]) w') :
    CallK Try.prog 114 [grv gm Y cy, .int .i64 0, .slice X t.length cx] k w := by
  refine zyv_ hG hX fun w' U d g o => ?_
  rw [e] at o ⊢
  exact hk w' U d g o
theorem implPW_n (hX : kI X ws cx w) (hC : Ints w Z cs) (hn : n = cs.length) (hk : ∀ w' U d, Gr w w' → kI U ((zbc_ ws cs m).getD []) d w' → k (.tuple #[.slice U ((zbc_ ws cs m).getD []).length d, .bool (zbc_ ws cs m).isSome]) w') :
    CallK Try.prog 115 [.slice X ws.length cx, .slice Z n cz, .int .i64 m] k w := by
  subst hn
  exact zbu_ hX.1 hX.2 hC fun U d w' g o => hk w' U d g ⟨o.ints, (Row.cap o).1⟩
theorem specPW_n (hX : kI X ws cx w) (hC : Ints w Z cs) (hk : ∀ w' U d, Gr w w' → kI U ((zbc_ ws cs m).getD []) d w' → k (.tuple #[.slice U ((zbc_ ws cs m).getD []).length d, .bool (zbc_ ws cs m).isSome]) w') :
    CallK Try.prog 117 [.slice X ws.length cx, .slice Z cs.length cz, .int .i64 m] k w :=
  zau_ hX.1 hX.2 hC fun U d w' g o => hk w' U d g ⟨o.ints, (Row.cap o).1⟩
theorem implIT_n (e : zke_ gm ws t = (is, b)) (hG : kG Y cy gm.rules w) (hZ : kI Z ws cz w) (hX : kI X t cx w) (hk : ∀ w', Gr w w' → k (.tuple #[.bool is, .bool b]) w') :
    CallK Try.prog 51 [grv gm Y cy, .slice Z ws.length cz, .slice X t.length cx] k w := by
  refine zdu_ hG hZ hX fun w' g => ?_
  rw [e]
  exact hk w' g
theorem implIL_n (e : inLV gm ws = (is, b)) (hG : kG Y cy gm.rules w) (hX : kI X ws cx w) (hk : ∀ w', Gr w w' → k (.tuple #[.bool is, .bool b]) w') :
    CallK Try.prog 26 [grv gm Y cy, .slice X ws.length cx] k w := by
  refine zbr_ hG hX fun w' g => ?_
  rw [e]
  exact hk w' g
theorem specIP_n (e : isPumpV gm ws cs m = (is, b)) (hG : kG Y cy gm.rules w) (hX : kI X ws cx w) (hC : Ints w Z cs) (hk : ∀ w', Gr w w' → k (.tuple #[.bool is, .bool b]) w') :
    CallK Try.prog 120 [grv gm Y cy, .slice X ws.length cx, .slice Z cs.length cz, .int .i64 m] k w := by
  refine zhw_ (gvK hG) hX.1 rfl hX.2 hC rfl fun w' g => ?_
  rw [e]
  exact hk w' g
end
attribute [local irreducible] Rd Do CallK za_ zi_ Join zfb_ zk_ zc_ zw_ sBin sUn ze_ zx_ zvb_ zd_ zb_ zrb_
set_option maxHeartbeats 12800000 in
theorem law_Pump {w : World} {C D : Option Addr} {cap cap' : Nat} {bs es : List Int} (hC : Byts w C bs) (hD : Byts w D es) {k : Value → World → Prop} (hk : ∀ w', Gr w w' → k (.bool true) w') :
    CallK Try.prog 12 [.slice C bs.length cap, .slice D es.length cap'] k w := by
  refine enter12 ?_
  unfold S12
  have H := knC (knC (Kn.nil w) hC) hD
  refine big_c hC.le hD.le fun b => ?_
  cases b
  case true =>
    refine rdi zq29 ?_
    exact hk _ (H.get 0 rfl)
  refine rdi zq30 ?_
  refine zeu_ (H.get 1 rfl) fun w2 gm Y cy X cx t m g hG hT => ?_
  have H := ((H.step g).addG hG.1 hG.2).addI hT.1 hT.2
  simp only [List.cons_append, List.nil_append] at H
  refine rdi zmg_ (rdi zpg_ (rdi zrg_ ?_))
  refine newG H fun b1 w3 H => ?_
  simp only [List.cons_append, List.nil_append] at H
  rcases hx : zed_ gm t m with ⟨x, ok⟩
  rcases hp : zrc_ gm t with ⟨p, one⟩
  rcases hl : zje_ gm t with ⟨l, two⟩
  rcases hu : zjc_ gm t with ⟨u, three⟩
  rw [zv_ zdb_ sz26 rfl (H.get 5 rfl)]
  refine implPT_n hx (H.get 3 rfl) (H.get 4 rfl) fun w4 U6 d6 g o => ?_
  have H := (H.step g).addI o.1 o.2
  simp only [List.cons_append, List.nil_append] at H
  repeat (first | refine rdi zkb_ ?_ | refine rdi zib_ ?_ | refine rdi zmb_ ?_ | refine rdi zjb_ ?_ | refine rdi zq1 ?_ | refine rdi zq2 ?_ | refine rdi zq13 ?_ | refine rdi zq14 ?_ | refine rdi zq16 ?_ | refine rdi zq15 ?_ | refine rdi zq17 ?_ | refine rdi zq4 ?_ | refine rdi zq3 ?_ | refine rdi zq27 ?_ | refine rdi bneq ?_ | refine rdi beql ?_ | refine rdi zq29 ?_ | refine rdi zq30 ?_ | refine rdi zq21 ?_ | refine rdi zq22 ?_ | refine rdi zq23 ?_ | refine rdi zq24 ?_ | refine rdi zq25 ?_ | refine rdi zq26 ?_ | refine rdi len27 ?_ | refine rdi len35 ?_)
  rw [zv_ zdb_ sz26 rfl (H.get 5 rfl)]
  refine specPT_n hx (H.get 3 rfl) (H.get 4 rfl) fun w5 U7 d7 g o => ?_
  have H := (H.step g).addI o.1 o.2
  simp only [List.cons_append, List.nil_append] at H
  repeat (first | refine rdi zkb_ ?_ | refine rdi zib_ ?_ | refine rdi zmb_ ?_ | refine rdi zjb_ ?_ | refine rdi zq1 ?_ | refine rdi zq2 ?_ | refine rdi zq13 ?_ | refine rdi zq14 ?_ | refine rdi zq16 ?_ | refine rdi zq15 ?_ | refine rdi zq17 ?_ | refine rdi zq4 ?_ | refine rdi zq3 ?_ | refine rdi zq27 ?_ | refine rdi bneq ?_ | refine rdi beql ?_ | refine rdi zq29 ?_ | refine rdi zq30 ?_ | refine rdi zq21 ?_ | refine rdi zq22 ?_ | refine rdi zq23 ?_ | refine rdi zq24 ?_ | refine rdi zq25 ?_ | refine rdi zq26 ?_ | refine rdi len27 ?_ | refine rdi len35 ?_)
  rw [zv_ zdb_ sz26 rfl (H.get 5 rfl)]
  refine implPO_n hp (H.get 3 rfl) (H.get 4 rfl).1 fun w6 U8 d8 g o => ?_
  have H := (H.step g).addI o.1 o.2
  simp only [List.cons_append, List.nil_append] at H
  repeat (first | refine rdi zkb_ ?_ | refine rdi zib_ ?_ | refine rdi zmb_ ?_ | refine rdi zjb_ ?_ | refine rdi zq1 ?_ | refine rdi zq2 ?_ | refine rdi zq13 ?_ | refine rdi zq14 ?_ | refine rdi zq16 ?_ | refine rdi zq15 ?_ | refine rdi zq17 ?_ | refine rdi zq4 ?_ | refine rdi zq3 ?_ | refine rdi zq27 ?_ | refine rdi bneq ?_ | refine rdi beql ?_ | refine rdi zq29 ?_ | refine rdi zq30 ?_ | refine rdi zq21 ?_ | refine rdi zq22 ?_ | refine rdi zq23 ?_ | refine rdi zq24 ?_ | refine rdi zq25 ?_ | refine rdi zq26 ?_ | refine rdi len27 ?_ | refine rdi len35 ?_)
  rw [zv_ zdb_ sz26 rfl (H.get 5 rfl)]
  refine specPO_n hp (H.get 3 rfl) (H.get 4 rfl).1 fun w7 U9 d9 g o => ?_
  have H := (H.step g).addI o.1 o.2
  simp only [List.cons_append, List.nil_append] at H
  repeat (first | refine rdi zkb_ ?_ | refine rdi zib_ ?_ | refine rdi zmb_ ?_ | refine rdi zjb_ ?_ | refine rdi zq1 ?_ | refine rdi zq2 ?_ | refine rdi zq13 ?_ | refine rdi zq14 ?_ | refine rdi zq16 ?_ | refine rdi zq15 ?_ | refine rdi zq17 ?_ | refine rdi zq4 ?_ | refine rdi zq3 ?_ | refine rdi zq27 ?_ | refine rdi bneq ?_ | refine rdi beql ?_ | refine rdi zq29 ?_ | refine rdi zq30 ?_ | refine rdi zq21 ?_ | refine rdi zq22 ?_ | refine rdi zq23 ?_ | refine rdi zq24 ?_ | refine rdi zq25 ?_ | refine rdi zq26 ?_ | refine rdi len27 ?_ | refine rdi len35 ?_)
  rw [zv_ zdb_ sz26 rfl (H.get 5 rfl)]
  refine implPI_n hl (H.get 3 rfl) (H.get 4 rfl).1 fun w8 U10 d10 g o => ?_
  have H := (H.step g).addS o
  simp only [List.cons_append, List.nil_append] at H
  repeat (first | refine rdi zkb_ ?_ | refine rdi zib_ ?_ | refine rdi zmb_ ?_ | refine rdi zjb_ ?_ | refine rdi zq1 ?_ | refine rdi zq2 ?_ | refine rdi zq13 ?_ | refine rdi zq14 ?_ | refine rdi zq16 ?_ | refine rdi zq15 ?_ | refine rdi zq17 ?_ | refine rdi zq4 ?_ | refine rdi zq3 ?_ | refine rdi zq27 ?_ | refine rdi bneq ?_ | refine rdi beql ?_ | refine rdi zq29 ?_ | refine rdi zq30 ?_ | refine rdi zq21 ?_ | refine rdi zq22 ?_ | refine rdi zq23 ?_ | refine rdi zq24 ?_ | refine rdi zq25 ?_ | refine rdi zq26 ?_ | refine rdi len27 ?_ | refine rdi len35 ?_)
  rw [zv_ zdb_ sz26 rfl (H.get 5 rfl)]
  refine specPI_n hl (H.get 3 rfl) (H.get 4 rfl).1 fun w9 U11 d11 g o => ?_
  have H := (H.step g).addS o
  simp only [List.cons_append, List.nil_append] at H
  repeat (first | refine rdi zkb_ ?_ | refine rdi zib_ ?_ | refine rdi zmb_ ?_ | refine rdi zjb_ ?_ | refine rdi zq1 ?_ | refine rdi zq2 ?_ | refine rdi zq13 ?_ | refine rdi zq14 ?_ | refine rdi zq16 ?_ | refine rdi zq15 ?_ | refine rdi zq17 ?_ | refine rdi zq4 ?_ | refine rdi zq3 ?_ | refine rdi zq27 ?_ | refine rdi bneq ?_ | refine rdi beql ?_ | refine rdi zq29 ?_ | refine rdi zq30 ?_ | refine rdi zq21 ?_ | refine rdi zq22 ?_ | refine rdi zq23 ?_ | refine rdi zq24 ?_ | refine rdi zq25 ?_ | refine rdi zq26 ?_ | refine rdi len27 ?_ | refine rdi len35 ?_)
  refine zjk_ (H.get 6 rfl).1 (H.get 7 rfl).1 fun w10 g => ?_
  have H := H.step g
  repeat (first | refine rdi zkb_ ?_ | refine rdi zib_ ?_ | refine rdi zmb_ ?_ | refine rdi zjb_ ?_ | refine rdi zq1 ?_ | refine rdi zq2 ?_ | refine rdi zq13 ?_ | refine rdi zq14 ?_ | refine rdi zq16 ?_ | refine rdi zq15 ?_ | refine rdi zq17 ?_ | refine rdi zq4 ?_ | refine rdi zq3 ?_ | refine rdi zq27 ?_ | refine rdi bneq ?_ | refine rdi beql ?_ | refine rdi zq29 ?_ | refine rdi zq30 ?_ | refine rdi zq21 ?_ | refine rdi zq22 ?_ | refine rdi zq23 ?_ | refine rdi zq24 ?_ | refine rdi zq25 ?_ | refine rdi zq26 ?_ | refine rdi len27 ?_ | refine rdi len35 ?_)
  refine zjk_ (H.get 8 rfl).1 (H.get 9 rfl).1 fun w11 g => ?_
  have H := H.step g
  repeat (first | refine rdi zkb_ ?_ | refine rdi zib_ ?_ | refine rdi zmb_ ?_ | refine rdi zjb_ ?_ | refine rdi zq1 ?_ | refine rdi zq2 ?_ | refine rdi zq13 ?_ | refine rdi zq14 ?_ | refine rdi zq16 ?_ | refine rdi zq15 ?_ | refine rdi zq17 ?_ | refine rdi zq4 ?_ | refine rdi zq3 ?_ | refine rdi zq27 ?_ | refine rdi bneq ?_ | refine rdi beql ?_ | refine rdi zq29 ?_ | refine rdi zq30 ?_ | refine rdi zq21 ?_ | refine rdi zq22 ?_ | refine rdi zq23 ?_ | refine rdi zq24 ?_ | refine rdi zq25 ?_ | refine rdi zq26 ?_ | refine rdi len27 ?_ | refine rdi len35 ?_)
  refine sameLists_s (H.get 10 rfl) (H.get 11 rfl) fun w12 g => ?_
  have H := H.step g
  repeat (first | refine rdi zkb_ ?_ | refine rdi zib_ ?_ | refine rdi zmb_ ?_ | refine rdi zjb_ ?_ | refine rdi zq1 ?_ | refine rdi zq2 ?_ | refine rdi zq13 ?_ | refine rdi zq14 ?_ | refine rdi zq16 ?_ | refine rdi zq15 ?_ | refine rdi zq17 ?_ | refine rdi zq4 ?_ | refine rdi zq3 ?_ | refine rdi zq27 ?_ | refine rdi bneq ?_ | refine rdi beql ?_ | refine rdi zq29 ?_ | refine rdi zq30 ?_ | refine rdi zq21 ?_ | refine rdi zq22 ?_ | refine rdi zq23 ?_ | refine rdi zq24 ?_ | refine rdi zq25 ?_ | refine rdi zq26 ?_ | refine rdi len27 ?_ | refine rdi len35 ?_)
  rw [zv_ zdb_ sz26 rfl (H.get 5 rfl)]
  refine implYO_n hu (H.get 3 rfl) (H.get 4 rfl).1 fun w13 U12 d12 g o => ?_
  have H := (H.step g).addI o.1 o.2
  simp only [List.cons_append, List.nil_append] at H
  repeat (first | refine rdi zkb_ ?_ | refine rdi zib_ ?_ | refine rdi zmb_ ?_ | refine rdi zjb_ ?_ | refine rdi zq1 ?_ | refine rdi zq2 ?_ | refine rdi zq13 ?_ | refine rdi zq14 ?_ | refine rdi zq16 ?_ | refine rdi zq15 ?_ | refine rdi zq17 ?_ | refine rdi zq4 ?_ | refine rdi zq3 ?_ | refine rdi zq27 ?_ | refine rdi bneq ?_ | refine rdi beql ?_ | refine rdi zq29 ?_ | refine rdi zq30 ?_ | refine rdi zq21 ?_ | refine rdi zq22 ?_ | refine rdi zq23 ?_ | refine rdi zq24 ?_ | refine rdi zq25 ?_ | refine rdi zq26 ?_ | refine rdi len27 ?_ | refine rdi len35 ?_)
  have H := H.add (P := fun w' => Gr w13 w') fun w' g => g
  simp only [List.cons_append, List.nil_append] at H
  refine zmd_ (fun f w' => f 1 = .slice D es.length cap' ∧ Gr w13 w') (fun K hK => ?_) ?_
  · cases one
    · repeat (first | refine rdi zkb_ ?_ | refine rdi zib_ ?_ | refine rdi zmb_ ?_ | refine rdi zjb_ ?_ | refine rdi zq1 ?_ | refine rdi zq2 ?_ | refine rdi zq13 ?_ | refine rdi zq14 ?_ | refine rdi zq16 ?_ | refine rdi zq15 ?_ | refine rdi zq17 ?_ | refine rdi zq4 ?_ | refine rdi zq3 ?_ | refine rdi zq27 ?_ | refine rdi bneq ?_ | refine rdi beql ?_ | refine rdi zq29 ?_ | refine rdi zq30 ?_ | refine rdi zq21 ?_ | refine rdi zq22 ?_ | refine rdi zq23 ?_ | refine rdi zq24 ?_ | refine rdi zq25 ?_ | refine rdi zq26 ?_ | refine rdi len27 ?_ | refine rdi len35 ?_)
      exact hK _ _ ⟨rfl, H.get 13 rfl⟩
    cases three
    · repeat (first | refine rdi zkb_ ?_ | refine rdi zib_ ?_ | refine rdi zmb_ ?_ | refine rdi zjb_ ?_ | refine rdi zq1 ?_ | refine rdi zq2 ?_ | refine rdi zq13 ?_ | refine rdi zq14 ?_ | refine rdi zq16 ?_ | refine rdi zq15 ?_ | refine rdi zq17 ?_ | refine rdi zq4 ?_ | refine rdi zq3 ?_ | refine rdi zq27 ?_ | refine rdi bneq ?_ | refine rdi beql ?_ | refine rdi zq29 ?_ | refine rdi zq30 ?_ | refine rdi zq21 ?_ | refine rdi zq22 ?_ | refine rdi zq23 ?_ | refine rdi zq24 ?_ | refine rdi zq25 ?_ | refine rdi zq26 ?_ | refine rdi len27 ?_ | refine rdi len35 ?_)
      exact hK _ _ ⟨rfl, H.get 13 rfl⟩
    repeat (first | refine rdi zkb_ ?_ | refine rdi zib_ ?_ | refine rdi zmb_ ?_ | refine rdi zjb_ ?_ | refine rdi zq1 ?_ | refine rdi zq2 ?_ | refine rdi zq13 ?_ | refine rdi zq14 ?_ | refine rdi zq16 ?_ | refine rdi zq15 ?_ | refine rdi zq17 ?_ | refine rdi zq4 ?_ | refine rdi zq3 ?_ | refine rdi zq27 ?_ | refine rdi bneq ?_ | refine rdi beql ?_ | refine rdi zq29 ?_ | refine rdi zq30 ?_ | refine rdi zq21 ?_ | refine rdi zq22 ?_ | refine rdi zq23 ?_ | refine rdi zq24 ?_ | refine rdi zq25 ?_ | refine rdi zq26 ?_ | refine rdi len27 ?_ | refine rdi len35 ?_)
    have F := pumpF hx hp hl hu
    have h6 := F.six
    have H := H.drew
    have hP := (H.get 8 rfl).1
    rw [decide_eq_true (show ((p.length : Nat) : Int) = 6 by omega)]
    repeat (first | refine rdi zkb_ ?_ | refine rdi zib_ ?_ | refine rdi zmb_ ?_ | refine rdi zjb_ ?_ | refine rdi zq1 ?_ | refine rdi zq2 ?_ | refine rdi zq13 ?_ | refine rdi zq14 ?_ | refine rdi zq16 ?_ | refine rdi zq15 ?_ | refine rdi zq17 ?_ | refine rdi zq4 ?_ | refine rdi zq3 ?_ | refine rdi zq27 ?_ | refine rdi bneq ?_ | refine rdi beql ?_ | refine rdi zq29 ?_ | refine rdi zq30 ?_ | refine rdi zq21 ?_ | refine rdi zq22 ?_ | refine rdi zq23 ?_ | refine rdi zq24 ?_ | refine rdi zq25 ?_ | refine rdi zq26 ?_ | refine rdi len27 ?_ | refine rdi len35 ?_)
    refine rdi (zub_ (i := 2) hP.ptr (by omega)) ?_
    repeat (first | refine rdi zkb_ ?_ | refine rdi zib_ ?_ | refine rdi zmb_ ?_ | refine rdi zjb_ ?_ | refine rdi zq1 ?_ | refine rdi zq2 ?_ | refine rdi zq13 ?_ | refine rdi zq14 ?_ | refine rdi zq16 ?_ | refine rdi zq15 ?_ | refine rdi zq17 ?_ | refine rdi zq4 ?_ | refine rdi zq3 ?_ | refine rdi zq27 ?_ | refine rdi bneq ?_ | refine rdi beql ?_ | refine rdi zq29 ?_ | refine rdi zq30 ?_ | refine rdi zq21 ?_ | refine rdi zq22 ?_ | refine rdi zq23 ?_ | refine rdi zq24 ?_ | refine rdi zq25 ?_ | refine rdi zq26 ?_ | refine rdi len27 ?_ | refine rdi len35 ?_)
    refine rdi (ld3 (hP.cell 2 (by omega))) ?_
    repeat (first | refine rdi zkb_ ?_ | refine rdi zib_ ?_ | refine rdi zmb_ ?_ | refine rdi zjb_ ?_ | refine rdi zq1 ?_ | refine rdi zq2 ?_ | refine rdi zq13 ?_ | refine rdi zq14 ?_ | refine rdi zq16 ?_ | refine rdi zq15 ?_ | refine rdi zq17 ?_ | refine rdi zq4 ?_ | refine rdi zq3 ?_ | refine rdi zq27 ?_ | refine rdi bneq ?_ | refine rdi beql ?_ | refine rdi zq29 ?_ | refine rdi zq30 ?_ | refine rdi zq21 ?_ | refine rdi zq22 ?_ | refine rdi zq23 ?_ | refine rdi zq24 ?_ | refine rdi zq25 ?_ | refine rdi zq26 ?_ | refine rdi len27 ?_ | refine rdi len35 ?_)
    refine rdi (zub_ (i := 3) hP.ptr (by omega)) ?_
    repeat (first | refine rdi zkb_ ?_ | refine rdi zib_ ?_ | refine rdi zmb_ ?_ | refine rdi zjb_ ?_ | refine rdi zq1 ?_ | refine rdi zq2 ?_ | refine rdi zq13 ?_ | refine rdi zq14 ?_ | refine rdi zq16 ?_ | refine rdi zq15 ?_ | refine rdi zq17 ?_ | refine rdi zq4 ?_ | refine rdi zq3 ?_ | refine rdi zq27 ?_ | refine rdi bneq ?_ | refine rdi beql ?_ | refine rdi zq29 ?_ | refine rdi zq30 ?_ | refine rdi zq21 ?_ | refine rdi zq22 ?_ | refine rdi zq23 ?_ | refine rdi zq24 ?_ | refine rdi zq25 ?_ | refine rdi zq26 ?_ | refine rdi len27 ?_ | refine rdi len35 ?_)
    refine rdi (ld3 (hP.cell 3 (by omega))) ?_
    repeat (first | refine rdi zkb_ ?_ | refine rdi zib_ ?_ | refine rdi zmb_ ?_ | refine rdi zjb_ ?_ | refine rdi zq1 ?_ | refine rdi zq2 ?_ | refine rdi zq13 ?_ | refine rdi zq14 ?_ | refine rdi zq16 ?_ | refine rdi zq15 ?_ | refine rdi zq17 ?_ | refine rdi zq4 ?_ | refine rdi zq3 ?_ | refine rdi zq27 ?_ | refine rdi bneq ?_ | refine rdi beql ?_ | refine rdi zq29 ?_ | refine rdi zq30 ?_ | refine rdi zq21 ?_ | refine rdi zq22 ?_ | refine rdi zq23 ?_ | refine rdi zq24 ?_ | refine rdi zq25 ?_ | refine rdi zq26 ?_ | refine rdi len27 ?_ | refine rdi len35 ?_)
    have rest : ∀ b : Bool, b = false → b = false := fun _ h => h
    have hmid : ∀ (R : Prop), (p.getD 2 0 = p.getD 3 0 → p.getD 4 0 ≠ p.getD 5 0 → R) → (p.getD 2 0 ≠ p.getD 3 0 → R) → R := fun R h1 h2 => by
      by_cases h : p.getD 2 0 = p.getD 3 0
      · exact h1 h fun h' => F.ne ⟨h, h'⟩
      · exact h2 h
    have hfin : ∀ v, zbc_ u (p.drop 2) m = some v → ok = true → v.length ≤ 10 → zke_ gm v x = (true, true) ∧ inLV gm v = (true, true) := F.tree
    have hll := F.len
    have hs2 : ∀ w', Kn w' _ → Ints w' (sub U8 2 d8 1) (p.drop 2) := fun w' (H : Kn w' [fun w' => Gr w w', kC C bs, kC D es, kG Y cy gm.rules, kI X t cx, kB b1 [.int .i64 gm.nons, .int .i64 gm.toks, .slice Y gm.rules.length cy] 26, kI U6 x d6, kI U7 x d7, kI U8 p d8, kI U9 p d9, kS U10 l, kS U11 l, kI U12 u d12, fun w' => Gr w13 w']) => by
      have hP := H.get 8 rfl
      have := hP.1.sub (l := 2) (c := d8) (by omega) hP.2 p.length
      rwa [List.take_of_length_le (by simp)] at this
    by_cases he : p.getD 2 0 = p.getD 3 0
    case' pos =>
      have h45 : ¬ (p.getD 4 0 = p.getD 5 0) := fun h => F.ne ⟨he, h⟩
      rw [decide_eq_true he]
      repeat (first | refine rdi zkb_ ?_ | refine rdi zib_ ?_ | refine rdi zmb_ ?_ | refine rdi zjb_ ?_ | refine rdi zq1 ?_ | refine rdi zq2 ?_ | refine rdi zq13 ?_ | refine rdi zq14 ?_ | refine rdi zq16 ?_ | refine rdi zq15 ?_ | refine rdi zq17 ?_ | refine rdi zq4 ?_ | refine rdi zq3 ?_ | refine rdi zq27 ?_ | refine rdi bneq ?_ | refine rdi beql ?_ | refine rdi zq29 ?_ | refine rdi zq30 ?_ | refine rdi zq21 ?_ | refine rdi zq22 ?_ | refine rdi zq23 ?_ | refine rdi zq24 ?_ | refine rdi zq25 ?_ | refine rdi zq26 ?_ | refine rdi len27 ?_ | refine rdi len35 ?_)
      refine rdi (zub_ (i := 4) hP.ptr (by omega)) ?_
      repeat (first | refine rdi zkb_ ?_ | refine rdi zib_ ?_ | refine rdi zmb_ ?_ | refine rdi zjb_ ?_ | refine rdi zq1 ?_ | refine rdi zq2 ?_ | refine rdi zq13 ?_ | refine rdi zq14 ?_ | refine rdi zq16 ?_ | refine rdi zq15 ?_ | refine rdi zq17 ?_ | refine rdi zq4 ?_ | refine rdi zq3 ?_ | refine rdi zq27 ?_ | refine rdi bneq ?_ | refine rdi beql ?_ | refine rdi zq29 ?_ | refine rdi zq30 ?_ | refine rdi zq21 ?_ | refine rdi zq22 ?_ | refine rdi zq23 ?_ | refine rdi zq24 ?_ | refine rdi zq25 ?_ | refine rdi zq26 ?_ | refine rdi len27 ?_ | refine rdi len35 ?_)
      refine rdi (ld3 (hP.cell 4 (by omega))) ?_
      repeat (first | refine rdi zkb_ ?_ | refine rdi zib_ ?_ | refine rdi zmb_ ?_ | refine rdi zjb_ ?_ | refine rdi zq1 ?_ | refine rdi zq2 ?_ | refine rdi zq13 ?_ | refine rdi zq14 ?_ | refine rdi zq16 ?_ | refine rdi zq15 ?_ | refine rdi zq17 ?_ | refine rdi zq4 ?_ | refine rdi zq3 ?_ | refine rdi zq27 ?_ | refine rdi bneq ?_ | refine rdi beql ?_ | refine rdi zq29 ?_ | refine rdi zq30 ?_ | refine rdi zq21 ?_ | refine rdi zq22 ?_ | refine rdi zq23 ?_ | refine rdi zq24 ?_ | refine rdi zq25 ?_ | refine rdi zq26 ?_ | refine rdi len27 ?_ | refine rdi len35 ?_)
      refine rdi (zub_ (i := 5) hP.ptr (by omega)) ?_
      repeat (first | refine rdi zkb_ ?_ | refine rdi zib_ ?_ | refine rdi zmb_ ?_ | refine rdi zjb_ ?_ | refine rdi zq1 ?_ | refine rdi zq2 ?_ | refine rdi zq13 ?_ | refine rdi zq14 ?_ | refine rdi zq16 ?_ | refine rdi zq15 ?_ | refine rdi zq17 ?_ | refine rdi zq4 ?_ | refine rdi zq3 ?_ | refine rdi zq27 ?_ | refine rdi bneq ?_ | refine rdi beql ?_ | refine rdi zq29 ?_ | refine rdi zq30 ?_ | refine rdi zq21 ?_ | refine rdi zq22 ?_ | refine rdi zq23 ?_ | refine rdi zq24 ?_ | refine rdi zq25 ?_ | refine rdi zq26 ?_ | refine rdi len27 ?_ | refine rdi len35 ?_)
      refine rdi (ld3 (hP.cell 5 (by omega))) ?_
      repeat (first | refine rdi zkb_ ?_ | refine rdi zib_ ?_ | refine rdi zmb_ ?_ | refine rdi zjb_ ?_ | refine rdi zq1 ?_ | refine rdi zq2 ?_ | refine rdi zq13 ?_ | refine rdi zq14 ?_ | refine rdi zq16 ?_ | refine rdi zq15 ?_ | refine rdi zq17 ?_ | refine rdi zq4 ?_ | refine rdi zq3 ?_ | refine rdi zq27 ?_ | refine rdi bneq ?_ | refine rdi beql ?_ | refine rdi zq29 ?_ | refine rdi zq30 ?_ | refine rdi zq21 ?_ | refine rdi zq22 ?_ | refine rdi zq23 ?_ | refine rdi zq24 ?_ | refine rdi zq25 ?_ | refine rdi zq26 ?_ | refine rdi len27 ?_ | refine rdi len35 ?_)
      rw [decide_eq_false h45]
      repeat (first | refine rdi zkb_ ?_ | refine rdi zib_ ?_ | refine rdi zmb_ ?_ | refine rdi zjb_ ?_ | refine rdi zq1 ?_ | refine rdi zq2 ?_ | refine rdi zq13 ?_ | refine rdi zq14 ?_ | refine rdi zq16 ?_ | refine rdi zq15 ?_ | refine rdi zq17 ?_ | refine rdi zq4 ?_ | refine rdi zq3 ?_ | refine rdi zq27 ?_ | refine rdi bneq ?_ | refine rdi beql ?_ | refine rdi zq29 ?_ | refine rdi zq30 ?_ | refine rdi zq21 ?_ | refine rdi zq22 ?_ | refine rdi zq23 ?_ | refine rdi zq24 ?_ | refine rdi zq25 ?_ | refine rdi zq26 ?_ | refine rdi len27 ?_ | refine rdi len35 ?_)
    case' neg =>
      rw [decide_eq_false he]
      repeat (first | refine rdi zkb_ ?_ | refine rdi zib_ ?_ | refine rdi zmb_ ?_ | refine rdi zjb_ ?_ | refine rdi zq1 ?_ | refine rdi zq2 ?_ | refine rdi zq13 ?_ | refine rdi zq14 ?_ | refine rdi zq16 ?_ | refine rdi zq15 ?_ | refine rdi zq17 ?_ | refine rdi zq4 ?_ | refine rdi zq3 ?_ | refine rdi zq27 ?_ | refine rdi bneq ?_ | refine rdi beql ?_ | refine rdi zq29 ?_ | refine rdi zq30 ?_ | refine rdi zq21 ?_ | refine rdi zq22 ?_ | refine rdi zq23 ?_ | refine rdi zq24 ?_ | refine rdi zq25 ?_ | refine rdi zq26 ?_ | refine rdi len27 ?_ | refine rdi len35 ?_)
    all_goals
      rw [hll, decide_eq_true (rfl : ((t.length : Nat) : Int) = (t.length : Nat))]
      repeat (first | refine rdi zkb_ ?_ | refine rdi zib_ ?_ | refine rdi zmb_ ?_ | refine rdi zjb_ ?_ | refine rdi zq1 ?_ | refine rdi zq2 ?_ | refine rdi zq13 ?_ | refine rdi zq14 ?_ | refine rdi zq16 ?_ | refine rdi zq15 ?_ | refine rdi zq17 ?_ | refine rdi zq4 ?_ | refine rdi zq3 ?_ | refine rdi zq27 ?_ | refine rdi bneq ?_ | refine rdi beql ?_ | refine rdi zq29 ?_ | refine rdi zq30 ?_ | refine rdi zq21 ?_ | refine rdi zq22 ?_ | refine rdi zq23 ?_ | refine rdi zq24 ?_ | refine rdi zq25 ?_ | refine rdi zq26 ?_ | refine rdi len27 ?_ | refine rdi len35 ?_)
      refine rdi (sll27 (by omega) (by omega)) ?_
      refine implPW_n (H.get 12 rfl) (hs2 _ H) (by simp) fun w14 V dV g o => ?_
      have H := (H.step g).addI o.1 o.2
      simp only [List.cons_append, List.nil_append] at H
      cases ok
      · repeat (first | refine rdi zkb_ ?_ | refine rdi zib_ ?_ | refine rdi zmb_ ?_ | refine rdi zjb_ ?_ | refine rdi zq1 ?_ | refine rdi zq2 ?_ | refine rdi zq13 ?_ | refine rdi zq14 ?_ | refine rdi zq16 ?_ | refine rdi zq15 ?_ | refine rdi zq17 ?_ | refine rdi zq4 ?_ | refine rdi zq3 ?_ | refine rdi zq27 ?_ | refine rdi bneq ?_ | refine rdi beql ?_ | refine rdi zq29 ?_ | refine rdi zq30 ?_ | refine rdi zq21 ?_ | refine rdi zq22 ?_ | refine rdi zq23 ?_ | refine rdi zq24 ?_ | refine rdi zq25 ?_ | refine rdi zq26 ?_ | refine rdi len27 ?_ | refine rdi len35 ?_)
        exact hK _ _ ⟨rfl, H.get 13 rfl⟩
      cases hpw : zbc_ u (p.drop 2) m with
      | none =>
        rw [hpw] at H
        repeat (first | refine rdi zkb_ ?_ | refine rdi zib_ ?_ | refine rdi zmb_ ?_ | refine rdi zjb_ ?_ | refine rdi zq1 ?_ | refine rdi zq2 ?_ | refine rdi zq13 ?_ | refine rdi zq14 ?_ | refine rdi zq16 ?_ | refine rdi zq15 ?_ | refine rdi zq17 ?_ | refine rdi zq4 ?_ | refine rdi zq3 ?_ | refine rdi zq27 ?_ | refine rdi bneq ?_ | refine rdi beql ?_ | refine rdi zq29 ?_ | refine rdi zq30 ?_ | refine rdi zq21 ?_ | refine rdi zq22 ?_ | refine rdi zq23 ?_ | refine rdi zq24 ?_ | refine rdi zq25 ?_ | refine rdi zq26 ?_ | refine rdi len27 ?_ | refine rdi len35 ?_)
        exact hK _ _ ⟨rfl, H.get 13 rfl⟩
      | some v =>
        rw [hpw] at H
        repeat (first | refine rdi zkb_ ?_ | refine rdi zib_ ?_ | refine rdi zmb_ ?_ | refine rdi zjb_ ?_ | refine rdi zq1 ?_ | refine rdi zq2 ?_ | refine rdi zq13 ?_ | refine rdi zq14 ?_ | refine rdi zq16 ?_ | refine rdi zq15 ?_ | refine rdi zq17 ?_ | refine rdi zq4 ?_ | refine rdi zq3 ?_ | refine rdi zq27 ?_ | refine rdi bneq ?_ | refine rdi beql ?_ | refine rdi zq29 ?_ | refine rdi zq30 ?_ | refine rdi zq21 ?_ | refine rdi zq22 ?_ | refine rdi zq23 ?_ | refine rdi zq24 ?_ | refine rdi zq25 ?_ | refine rdi zq26 ?_ | refine rdi len27 ?_ | refine rdi len35 ?_)
        by_cases h10 : v.length ≤ 10
        case neg =>
          rw [decide_eq_false (show ¬ (((((some v).getD []).length : Nat) : Int) ≤ 10) by simp only [Option.getD_some]; omega)]
          repeat (first | refine rdi zkb_ ?_ | refine rdi zib_ ?_ | refine rdi zmb_ ?_ | refine rdi zjb_ ?_ | refine rdi zq1 ?_ | refine rdi zq2 ?_ | refine rdi zq13 ?_ | refine rdi zq14 ?_ | refine rdi zq16 ?_ | refine rdi zq15 ?_ | refine rdi zq17 ?_ | refine rdi zq4 ?_ | refine rdi zq3 ?_ | refine rdi zq27 ?_ | refine rdi bneq ?_ | refine rdi beql ?_ | refine rdi zq29 ?_ | refine rdi zq30 ?_ | refine rdi zq21 ?_ | refine rdi zq22 ?_ | refine rdi zq23 ?_ | refine rdi zq24 ?_ | refine rdi zq25 ?_ | refine rdi zq26 ?_ | refine rdi len27 ?_ | refine rdi len35 ?_)
          exact hK _ _ ⟨rfl, H.get 13 rfl⟩
        rw [decide_eq_true (show ((((some v).getD []).length : Nat) : Int) ≤ 10 by simp only [Option.getD_some]; omega)]
        repeat (first | refine rdi zkb_ ?_ | refine rdi zib_ ?_ | refine rdi zmb_ ?_ | refine rdi zjb_ ?_ | refine rdi zq1 ?_ | refine rdi zq2 ?_ | refine rdi zq13 ?_ | refine rdi zq14 ?_ | refine rdi zq16 ?_ | refine rdi zq15 ?_ | refine rdi zq17 ?_ | refine rdi zq4 ?_ | refine rdi zq3 ?_ | refine rdi zq27 ?_ | refine rdi bneq ?_ | refine rdi beql ?_ | refine rdi zq29 ?_ | refine rdi zq30 ?_ | refine rdi zq21 ?_ | refine rdi zq22 ?_ | refine rdi zq23 ?_ | refine rdi zq24 ?_ | refine rdi zq25 ?_ | refine rdi zq26 ?_ | refine rdi len27 ?_ | refine rdi len35 ?_)
        obtain ⟨ht, hi⟩ := hfin v hpw rfl h10
        rw [zv_ zdb_ sz26 rfl (H.get 5 rfl)]
        refine implIT_n (ws := (some v).getD []) ht (H.get 3 rfl) (H.get 14 rfl) (H.get 6 rfl) fun w15 g => ?_
        have H := H.step g
        repeat (first | refine rdi zkb_ ?_ | refine rdi zib_ ?_ | refine rdi zmb_ ?_ | refine rdi zjb_ ?_ | refine rdi zq1 ?_ | refine rdi zq2 ?_ | refine rdi zq13 ?_ | refine rdi zq14 ?_ | refine rdi zq16 ?_ | refine rdi zq15 ?_ | refine rdi zq17 ?_ | refine rdi zq4 ?_ | refine rdi zq3 ?_ | refine rdi zq27 ?_ | refine rdi bneq ?_ | refine rdi beql ?_ | refine rdi zq29 ?_ | refine rdi zq30 ?_ | refine rdi zq21 ?_ | refine rdi zq22 ?_ | refine rdi zq23 ?_ | refine rdi zq24 ?_ | refine rdi zq25 ?_ | refine rdi zq26 ?_ | refine rdi len27 ?_ | refine rdi len35 ?_)
        rw [zv_ zdb_ sz26 rfl (H.get 5 rfl)]
        refine implIL_n (ws := (some v).getD []) hi (H.get 3 rfl) (H.get 14 rfl) fun w16 g => ?_
        have H := H.step g
        repeat (first | refine rdi zkb_ ?_ | refine rdi zib_ ?_ | refine rdi zmb_ ?_ | refine rdi zjb_ ?_ | refine rdi zq1 ?_ | refine rdi zq2 ?_ | refine rdi zq13 ?_ | refine rdi zq14 ?_ | refine rdi zq16 ?_ | refine rdi zq15 ?_ | refine rdi zq17 ?_ | refine rdi zq4 ?_ | refine rdi zq3 ?_ | refine rdi zq27 ?_ | refine rdi bneq ?_ | refine rdi beql ?_ | refine rdi zq29 ?_ | refine rdi zq30 ?_ | refine rdi zq21 ?_ | refine rdi zq22 ?_ | refine rdi zq23 ?_ | refine rdi zq24 ?_ | refine rdi zq25 ?_ | refine rdi zq26 ?_ | refine rdi len27 ?_ | refine rdi len35 ?_)
        exact hK _ _ ⟨rfl, H.get 13 rfl⟩
  clear hx hp hl hu
  rintro f w20 ⟨f1, g⟩
  have H := H.step g
  simp only [f1]
  refine zfu_ (H.get 2 rfl) fun w21 X2 cx2 ws2 Z2 cz2 cs2 m2 g hW hZ hcs hws => ?_
  have H := ((H.step g).addI hW.1 hW.2).addI hZ.1 hZ.2
  simp only [List.cons_append, List.nil_append] at H
  refine rdi zmg_ (rdi zpg_ (rdi zrg_ ?_))
  refine implPW_n (H.get 14 rfl) (H.get 15 rfl).1 rfl fun w22 V dV g o => ?_
  have H := (H.step g).addI o.1 o.2
  simp only [List.cons_append, List.nil_append] at H
  repeat (first | refine rdi zkb_ ?_ | refine rdi zib_ ?_ | refine rdi zmb_ ?_ | refine rdi zjb_ ?_ | refine rdi zq1 ?_ | refine rdi zq2 ?_ | refine rdi zq13 ?_ | refine rdi zq14 ?_ | refine rdi zq16 ?_ | refine rdi zq15 ?_ | refine rdi zq17 ?_ | refine rdi zq4 ?_ | refine rdi zq3 ?_ | refine rdi zq27 ?_ | refine rdi bneq ?_ | refine rdi beql ?_ | refine rdi zq29 ?_ | refine rdi zq30 ?_ | refine rdi zq21 ?_ | refine rdi zq22 ?_ | refine rdi zq23 ?_ | refine rdi zq24 ?_ | refine rdi zq25 ?_ | refine rdi zq26 ?_ | refine rdi len27 ?_ | refine rdi len35 ?_)
  refine specPW_n (H.get 14 rfl) (H.get 15 rfl).1 fun w23 V2 dV2 g o => ?_
  have H := (H.step g).addI o.1 o.2
  simp only [List.cons_append, List.nil_append] at H
  repeat (first | refine rdi zkb_ ?_ | refine rdi zib_ ?_ | refine rdi zmb_ ?_ | refine rdi zjb_ ?_ | refine rdi zq1 ?_ | refine rdi zq2 ?_ | refine rdi zq13 ?_ | refine rdi zq14 ?_ | refine rdi zq16 ?_ | refine rdi zq15 ?_ | refine rdi zq17 ?_ | refine rdi zq4 ?_ | refine rdi zq3 ?_ | refine rdi zq27 ?_ | refine rdi bneq ?_ | refine rdi beql ?_ | refine rdi zq29 ?_ | refine rdi zq30 ?_ | refine rdi zq21 ?_ | refine rdi zq22 ?_ | refine rdi zq23 ?_ | refine rdi zq24 ?_ | refine rdi zq25 ?_ | refine rdi zq26 ?_ | refine rdi len27 ?_ | refine rdi len35 ?_)
  refine zmw_ (H.get 2 rfl) fun w24 g2 Y2 cy2 X3 cx3 ws3 Z3 cz3 cs3 m3 g hG2 hW3 hZ3 => ?_
  have H := (((H.step g).addG hG2.1 hG2.2).addI hW3.1 hW3.2).addI hZ3.1 hZ3.2
  simp only [List.cons_append, List.nil_append] at H
  refine rdi ext4_0 (rdi ext4_1 (rdi ext4_2 (rdi ext4_3 ?_)))
  refine newG H fun b2 w25 H => ?_
  simp only [List.cons_append, List.nil_append] at H
  rcases hip : isPumpV g2 ws3 cs3 m3 with ⟨is, six⟩
  rw [zv_ zdb_ sz26 rfl (H.get 21 rfl)]
  refine implIP_n hip (H.get 18 rfl) (H.get 19 rfl) (H.get 20 rfl).1 rfl fun w26 g => ?_
  have H := H.step g
  repeat (first | refine rdi zkb_ ?_ | refine rdi zib_ ?_ | refine rdi zmb_ ?_ | refine rdi zjb_ ?_ | refine rdi zq1 ?_ | refine rdi zq2 ?_ | refine rdi zq13 ?_ | refine rdi zq14 ?_ | refine rdi zq16 ?_ | refine rdi zq15 ?_ | refine rdi zq17 ?_ | refine rdi zq4 ?_ | refine rdi zq3 ?_ | refine rdi zq27 ?_ | refine rdi bneq ?_ | refine rdi beql ?_ | refine rdi zq29 ?_ | refine rdi zq30 ?_ | refine rdi zq21 ?_ | refine rdi zq22 ?_ | refine rdi zq23 ?_ | refine rdi zq24 ?_ | refine rdi zq25 ?_ | refine rdi zq26 ?_ | refine rdi len27 ?_ | refine rdi len35 ?_)
  rw [zv_ zdb_ sz26 rfl (H.get 21 rfl)]
  refine specIP_n hip (H.get 18 rfl) (H.get 19 rfl) (H.get 20 rfl).1 fun w27 g => ?_
  have H := H.step g
  repeat (first | refine rdi zkb_ ?_ | refine rdi zib_ ?_ | refine rdi zmb_ ?_ | refine rdi zjb_ ?_ | refine rdi zq1 ?_ | refine rdi zq2 ?_ | refine rdi zq13 ?_ | refine rdi zq14 ?_ | refine rdi zq16 ?_ | refine rdi zq15 ?_ | refine rdi zq17 ?_ | refine rdi zq4 ?_ | refine rdi zq3 ?_ | refine rdi zq27 ?_ | refine rdi bneq ?_ | refine rdi beql ?_ | refine rdi zq29 ?_ | refine rdi zq30 ?_ | refine rdi zq21 ?_ | refine rdi zq22 ?_ | refine rdi zq23 ?_ | refine rdi zq24 ?_ | refine rdi zq25 ?_ | refine rdi zq26 ?_ | refine rdi len27 ?_ | refine rdi len35 ?_)
  refine zjk_ (H.get 16 rfl).1 (H.get 17 rfl).1 fun w28 g => ?_
  have H := H.step g
  repeat (first | refine rdi zkb_ ?_ | refine rdi zib_ ?_ | refine rdi zmb_ ?_ | refine rdi zjb_ ?_ | refine rdi zq1 ?_ | refine rdi zq2 ?_ | refine rdi zq13 ?_ | refine rdi zq14 ?_ | refine rdi zq16 ?_ | refine rdi zq15 ?_ | refine rdi zq17 ?_ | refine rdi zq4 ?_ | refine rdi zq3 ?_ | refine rdi zq27 ?_ | refine rdi bneq ?_ | refine rdi beql ?_ | refine rdi zq29 ?_ | refine rdi zq30 ?_ | refine rdi zq21 ?_ | refine rdi zq22 ?_ | refine rdi zq23 ?_ | refine rdi zq24 ?_ | refine rdi zq25 ?_ | refine rdi zq26 ?_ | refine rdi len27 ?_ | refine rdi len35 ?_)
  exact hk _ (H.get 0 rfl)
open Go
theorem make_of {P : Program} {W : List (List Char)} {c : List Char} {rest : List (List Char)} (h : behindMainWord (wordsSigns P.initOrder.toList) = W) (hW : W = c :: rest) (hc : (c == "gc".toList || c == "spec".toList) = false) (h2 : (c == "cut".toList) = true) : P.make = some .cut := by
  unfold Program.make
  rw [h, hW]
  dsimp only
  rw [if_neg (by rw [hc]; exact Bool.false_ne_true), if_pos (by rw [h2]; rfl)]
theorem lifts_of {P : Program} {W : List (List Char)} (h : behindMainWord (wordsSigns P.initOrder.toList) = W) (h1 : (W.head? == some "carried".toList) = false) (h2 : (stripLifts liftWords W).1.contains "finals" = false) : P.liftsFinal = false := by
  unfold Program.liftsFinal Program.headLifts
  rw [h]
  simp only [h1, Bool.false_and, Bool.false_or]
  split
  · exact h2
  · rfl
theorem may_of {P : Program} {W : List (List Char)} {c : List Char} {rest : List (List Char)} {l : List String} (h : behindMainWord (wordsSigns P.initOrder.toList) = W) (hW : W = c :: rest) (hl : P.laysLater = false) (hb : P.bearsReflect = false) (hs : stripLifts liftWords (c :: rest) = (l, c :: rest)) (h2 : (c == "cut".toList) = true) (h3 : l.contains "leanrows" = false) (hd : P.doorFits l = true) : P.mayEnter = true := by
  unfold Program.mayEnter
  rw [h, hW]
  have h4 : (some c == some "cut".toList) = true := h2
  simp only [hs, hl, hb, h3, hd, h4, List.head?_cons, Bool.not_false, Bool.and_true, Bool.or_true]
def signs : List Char := Char.ofNat 104 :: Char.ofNat 97 :: Char.ofNat 114 :: Char.ofNat 110 :: Char.ofNat 101 :: Char.ofNat 115 :: Char.ofNat 115 :: Char.ofNat 32 :: Char.ofNat 54 :: Char.ofNat 56 :: Char.ofNat 98 :: Char.ofNat 99 :: Char.ofNat 101 :: Char.ofNat 53 :: Char.ofNat 101 :: Char.ofNat 51 :: Char.ofNat 48 :: Char.ofNat 98 :: Char.ofNat 99 :: Char.ofNat 100 :: Char.ofNat 53 :: Char.ofNat 48 :: Char.ofNat 57 :: Char.ofNat 53 :: Char.ofNat 50 :: Char.ofNat 99 :: Char.ofNat 57 :: Char.ofNat 55 :: Char.ofNat 55 :: Char.ofNat 51 :: Char.ofNat 57 :: Char.ofNat 97 :: Char.ofNat 99 :: Char.ofNat 97 :: Char.ofNat 98 :: Char.ofNat 101 :: Char.ofNat 102 :: Char.ofNat 48 :: Char.ofNat 52 :: Char.ofNat 57 :: Char.ofNat 51 :: Char.ofNat 48 :: Char.ofNat 48 :: Char.ofNat 48 :: Char.ofNat 56 :: Char.ofNat 52 :: Char.ofNat 101 :: Char.ofNat 101 :: Char.ofNat 57 :: Char.ofNat 53 :: Char.ofNat 57 :: Char.ofNat 50 :: Char.ofNat 101 :: Char.ofNat 52 :: Char.ofNat 50 :: Char.ofNat 50 :: Char.ofNat 48 :: Char.ofNat 98 :: Char.ofNat 48 :: Char.ofNat 51 :: Char.ofNat 100 :: Char.ofNat 98 :: Char.ofNat 56 :: Char.ofNat 101 :: Char.ofNat 54 :: Char.ofNat 52 :: Char.ofNat 99 :: Char.ofNat 98 :: Char.ofNat 53 :: Char.ofNat 55 :: Char.ofNat 49 :: Char.ofNat 98 :: Char.ofNat 32 :: Char.ofNat 99 :: Char.ofNat 117 :: Char.ofNat 116 :: Char.ofNat 32 :: Char.ofNat 97 :: Char.ofNat 116 :: Char.ofNat 32 :: Char.ofNat 108 :: Char.ofNat 111 :: Char.ofNat 111 :: Char.ofNat 112 :: Char.ofNat 46 :: Char.ofNat 101 :: Char.ofNat 120 :: Char.ofNat 97 :: Char.ofNat 109 :: Char.ofNat 112 :: Char.ofNat 108 :: Char.ofNat 101 :: Char.ofNat 47 :: Char.ofNat 103 :: Char.ofNat 48 :: Char.ofNat 48 :: Char.ofNat 55 :: Char.ofNat 53 :: Char.ofNat 56 :: Char.ofNat 47 :: Char.ofNat 108 :: Char.ofNat 97 :: Char.ofNat 119 :: Char.ofNat 115 :: Char.ofNat 46 :: Char.ofNat 70 :: Char.ofNat 110 :: Char.ofNat 68 :: Char.ofNat 101 :: Char.ofNat 114 :: Char.ofNat 105 :: Char.ofNat 118 :: Char.ofNat 101 :: Char.ofNat 115 :: Char.ofNat 32 :: Char.ofNat 108 :: Char.ofNat 111 :: Char.ofNat 111 :: Char.ofNat 112 :: Char.ofNat 46 :: Char.ofNat 101 :: Char.ofNat 120 :: Char.ofNat 97 :: Char.ofNat 109 :: Char.ofNat 112 :: Char.ofNat 108 :: Char.ofNat 101 :: Char.ofNat 47 :: Char.ofNat 103 :: Char.ofNat 48 :: Char.ofNat 48 :: Char.ofNat 55 :: Char.ofNat 53 :: Char.ofNat 56 :: Char.ofNat 47 :: Char.ofNat 108 :: Char.ofNat 97 :: Char.ofNat 119 :: Char.ofNat 115 :: Char.ofNat 46 :: Char.ofNat 70 :: Char.ofNat 110 :: Char.ofNat 70 :: Char.ofNat 105 :: Char.ofNat 114 :: Char.ofNat 115 :: Char.ofNat 116 :: Char.ofNat 115 :: Char.ofNat 32 :: Char.ofNat 108 :: Char.ofNat 111 :: Char.ofNat 111 :: Char.ofNat 112 :: Char.ofNat 46 :: Char.ofNat 101 :: Char.ofNat 120 :: Char.ofNat 97 :: Char.ofNat 109 :: Char.ofNat 112 :: Char.ofNat 108 :: Char.ofNat 101 :: Char.ofNat 47 :: Char.ofNat 103 :: Char.ofNat 48 :: Char.ofNat 48 :: Char.ofNat 55 :: Char.ofNat 53 :: Char.ofNat 56 :: Char.ofNat 47 :: Char.ofNat 108 :: Char.ofNat 97 :: Char.ofNat 119 :: Char.ofNat 115 :: Char.ofNat 46 :: Char.ofNat 70 :: Char.ofNat 110 :: Char.ofNat 66 :: Char.ofNat 101 :: Char.ofNat 115 :: Char.ofNat 105 :: Char.ofNat 100 :: Char.ofNat 101 :: Char.ofNat 32 :: Char.ofNat 108 :: Char.ofNat 111 :: Char.ofNat 111 :: Char.ofNat 112 :: Char.ofNat 46 :: Char.ofNat 101 :: Char.ofNat 120 :: Char.ofNat 97 :: Char.ofNat 109 :: Char.ofNat 112 :: Char.ofNat 108 :: Char.ofNat 101 :: Char.ofNat 47 :: Char.ofNat 103 :: Char.ofNat 48 :: Char.ofNat 48 :: Char.ofNat 55 :: Char.ofNat 53 :: Char.ofNat 56 :: Char.ofNat 47 :: Char.ofNat 108 :: Char.ofNat 97 :: Char.ofNat 119 :: Char.ofNat 115 :: Char.ofNat 46 :: Char.ofNat 70 :: Char.ofNat 110 :: Char.ofNat 82 :: Char.ofNat 101 :: Char.ofNat 119 :: Char.ofNat 114 :: Char.ofNat 105 :: Char.ofNat 116 :: Char.ofNat 101 :: Char.ofNat 115 :: Char.ofNat 32 :: Char.ofNat 108 :: Char.ofNat 111 :: Char.ofNat 111 :: Char.ofNat 112 :: Char.ofNat 46 :: Char.ofNat 101 :: Char.ofNat 120 :: Char.ofNat 97 :: Char.ofNat 109 :: Char.ofNat 112 :: Char.ofNat 108 :: Char.ofNat 101 :: Char.ofNat 47 :: Char.ofNat 103 :: Char.ofNat 48 :: Char.ofNat 48 :: Char.ofNat 55 :: Char.ofNat 53 :: Char.ofNat 56 :: Char.ofNat 47 :: Char.ofNat 108 :: Char.ofNat 97 :: Char.ofNat 119 :: Char.ofNat 115 :: Char.ofNat 46 :: Char.ofNat 70 :: Char.ofNat 110 :: Char.ofNat 70 :: Char.ofNat 105 :: Char.ofNat 110 :: Char.ofNat 105 :: Char.ofNat 116 :: Char.ofNat 101 :: Char.ofNat 32 :: Char.ofNat 108 :: Char.ofNat 111 :: Char.ofNat 111 :: Char.ofNat 112 :: Char.ofNat 46 :: Char.ofNat 101 :: Char.ofNat 120 :: Char.ofNat 97 :: Char.ofNat 109 :: Char.ofNat 112 :: Char.ofNat 108 :: Char.ofNat 101 :: Char.ofNat 47 :: Char.ofNat 103 :: Char.ofNat 48 :: Char.ofNat 48 :: Char.ofNat 55 :: Char.ofNat 53 :: Char.ofNat 56 :: Char.ofNat 47 :: Char.ofNat 108 :: Char.ofNat 97 :: Char.ofNat 119 :: Char.ofNat 115 :: Char.ofNat 46 :: Char.ofNat 70 :: Char.ofNat 110 :: Char.ofNat 85 :: Char.ofNat 115 :: Char.ofNat 101 :: Char.ofNat 102 :: Char.ofNat 117 :: Char.ofNat 108 :: Char.ofNat 32 :: Char.ofNat 108 :: Char.ofNat 111 :: Char.ofNat 111 :: Char.ofNat 112 :: Char.ofNat 46 :: Char.ofNat 101 :: Char.ofNat 120 :: Char.ofNat 97 :: Char.ofNat 109 :: Char.ofNat 112 :: Char.ofNat 108 :: Char.ofNat 101 :: Char.ofNat 47 :: Char.ofNat 103 :: Char.ofNat 48 :: Char.ofNat 48 :: Char.ofNat 55 :: Char.ofNat 53 :: Char.ofNat 56 :: Char.ofNat 47 :: Char.ofNat 108 :: Char.ofNat 97 :: Char.ofNat 119 :: Char.ofNat 115 :: Char.ofNat 46 :: Char.ofNat 70 :: Char.ofNat 110 :: Char.ofNat 85 :: Char.ofNat 110 :: Char.ofNat 108 :: Char.ofNat 105 :: Char.ofNat 107 :: Char.ofNat 101 :: Char.ofNat 32 :: Char.ofNat 108 :: Char.ofNat 111 :: Char.ofNat 111 :: Char.ofNat 112 :: Char.ofNat 46 :: Char.ofNat 101 :: Char.ofNat 120 :: Char.ofNat 97 :: Char.ofNat 109 :: Char.ofNat 112 :: Char.ofNat 108 :: Char.ofNat 101 :: Char.ofNat 47 :: Char.ofNat 103 :: Char.ofNat 48 :: Char.ofNat 48 :: Char.ofNat 55 :: Char.ofNat 53 :: Char.ofNat 56 :: Char.ofNat 47 :: Char.ofNat 108 :: Char.ofNat 97 :: Char.ofNat 119 :: Char.ofNat 115 :: Char.ofNat 46 :: Char.ofNat 70 :: Char.ofNat 110 :: Char.ofNat 67 :: Char.ofNat 101 :: Char.ofNat 108 :: Char.ofNat 108 :: Char.ofNat 115 :: Char.ofNat 32 :: Char.ofNat 108 :: Char.ofNat 111 :: Char.ofNat 111 :: Char.ofNat 112 :: Char.ofNat 46 :: Char.ofNat 101 :: Char.ofNat 120 :: Char.ofNat 97 :: Char.ofNat 109 :: Char.ofNat 112 :: Char.ofNat 108 :: Char.ofNat 101 :: Char.ofNat 47 :: Char.ofNat 103 :: Char.ofNat 48 :: Char.ofNat 48 :: Char.ofNat 55 :: Char.ofNat 53 :: Char.ofNat 56 :: Char.ofNat 47 :: Char.ofNat 108 :: Char.ofNat 97 :: Char.ofNat 119 :: Char.ofNat 115 :: Char.ofNat 46 :: Char.ofNat 70 :: Char.ofNat 110 :: Char.ofNat 77 :: Char.ofNat 101 :: Char.ofNat 110 :: Char.ofNat 100 :: Char.ofNat 32 :: Char.ofNat 108 :: Char.ofNat 111 :: Char.ofNat 111 :: Char.ofNat 112 :: Char.ofNat 46 :: Char.ofNat 101 :: Char.ofNat 120 :: Char.ofNat 97 :: Char.ofNat 109 :: Char.ofNat 112 :: Char.ofNat 108 :: Char.ofNat 101 :: Char.ofNat 47 :: Char.ofNat 103 :: Char.ofNat 48 :: Char.ofNat 48 :: Char.ofNat 55 :: Char.ofNat 53 :: Char.ofNat 56 :: Char.ofNat 47 :: Char.ofNat 108 :: Char.ofNat 97 :: Char.ofNat 119 :: Char.ofNat 115 :: Char.ofNat 46 :: Char.ofNat 70 :: Char.ofNat 110 :: Char.ofNat 80 :: Char.ofNat 117 :: Char.ofNat 109 :: Char.ofNat 112 :: Char.ofNat 32 :: Char.ofNat 108 :: Char.ofNat 111 :: Char.ofNat 111 :: Char.ofNat 112 :: Char.ofNat 46 :: Char.ofNat 101 :: Char.ofNat 120 :: Char.ofNat 97 :: Char.ofNat 109 :: Char.ofNat 112 :: Char.ofNat 108 :: Char.ofNat 101 :: Char.ofNat 47 :: Char.ofNat 103 :: Char.ofNat 48 :: Char.ofNat 48 :: Char.ofNat 55 :: Char.ofNat 53 :: Char.ofNat 56 :: Char.ofNat 47 :: Char.ofNat 108 :: Char.ofNat 97 :: Char.ofNat 119 :: Char.ofNat 115 :: Char.ofNat 46 :: Char.ofNat 70 :: Char.ofNat 110 :: Char.ofNat 76 :: Char.ofNat 111 :: Char.ofNat 110 :: Char.ofNat 103 :: Char.ofNat 69 :: Char.ofNat 110 :: Char.ofNat 111 :: Char.ofNat 117 :: Char.ofNat 103 :: Char.ofNat 104 :: Char.ofNat 32 :: Char.ofNat 108 :: Char.ofNat 111 :: Char.ofNat 111 :: Char.ofNat 112 :: Char.ofNat 46 :: Char.ofNat 101 :: Char.ofNat 120 :: Char.ofNat 97 :: Char.ofNat 109 :: Char.ofNat 112 :: Char.ofNat 108 :: Char.ofNat 101 :: Char.ofNat 47 :: Char.ofNat 103 :: Char.ofNat 48 :: Char.ofNat 48 :: Char.ofNat 55 :: Char.ofNat 53 :: Char.ofNat 56 :: Char.ofNat 47 :: Char.ofNat 108 :: Char.ofNat 97 :: Char.ofNat 119 :: Char.ofNat 115 :: Char.ofNat 46 :: Char.ofNat 70 :: Char.ofNat 110 :: Char.ofNat 84 :: Char.ofNat 117 :: Char.ofNat 114 :: Char.ofNat 110 :: Char.ofNat 101 :: Char.ofNat 100 :: []
theorem io0 : Try.prog.initOrder = "harness 68bce5e30bcd50952c97739acabef049300084ee9592e4220b03db8e64cb571b cut at loop.example/g00758/laws.FnDerives loop.example/g00758/laws.FnFirsts loop.example/g00758/laws.FnBeside loop.example/g00758/laws.FnRewrites loop.example/g00758/laws.FnFinite loop.example/g00758/laws.FnUseful loop.example/g00758/laws.FnUnlike loop.example/g00758/laws.FnCells loop.example/g00758/laws.FnMend loop.example/g00758/laws.FnPump loop.example/g00758/laws.FnLongEnough loop.example/g00758/laws.FnTurned" := by kernel_rfl
theorem io1 : "harness 68bce5e30bcd50952c97739acabef049300084ee9592e4220b03db8e64cb571b cut at loop.example/g00758/laws.FnDerives loop.example/g00758/laws.FnFirsts loop.example/g00758/laws.FnBeside loop.example/g00758/laws.FnRewrites loop.example/g00758/laws.FnFinite loop.example/g00758/laws.FnUseful loop.example/g00758/laws.FnUnlike loop.example/g00758/laws.FnCells loop.example/g00758/laws.FnMend loop.example/g00758/laws.FnPump loop.example/g00758/laws.FnLongEnough loop.example/g00758/laws.FnTurned" = String.ofList (Char.ofNat 104 :: Char.ofNat 97 :: Char.ofNat 114 :: Char.ofNat 110 :: Char.ofNat 101 :: Char.ofNat 115 :: Char.ofNat 115 :: Char.ofNat 32 :: Char.ofNat 54 :: Char.ofNat 56 :: Char.ofNat 98 :: Char.ofNat 99 :: Char.ofNat 101 :: Char.ofNat 53 :: Char.ofNat 101 :: Char.ofNat 51 :: Char.ofNat 48 :: Char.ofNat 98 :: Char.ofNat 99 :: Char.ofNat 100 :: Char.ofNat 53 :: Char.ofNat 48 :: Char.ofNat 57 :: Char.ofNat 53 :: Char.ofNat 50 :: Char.ofNat 99 :: Char.ofNat 57 :: Char.ofNat 55 :: Char.ofNat 55 :: Char.ofNat 51 :: Char.ofNat 57 :: Char.ofNat 97 :: Char.ofNat 99 :: Char.ofNat 97 :: Char.ofNat 98 :: Char.ofNat 101 :: Char.ofNat 102 :: Char.ofNat 48 :: Char.ofNat 52 :: Char.ofNat 57 :: Char.ofNat 51 :: Char.ofNat 48 :: Char.ofNat 48 :: Char.ofNat 48 :: Char.ofNat 56 :: Char.ofNat 52 :: Char.ofNat 101 :: Char.ofNat 101 :: Char.ofNat 57 :: Char.ofNat 53 :: Char.ofNat 57 :: Char.ofNat 50 :: Char.ofNat 101 :: Char.ofNat 52 :: Char.ofNat 50 :: Char.ofNat 50 :: Char.ofNat 48 :: Char.ofNat 98 :: Char.ofNat 48 :: Char.ofNat 51 :: Char.ofNat 100 :: Char.ofNat 98 :: Char.ofNat 56 :: Char.ofNat 101 :: Char.ofNat 54 :: Char.ofNat 52 :: Char.ofNat 99 :: Char.ofNat 98 :: Char.ofNat 53 :: Char.ofNat 55 :: Char.ofNat 49 :: Char.ofNat 98 :: Char.ofNat 32 :: Char.ofNat 99 :: Char.ofNat 117 :: Char.ofNat 116 :: Char.ofNat 32 :: Char.ofNat 97 :: Char.ofNat 116 :: Char.ofNat 32 :: Char.ofNat 108 :: Char.ofNat 111 :: Char.ofNat 111 :: Char.ofNat 112 :: Char.ofNat 46 :: Char.ofNat 101 :: Char.ofNat 120 :: Char.ofNat 97 :: Char.ofNat 109 :: Char.ofNat 112 :: Char.ofNat 108 :: Char.ofNat 101 :: Char.ofNat 47 :: Char.ofNat 103 :: Char.ofNat 48 :: Char.ofNat 48 :: Char.ofNat 55 :: Char.ofNat 53 :: Char.ofNat 56 :: Char.ofNat 47 :: Char.ofNat 108 :: Char.ofNat 97 :: Char.ofNat 119 :: Char.ofNat 115 :: Char.ofNat 46 :: Char.ofNat 70 :: Char.ofNat 110 :: Char.ofNat 68 :: Char.ofNat 101 :: Char.ofNat 114 :: Char.ofNat 105 :: Char.ofNat 118 :: Char.ofNat 101 :: Char.ofNat 115 :: Char.ofNat 32 :: Char.ofNat 108 :: Char.ofNat 111 :: Char.ofNat 111 :: Char.ofNat 112 :: Char.ofNat 46 :: Char.ofNat 101 :: Char.ofNat 120 :: Char.ofNat 97 :: Char.ofNat 109 :: Char.ofNat 112 :: Char.ofNat 108 :: Char.ofNat 101 :: Char.ofNat 47 :: Char.ofNat 103 :: Char.ofNat 48 :: Char.ofNat 48 :: Char.ofNat 55 :: Char.ofNat 53 :: Char.ofNat 56 :: Char.ofNat 47 :: Char.ofNat 108 :: Char.ofNat 97 :: Char.ofNat 119 :: Char.ofNat 115 :: Char.ofNat 46 :: Char.ofNat 70 :: Char.ofNat 110 :: Char.ofNat 70 :: Char.ofNat 105 :: Char.ofNat 114 :: Char.ofNat 115 :: Char.ofNat 116 :: Char.ofNat 115 :: Char.ofNat 32 :: Char.ofNat 108 :: Char.ofNat 111 :: Char.ofNat 111 :: Char.ofNat 112 :: Char.ofNat 46 :: Char.ofNat 101 :: Char.ofNat 120 :: Char.ofNat 97 :: Char.ofNat 109 :: Char.ofNat 112 :: Char.ofNat 108 :: Char.ofNat 101 :: Char.ofNat 47 :: Char.ofNat 103 :: Char.ofNat 48 :: Char.ofNat 48 :: Char.ofNat 55 :: Char.ofNat 53 :: Char.ofNat 56 :: Char.ofNat 47 :: Char.ofNat 108 :: Char.ofNat 97 :: Char.ofNat 119 :: Char.ofNat 115 :: Char.ofNat 46 :: Char.ofNat 70 :: Char.ofNat 110 :: Char.ofNat 66 :: Char.ofNat 101 :: Char.ofNat 115 :: Char.ofNat 105 :: Char.ofNat 100 :: Char.ofNat 101 :: Char.ofNat 32 :: Char.ofNat 108 :: Char.ofNat 111 :: Char.ofNat 111 :: Char.ofNat 112 :: Char.ofNat 46 :: Char.ofNat 101 :: Char.ofNat 120 :: Char.ofNat 97 :: Char.ofNat 109 :: Char.ofNat 112 :: Char.ofNat 108 :: Char.ofNat 101 :: Char.ofNat 47 :: Char.ofNat 103 :: Char.ofNat 48 :: Char.ofNat 48 :: Char.ofNat 55 :: Char.ofNat 53 :: Char.ofNat 56 :: Char.ofNat 47 :: Char.ofNat 108 :: Char.ofNat 97 :: Char.ofNat 119 :: Char.ofNat 115 :: Char.ofNat 46 :: Char.ofNat 70 :: Char.ofNat 110 :: Char.ofNat 82 :: Char.ofNat 101 :: Char.ofNat 119 :: Char.ofNat 114 :: Char.ofNat 105 :: Char.ofNat 116 :: Char.ofNat 101 :: Char.ofNat 115 :: Char.ofNat 32 :: Char.ofNat 108 :: Char.ofNat 111 :: Char.ofNat 111 :: Char.ofNat 112 :: Char.ofNat 46 :: Char.ofNat 101 :: Char.ofNat 120 :: Char.ofNat 97 :: Char.ofNat 109 :: Char.ofNat 112 :: Char.ofNat 108 :: Char.ofNat 101 :: Char.ofNat 47 :: Char.ofNat 103 :: Char.ofNat 48 :: Char.ofNat 48 :: Char.ofNat 55 :: Char.ofNat 53 :: Char.ofNat 56 :: Char.ofNat 47 :: Char.ofNat 108 :: Char.ofNat 97 :: Char.ofNat 119 :: Char.ofNat 115 :: Char.ofNat 46 :: Char.ofNat 70 :: Char.ofNat 110 :: Char.ofNat 70 :: Char.ofNat 105 :: Char.ofNat 110 :: Char.ofNat 105 :: Char.ofNat 116 :: Char.ofNat 101 :: Char.ofNat 32 :: Char.ofNat 108 :: Char.ofNat 111 :: Char.ofNat 111 :: Char.ofNat 112 :: Char.ofNat 46 :: Char.ofNat 101 :: Char.ofNat 120 :: Char.ofNat 97 :: Char.ofNat 109 :: Char.ofNat 112 :: Char.ofNat 108 :: Char.ofNat 101 :: Char.ofNat 47 :: Char.ofNat 103 :: Char.ofNat 48 :: Char.ofNat 48 :: Char.ofNat 55 :: Char.ofNat 53 :: Char.ofNat 56 :: Char.ofNat 47 :: Char.ofNat 108 :: Char.ofNat 97 :: Char.ofNat 119 :: Char.ofNat 115 :: Char.ofNat 46 :: Char.ofNat 70 :: Char.ofNat 110 :: Char.ofNat 85 :: Char.ofNat 115 :: Char.ofNat 101 :: Char.ofNat 102 :: Char.ofNat 117 :: Char.ofNat 108 :: Char.ofNat 32 :: Char.ofNat 108 :: Char.ofNat 111 :: Char.ofNat 111 :: Char.ofNat 112 :: Char.ofNat 46 :: Char.ofNat 101 :: Char.ofNat 120 :: Char.ofNat 97 :: Char.ofNat 109 :: Char.ofNat 112 :: Char.ofNat 108 :: Char.ofNat 101 :: Char.ofNat 47 :: Char.ofNat 103 :: Char.ofNat 48 :: Char.ofNat 48 :: Char.ofNat 55 :: Char.ofNat 53 :: Char.ofNat 56 :: Char.ofNat 47 :: Char.ofNat 108 :: Char.ofNat 97 :: Char.ofNat 119 :: Char.ofNat 115 :: Char.ofNat 46 :: Char.ofNat 70 :: Char.ofNat 110 :: Char.ofNat 85 :: Char.ofNat 110 :: Char.ofNat 108 :: Char.ofNat 105 :: Char.ofNat 107 :: Char.ofNat 101 :: Char.ofNat 32 :: Char.ofNat 108 :: Char.ofNat 111 :: Char.ofNat 111 :: Char.ofNat 112 :: Char.ofNat 46 :: Char.ofNat 101 :: Char.ofNat 120 :: Char.ofNat 97 :: Char.ofNat 109 :: Char.ofNat 112 :: Char.ofNat 108 :: Char.ofNat 101 :: Char.ofNat 47 :: Char.ofNat 103 :: Char.ofNat 48 :: Char.ofNat 48 :: Char.ofNat 55 :: Char.ofNat 53 :: Char.ofNat 56 :: Char.ofNat 47 :: Char.ofNat 108 :: Char.ofNat 97 :: Char.ofNat 119 :: Char.ofNat 115 :: Char.ofNat 46 :: Char.ofNat 70 :: Char.ofNat 110 :: Char.ofNat 67 :: Char.ofNat 101 :: Char.ofNat 108 :: Char.ofNat 108 :: Char.ofNat 115 :: Char.ofNat 32 :: Char.ofNat 108 :: Char.ofNat 111 :: Char.ofNat 111 :: Char.ofNat 112 :: Char.ofNat 46 :: Char.ofNat 101 :: Char.ofNat 120 :: Char.ofNat 97 :: Char.ofNat 109 :: Char.ofNat 112 :: Char.ofNat 108 :: Char.ofNat 101 :: Char.ofNat 47 :: Char.ofNat 103 :: Char.ofNat 48 :: Char.ofNat 48 :: Char.ofNat 55 :: Char.ofNat 53 :: Char.ofNat 56 :: Char.ofNat 47 :: Char.ofNat 108 :: Char.ofNat 97 :: Char.ofNat 119 :: Char.ofNat 115 :: Char.ofNat 46 :: Char.ofNat 70 :: Char.ofNat 110 :: Char.ofNat 77 :: Char.ofNat 101 :: Char.ofNat 110 :: Char.ofNat 100 :: Char.ofNat 32 :: Char.ofNat 108 :: Char.ofNat 111 :: Char.ofNat 111 :: Char.ofNat 112 :: Char.ofNat 46 :: Char.ofNat 101 :: Char.ofNat 120 :: Char.ofNat 97 :: Char.ofNat 109 :: Char.ofNat 112 :: Char.ofNat 108 :: Char.ofNat 101 :: Char.ofNat 47 :: Char.ofNat 103 :: Char.ofNat 48 :: Char.ofNat 48 :: Char.ofNat 55 :: Char.ofNat 53 :: Char.ofNat 56 :: Char.ofNat 47 :: Char.ofNat 108 :: Char.ofNat 97 :: Char.ofNat 119 :: Char.ofNat 115 :: Char.ofNat 46 :: Char.ofNat 70 :: Char.ofNat 110 :: Char.ofNat 80 :: Char.ofNat 117 :: Char.ofNat 109 :: Char.ofNat 112 :: Char.ofNat 32 :: Char.ofNat 108 :: Char.ofNat 111 :: Char.ofNat 111 :: Char.ofNat 112 :: Char.ofNat 46 :: Char.ofNat 101 :: Char.ofNat 120 :: Char.ofNat 97 :: Char.ofNat 109 :: Char.ofNat 112 :: Char.ofNat 108 :: Char.ofNat 101 :: Char.ofNat 47 :: Char.ofNat 103 :: Char.ofNat 48 :: Char.ofNat 48 :: Char.ofNat 55 :: Char.ofNat 53 :: Char.ofNat 56 :: Char.ofNat 47 :: Char.ofNat 108 :: Char.ofNat 97 :: Char.ofNat 119 :: Char.ofNat 115 :: Char.ofNat 46 :: Char.ofNat 70 :: Char.ofNat 110 :: Char.ofNat 76 :: Char.ofNat 111 :: Char.ofNat 110 :: Char.ofNat 103 :: Char.ofNat 69 :: Char.ofNat 110 :: Char.ofNat 111 :: Char.ofNat 117 :: Char.ofNat 103 :: Char.ofNat 104 :: Char.ofNat 32 :: Char.ofNat 108 :: Char.ofNat 111 :: Char.ofNat 111 :: Char.ofNat 112 :: Char.ofNat 46 :: Char.ofNat 101 :: Char.ofNat 120 :: Char.ofNat 97 :: Char.ofNat 109 :: Char.ofNat 112 :: Char.ofNat 108 :: Char.ofNat 101 :: Char.ofNat 47 :: Char.ofNat 103 :: Char.ofNat 48 :: Char.ofNat 48 :: Char.ofNat 55 :: Char.ofNat 53 :: Char.ofNat 56 :: Char.ofNat 47 :: Char.ofNat 108 :: Char.ofNat 97 :: Char.ofNat 119 :: Char.ofNat 115 :: Char.ofNat 46 :: Char.ofNat 70 :: Char.ofNat 110 :: Char.ofNat 84 :: Char.ofNat 117 :: Char.ofNat 114 :: Char.ofNat 110 :: Char.ofNat 101 :: Char.ofNat 100 :: []) := by kernel_rfl
theorem io : Try.prog.initOrder = String.ofList (Char.ofNat 104 :: Char.ofNat 97 :: Char.ofNat 114 :: Char.ofNat 110 :: Char.ofNat 101 :: Char.ofNat 115 :: Char.ofNat 115 :: Char.ofNat 32 :: Char.ofNat 54 :: Char.ofNat 56 :: Char.ofNat 98 :: Char.ofNat 99 :: Char.ofNat 101 :: Char.ofNat 53 :: Char.ofNat 101 :: Char.ofNat 51 :: Char.ofNat 48 :: Char.ofNat 98 :: Char.ofNat 99 :: Char.ofNat 100 :: Char.ofNat 53 :: Char.ofNat 48 :: Char.ofNat 57 :: Char.ofNat 53 :: Char.ofNat 50 :: Char.ofNat 99 :: Char.ofNat 57 :: Char.ofNat 55 :: Char.ofNat 55 :: Char.ofNat 51 :: Char.ofNat 57 :: Char.ofNat 97 :: Char.ofNat 99 :: Char.ofNat 97 :: Char.ofNat 98 :: Char.ofNat 101 :: Char.ofNat 102 :: Char.ofNat 48 :: Char.ofNat 52 :: Char.ofNat 57 :: Char.ofNat 51 :: Char.ofNat 48 :: Char.ofNat 48 :: Char.ofNat 48 :: Char.ofNat 56 :: Char.ofNat 52 :: Char.ofNat 101 :: Char.ofNat 101 :: Char.ofNat 57 :: Char.ofNat 53 :: Char.ofNat 57 :: Char.ofNat 50 :: Char.ofNat 101 :: Char.ofNat 52 :: Char.ofNat 50 :: Char.ofNat 50 :: Char.ofNat 48 :: Char.ofNat 98 :: Char.ofNat 48 :: Char.ofNat 51 :: Char.ofNat 100 :: Char.ofNat 98 :: Char.ofNat 56 :: Char.ofNat 101 :: Char.ofNat 54 :: Char.ofNat 52 :: Char.ofNat 99 :: Char.ofNat 98 :: Char.ofNat 53 :: Char.ofNat 55 :: Char.ofNat 49 :: Char.ofNat 98 :: Char.ofNat 32 :: Char.ofNat 99 :: Char.ofNat 117 :: Char.ofNat 116 :: Char.ofNat 32 :: Char.ofNat 97 :: Char.ofNat 116 :: Char.ofNat 32 :: Char.ofNat 108 :: Char.ofNat 111 :: Char.ofNat 111 :: Char.ofNat 112 :: Char.ofNat 46 :: Char.ofNat 101 :: Char.ofNat 120 :: Char.ofNat 97 :: Char.ofNat 109 :: Char.ofNat 112 :: Char.ofNat 108 :: Char.ofNat 101 :: Char.ofNat 47 :: Char.ofNat 103 :: Char.ofNat 48 :: Char.ofNat 48 :: Char.ofNat 55 :: Char.ofNat 53 :: Char.ofNat 56 :: Char.ofNat 47 :: Char.ofNat 108 :: Char.ofNat 97 :: Char.ofNat 119 :: Char.ofNat 115 :: Char.ofNat 46 :: Char.ofNat 70 :: Char.ofNat 110 :: Char.ofNat 68 :: Char.ofNat 101 :: Char.ofNat 114 :: Char.ofNat 105 :: Char.ofNat 118 :: Char.ofNat 101 :: Char.ofNat 115 :: Char.ofNat 32 :: Char.ofNat 108 :: Char.ofNat 111 :: Char.ofNat 111 :: Char.ofNat 112 :: Char.ofNat 46 :: Char.ofNat 101 :: Char.ofNat 120 :: Char.ofNat 97 :: Char.ofNat 109 :: Char.ofNat 112 :: Char.ofNat 108 :: Char.ofNat 101 :: Char.ofNat 47 :: Char.ofNat 103 :: Char.ofNat 48 :: Char.ofNat 48 :: Char.ofNat 55 :: Char.ofNat 53 :: Char.ofNat 56 :: Char.ofNat 47 :: Char.ofNat 108 :: Char.ofNat 97 :: Char.ofNat 119 :: Char.ofNat 115 :: Char.ofNat 46 :: Char.ofNat 70 :: Char.ofNat 110 :: Char.ofNat 70 :: Char.ofNat 105 :: Char.ofNat 114 :: Char.ofNat 115 :: Char.ofNat 116 :: Char.ofNat 115 :: Char.ofNat 32 :: Char.ofNat 108 :: Char.ofNat 111 :: Char.ofNat 111 :: Char.ofNat 112 :: Char.ofNat 46 :: Char.ofNat 101 :: Char.ofNat 120 :: Char.ofNat 97 :: Char.ofNat 109 :: Char.ofNat 112 :: Char.ofNat 108 :: Char.ofNat 101 :: Char.ofNat 47 :: Char.ofNat 103 :: Char.ofNat 48 :: Char.ofNat 48 :: Char.ofNat 55 :: Char.ofNat 53 :: Char.ofNat 56 :: Char.ofNat 47 :: Char.ofNat 108 :: Char.ofNat 97 :: Char.ofNat 119 :: Char.ofNat 115 :: Char.ofNat 46 :: Char.ofNat 70 :: Char.ofNat 110 :: Char.ofNat 66 :: Char.ofNat 101 :: Char.ofNat 115 :: Char.ofNat 105 :: Char.ofNat 100 :: Char.ofNat 101 :: Char.ofNat 32 :: Char.ofNat 108 :: Char.ofNat 111 :: Char.ofNat 111 :: Char.ofNat 112 :: Char.ofNat 46 :: Char.ofNat 101 :: Char.ofNat 120 :: Char.ofNat 97 :: Char.ofNat 109 :: Char.ofNat 112 :: Char.ofNat 108 :: Char.ofNat 101 :: Char.ofNat 47 :: Char.ofNat 103 :: Char.ofNat 48 :: Char.ofNat 48 :: Char.ofNat 55 :: Char.ofNat 53 :: Char.ofNat 56 :: Char.ofNat 47 :: Char.ofNat 108 :: Char.ofNat 97 :: Char.ofNat 119 :: Char.ofNat 115 :: Char.ofNat 46 :: Char.ofNat 70 :: Char.ofNat 110 :: Char.ofNat 82 :: Char.ofNat 101 :: Char.ofNat 119 :: Char.ofNat 114 :: Char.ofNat 105 :: Char.ofNat 116 :: Char.ofNat 101 :: Char.ofNat 115 :: Char.ofNat 32 :: Char.ofNat 108 :: Char.ofNat 111 :: Char.ofNat 111 :: Char.ofNat 112 :: Char.ofNat 46 :: Char.ofNat 101 :: Char.ofNat 120 :: Char.ofNat 97 :: Char.ofNat 109 :: Char.ofNat 112 :: Char.ofNat 108 :: Char.ofNat 101 :: Char.ofNat 47 :: Char.ofNat 103 :: Char.ofNat 48 :: Char.ofNat 48 :: Char.ofNat 55 :: Char.ofNat 53 :: Char.ofNat 56 :: Char.ofNat 47 :: Char.ofNat 108 :: Char.ofNat 97 :: Char.ofNat 119 :: Char.ofNat 115 :: Char.ofNat 46 :: Char.ofNat 70 :: Char.ofNat 110 :: Char.ofNat 70 :: Char.ofNat 105 :: Char.ofNat 110 :: Char.ofNat 105 :: Char.ofNat 116 :: Char.ofNat 101 :: Char.ofNat 32 :: Char.ofNat 108 :: Char.ofNat 111 :: Char.ofNat 111 :: Char.ofNat 112 :: Char.ofNat 46 :: Char.ofNat 101 :: Char.ofNat 120 :: Char.ofNat 97 :: Char.ofNat 109 :: Char.ofNat 112 :: Char.ofNat 108 :: Char.ofNat 101 :: Char.ofNat 47 :: Char.ofNat 103 :: Char.ofNat 48 :: Char.ofNat 48 :: Char.ofNat 55 :: Char.ofNat 53 :: Char.ofNat 56 :: Char.ofNat 47 :: Char.ofNat 108 :: Char.ofNat 97 :: Char.ofNat 119 :: Char.ofNat 115 :: Char.ofNat 46 :: Char.ofNat 70 :: Char.ofNat 110 :: Char.ofNat 85 :: Char.ofNat 115 :: Char.ofNat 101 :: Char.ofNat 102 :: Char.ofNat 117 :: Char.ofNat 108 :: Char.ofNat 32 :: Char.ofNat 108 :: Char.ofNat 111 :: Char.ofNat 111 :: Char.ofNat 112 :: Char.ofNat 46 :: Char.ofNat 101 :: Char.ofNat 120 :: Char.ofNat 97 :: Char.ofNat 109 :: Char.ofNat 112 :: Char.ofNat 108 :: Char.ofNat 101 :: Char.ofNat 47 :: Char.ofNat 103 :: Char.ofNat 48 :: Char.ofNat 48 :: Char.ofNat 55 :: Char.ofNat 53 :: Char.ofNat 56 :: Char.ofNat 47 :: Char.ofNat 108 :: Char.ofNat 97 :: Char.ofNat 119 :: Char.ofNat 115 :: Char.ofNat 46 :: Char.ofNat 70 :: Char.ofNat 110 :: Char.ofNat 85 :: Char.ofNat 110 :: Char.ofNat 108 :: Char.ofNat 105 :: Char.ofNat 107 :: Char.ofNat 101 :: Char.ofNat 32 :: Char.ofNat 108 :: Char.ofNat 111 :: Char.ofNat 111 :: Char.ofNat 112 :: Char.ofNat 46 :: Char.ofNat 101 :: Char.ofNat 120 :: Char.ofNat 97 :: Char.ofNat 109 :: Char.ofNat 112 :: Char.ofNat 108 :: Char.ofNat 101 :: Char.ofNat 47 :: Char.ofNat 103 :: Char.ofNat 48 :: Char.ofNat 48 :: Char.ofNat 55 :: Char.ofNat 53 :: Char.ofNat 56 :: Char.ofNat 47 :: Char.ofNat 108 :: Char.ofNat 97 :: Char.ofNat 119 :: Char.ofNat 115 :: Char.ofNat 46 :: Char.ofNat 70 :: Char.ofNat 110 :: Char.ofNat 67 :: Char.ofNat 101 :: Char.ofNat 108 :: Char.ofNat 108 :: Char.ofNat 115 :: Char.ofNat 32 :: Char.ofNat 108 :: Char.ofNat 111 :: Char.ofNat 111 :: Char.ofNat 112 :: Char.ofNat 46 :: Char.ofNat 101 :: Char.ofNat 120 :: Char.ofNat 97 :: Char.ofNat 109 :: Char.ofNat 112 :: Char.ofNat 108 :: Char.ofNat 101 :: Char.ofNat 47 :: Char.ofNat 103 :: Char.ofNat 48 :: Char.ofNat 48 :: Char.ofNat 55 :: Char.ofNat 53 :: Char.ofNat 56 :: Char.ofNat 47 :: Char.ofNat 108 :: Char.ofNat 97 :: Char.ofNat 119 :: Char.ofNat 115 :: Char.ofNat 46 :: Char.ofNat 70 :: Char.ofNat 110 :: Char.ofNat 77 :: Char.ofNat 101 :: Char.ofNat 110 :: Char.ofNat 100 :: Char.ofNat 32 :: Char.ofNat 108 :: Char.ofNat 111 :: Char.ofNat 111 :: Char.ofNat 112 :: Char.ofNat 46 :: Char.ofNat 101 :: Char.ofNat 120 :: Char.ofNat 97 :: Char.ofNat 109 :: Char.ofNat 112 :: Char.ofNat 108 :: Char.ofNat 101 :: Char.ofNat 47 :: Char.ofNat 103 :: Char.ofNat 48 :: Char.ofNat 48 :: Char.ofNat 55 :: Char.ofNat 53 :: Char.ofNat 56 :: Char.ofNat 47 :: Char.ofNat 108 :: Char.ofNat 97 :: Char.ofNat 119 :: Char.ofNat 115 :: Char.ofNat 46 :: Char.ofNat 70 :: Char.ofNat 110 :: Char.ofNat 80 :: Char.ofNat 117 :: Char.ofNat 109 :: Char.ofNat 112 :: Char.ofNat 32 :: Char.ofNat 108 :: Char.ofNat 111 :: Char.ofNat 111 :: Char.ofNat 112 :: Char.ofNat 46 :: Char.ofNat 101 :: Char.ofNat 120 :: Char.ofNat 97 :: Char.ofNat 109 :: Char.ofNat 112 :: Char.ofNat 108 :: Char.ofNat 101 :: Char.ofNat 47 :: Char.ofNat 103 :: Char.ofNat 48 :: Char.ofNat 48 :: Char.ofNat 55 :: Char.ofNat 53 :: Char.ofNat 56 :: Char.ofNat 47 :: Char.ofNat 108 :: Char.ofNat 97 :: Char.ofNat 119 :: Char.ofNat 115 :: Char.ofNat 46 :: Char.ofNat 70 :: Char.ofNat 110 :: Char.ofNat 76 :: Char.ofNat 111 :: Char.ofNat 110 :: Char.ofNat 103 :: Char.ofNat 69 :: Char.ofNat 110 :: Char.ofNat 111 :: Char.ofNat 117 :: Char.ofNat 103 :: Char.ofNat 104 :: Char.ofNat 32 :: Char.ofNat 108 :: Char.ofNat 111 :: Char.ofNat 111 :: Char.ofNat 112 :: Char.ofNat 46 :: Char.ofNat 101 :: Char.ofNat 120 :: Char.ofNat 97 :: Char.ofNat 109 :: Char.ofNat 112 :: Char.ofNat 108 :: Char.ofNat 101 :: Char.ofNat 47 :: Char.ofNat 103 :: Char.ofNat 48 :: Char.ofNat 48 :: Char.ofNat 55 :: Char.ofNat 53 :: Char.ofNat 56 :: Char.ofNat 47 :: Char.ofNat 108 :: Char.ofNat 97 :: Char.ofNat 119 :: Char.ofNat 115 :: Char.ofNat 46 :: Char.ofNat 70 :: Char.ofNat 110 :: Char.ofNat 84 :: Char.ofNat 117 :: Char.ofNat 114 :: Char.ofNat 110 :: Char.ofNat 101 :: Char.ofNat 100 :: []) := io0.trans io1
theorem io2 : Try.prog.initOrder.toList = signs := by rw [io, String.toList_ofList]; rfl
def behind : List (List Char) := [[Char.ofNat 99, Char.ofNat 117, Char.ofNat 116], [Char.ofNat 97, Char.ofNat 116], [Char.ofNat 108, Char.ofNat 111, Char.ofNat 111, Char.ofNat 112, Char.ofNat 46, Char.ofNat 101, Char.ofNat 120, Char.ofNat 97, Char.ofNat 109, Char.ofNat 112, Char.ofNat 108, Char.ofNat 101, Char.ofNat 47, Char.ofNat 103, Char.ofNat 48, Char.ofNat 48, Char.ofNat 55, Char.ofNat 53, Char.ofNat 56, Char.ofNat 47, Char.ofNat 108, Char.ofNat 97, Char.ofNat 119, Char.ofNat 115, Char.ofNat 46, Char.ofNat 70, Char.ofNat 110, Char.ofNat 68, Char.ofNat 101, Char.ofNat 114, Char.ofNat 105, Char.ofNat 118, Char.ofNat 101, Char.ofNat 115], [Char.ofNat 108, Char.ofNat 111, Char.ofNat 111, Char.ofNat 112, Char.ofNat 46, Char.ofNat 101, Char.ofNat 120, Char.ofNat 97, Char.ofNat 109, Char.ofNat 112, Char.ofNat 108, Char.ofNat 101, Char.ofNat 47, Char.ofNat 103, Char.ofNat 48, Char.ofNat 48, Char.ofNat 55, Char.ofNat 53, Char.ofNat 56, Char.ofNat 47, Char.ofNat 108, Char.ofNat 97, Char.ofNat 119, Char.ofNat 115, Char.ofNat 46, Char.ofNat 70, Char.ofNat 110, Char.ofNat 70, Char.ofNat 105, Char.ofNat 114, Char.ofNat 115, Char.ofNat 116, Char.ofNat 115], [Char.ofNat 108, Char.ofNat 111, Char.ofNat 111, Char.ofNat 112, Char.ofNat 46, Char.ofNat 101, Char.ofNat 120, Char.ofNat 97, Char.ofNat 109, Char.ofNat 112, Char.ofNat 108, Char.ofNat 101, Char.ofNat 47, Char.ofNat 103, Char.ofNat 48, Char.ofNat 48, Char.ofNat 55, Char.ofNat 53, Char.ofNat 56, Char.ofNat 47, Char.ofNat 108, Char.ofNat 97, Char.ofNat 119, Char.ofNat 115, Char.ofNat 46, Char.ofNat 70, Char.ofNat 110, Char.ofNat 66, Char.ofNat 101, Char.ofNat 115, Char.ofNat 105, Char.ofNat 100, Char.ofNat 101], [Char.ofNat 108, Char.ofNat 111, Char.ofNat 111, Char.ofNat 112, Char.ofNat 46, Char.ofNat 101, Char.ofNat 120, Char.ofNat 97, Char.ofNat 109, Char.ofNat 112, Char.ofNat 108, Char.ofNat 101, Char.ofNat 47, Char.ofNat 103, Char.ofNat 48, Char.ofNat 48, Char.ofNat 55, Char.ofNat 53, Char.ofNat 56, Char.ofNat 47, Char.ofNat 108, Char.ofNat 97, Char.ofNat 119, Char.ofNat 115, Char.ofNat 46, Char.ofNat 70, Char.ofNat 110, Char.ofNat 82, Char.ofNat 101, Char.ofNat 119, Char.ofNat 114, Char.ofNat 105, Char.ofNat 116, Char.ofNat 101, Char.ofNat 115], [Char.ofNat 108, Char.ofNat 111, Char.ofNat 111, Char.ofNat 112, Char.ofNat 46, Char.ofNat 101, Char.ofNat 120, Char.ofNat 97, Char.ofNat 109, Char.ofNat 112, Char.ofNat 108, Char.ofNat 101, Char.ofNat 47, Char.ofNat 103, Char.ofNat 48, Char.ofNat 48, Char.ofNat 55, Char.ofNat 53, Char.ofNat 56, Char.ofNat 47, Char.ofNat 108, Char.ofNat 97, Char.ofNat 119, Char.ofNat 115, Char.ofNat 46, Char.ofNat 70, Char.ofNat 110, Char.ofNat 70, Char.ofNat 105, Char.ofNat 110, Char.ofNat 105, Char.ofNat 116, Char.ofNat 101], [Char.ofNat 108, Char.ofNat 111, Char.ofNat 111, Char.ofNat 112, Char.ofNat 46, Char.ofNat 101, Char.ofNat 120, Char.ofNat 97, Char.ofNat 109, Char.ofNat 112, Char.ofNat 108, Char.ofNat 101, Char.ofNat 47, Char.ofNat 103, Char.ofNat 48, Char.ofNat 48, Char.ofNat 55, Char.ofNat 53, Char.ofNat 56, Char.ofNat 47, Char.ofNat 108, Char.ofNat 97, Char.ofNat 119, Char.ofNat 115, Char.ofNat 46, Char.ofNat 70, Char.ofNat 110, Char.ofNat 85, Char.ofNat 115, Char.ofNat 101, Char.ofNat 102, Char.ofNat 117, Char.ofNat 108], [Char.ofNat 108, Char.ofNat 111, Char.ofNat 111, Char.ofNat 112, Char.ofNat 46, Char.ofNat 101, Char.ofNat 120, Char.ofNat 97, Char.ofNat 109, Char.ofNat 112, Char.ofNat 108, Char.ofNat 101, Char.ofNat 47, Char.ofNat 103, Char.ofNat 48, Char.ofNat 48, Char.ofNat 55, Char.ofNat 53, Char.ofNat 56, Char.ofNat 47, Char.ofNat 108, Char.ofNat 97, Char.ofNat 119, Char.ofNat 115, Char.ofNat 46, Char.ofNat 70, Char.ofNat 110, Char.ofNat 85, Char.ofNat 110, Char.ofNat 108, Char.ofNat 105, Char.ofNat 107, Char.ofNat 101], [Char.ofNat 108, Char.ofNat 111, Char.ofNat 111, Char.ofNat 112, Char.ofNat 46, Char.ofNat 101, Char.ofNat 120, Char.ofNat 97, Char.ofNat 109, Char.ofNat 112, Char.ofNat 108, Char.ofNat 101, Char.ofNat 47, Char.ofNat 103, Char.ofNat 48, Char.ofNat 48, Char.ofNat 55, Char.ofNat 53, Char.ofNat 56, Char.ofNat 47, Char.ofNat 108, Char.ofNat 97, Char.ofNat 119, Char.ofNat 115, Char.ofNat 46, Char.ofNat 70, Char.ofNat 110, Char.ofNat 67, Char.ofNat 101, Char.ofNat 108, Char.ofNat 108, Char.ofNat 115], [Char.ofNat 108, Char.ofNat 111, Char.ofNat 111, Char.ofNat 112, Char.ofNat 46, Char.ofNat 101, Char.ofNat 120, Char.ofNat 97, Char.ofNat 109, Char.ofNat 112, Char.ofNat 108, Char.ofNat 101, Char.ofNat 47, Char.ofNat 103, Char.ofNat 48, Char.ofNat 48, Char.ofNat 55, Char.ofNat 53, Char.ofNat 56, Char.ofNat 47, Char.ofNat 108, Char.ofNat 97, Char.ofNat 119, Char.ofNat 115, Char.ofNat 46, Char.ofNat 70, Char.ofNat 110, Char.ofNat 77, Char.ofNat 101, Char.ofNat 110, Char.ofNat 100], [Char.ofNat 108, Char.ofNat 111, Char.ofNat 111, Char.ofNat 112, Char.ofNat 46, Char.ofNat 101, Char.ofNat 120, Char.ofNat 97, Char.ofNat 109, Char.ofNat 112, Char.ofNat 108, Char.ofNat 101, Char.ofNat 47, Char.ofNat 103, Char.ofNat 48, Char.ofNat 48, Char.ofNat 55, Char.ofNat 53, Char.ofNat 56, Char.ofNat 47, Char.ofNat 108, Char.ofNat 97, Char.ofNat 119, Char.ofNat 115, Char.ofNat 46, Char.ofNat 70, Char.ofNat 110, Char.ofNat 80, Char.ofNat 117, Char.ofNat 109, Char.ofNat 112], [Char.ofNat 108, Char.ofNat 111, Char.ofNat 111, Char.ofNat 112, Char.ofNat 46, Char.ofNat 101, Char.ofNat 120, Char.ofNat 97, Char.ofNat 109, Char.ofNat 112, Char.ofNat 108, Char.ofNat 101, Char.ofNat 47, Char.ofNat 103, Char.ofNat 48, Char.ofNat 48, Char.ofNat 55, Char.ofNat 53, Char.ofNat 56, Char.ofNat 47, Char.ofNat 108, Char.ofNat 97, Char.ofNat 119, Char.ofNat 115, Char.ofNat 46, Char.ofNat 70, Char.ofNat 110, Char.ofNat 76, Char.ofNat 111, Char.ofNat 110, Char.ofNat 103, Char.ofNat 69, Char.ofNat 110, Char.ofNat 111, Char.ofNat 117, Char.ofNat 103, Char.ofNat 104], [Char.ofNat 108, Char.ofNat 111, Char.ofNat 111, Char.ofNat 112, Char.ofNat 46, Char.ofNat 101, Char.ofNat 120, Char.ofNat 97, Char.ofNat 109, Char.ofNat 112, Char.ofNat 108, Char.ofNat 101, Char.ofNat 47, Char.ofNat 103, Char.ofNat 48, Char.ofNat 48, Char.ofNat 55, Char.ofNat 53, Char.ofNat 56, Char.ofNat 47, Char.ofNat 108, Char.ofNat 97, Char.ofNat 119, Char.ofNat 115, Char.ofNat 46, Char.ofNat 70, Char.ofNat 110, Char.ofNat 84, Char.ofNat 117, Char.ofNat 114, Char.ofNat 110, Char.ofNat 101, Char.ofNat 100]]
theorem io4 : behindMainWord (wordsSigns signs) = behind := by kernel_rfl
theorem io3 : behindMainWord (wordsSigns Try.prog.initOrder.toList) = behind := by rw [io2, io4]
theorem may : Try.prog.mayEnter = true := may_of (l := []) io3 (by rfl) (by kernel_rfl) (by kernel_rfl) (by kernel_rfl) (by kernel_rfl) rfl (by kernel_rfl)
theorem fin : Try.prog.liftsFinal = false := lifts_of io3 (by kernel_rfl) (by kernel_rfl)
theorem mk : Try.prog.make = some .cut := make_of io3 (by rfl) (by kernel_rfl) (by kernel_rfl)
theorem own : ownKnob Try.prog.godebug = none := by kernel_rfl
theorem laidOut : laidOutB Try.prog = true := by kernel_rfl
theorem rowed : mapsRowed Try.prog = true := by kernel_rfl
def zkk_ (P : Program) (f : FuncId) (fn : Func) (s : ChangeSpec) (c : OpenClaim) : Bool :=
  c.wf (OpenSpec.ofChange s) && fn.params.all (P.readableRec ·) && namedTie P c.named s.vars && (c.stops == []) && (P.stops == []) && (c.knobs == []) && (P.stopKnobs == []) && (c.inPlace == P.inPlace f) && (c.unfollowed == P.unfollowed f) && (c.recurses == P.recurses f) && (c.named == P.varsNamed f) && (c.maps == (fn.params.toList ++ s.plain.varTypes P).any (P.mapsRec ·)) && (c.ifaces == (fn.params.toList ++ s.plain.varTypes P).any (P.ifacesRec ·)) && (c.mapsOut == P.mapsAmong fn.resultTypes.toList) && (c.loops == (fn.params.toList ++ s.plain.varTypes P).any (P.loopsFrom ·)) && (c.wideKeys == (fn.params.toList ++ s.plain.varTypes P ++ fn.resultTypes.toList).any (P.wideKeysFrom ·)) && s.vars.all (P.varReadable ·) && fn.resultTypes.all (fun t => P.readableRec t && decide (t < P.types.size)) && (c.ifacesOut == fn.resultTypes.toList.any (P.ifacesRec ·)) && (c.loopsOut == fn.resultTypes.toList.any (P.loopsFrom ·)) && (c.plainKeys == P.plainKeys) && c.shortTexts.isNone && P.stopsHeard && (c.kinds == (if c.domain.isEmpty then [] else fn.params.toList.map fun t => match P.underlying t with | some (.int k) => some k | _ => none)) && (c.pinned == c.pinnedBy) && (c.veiled == (fn.params.toList ++ s.plain.varTypes P ++ fn.resultTypes.toList).any (P.veiledRec ·)) && c.veiledFits P fn.params.toList (fn.params.toList ++ s.plain.varTypes P ++ fn.resultTypes.toList)
theorem facts_of {f : FuncId} {fn : Func} {s : ChangeSpec} {c : OpenClaim} (hl : c.lifted = false) (hm : c.make = .cut) (h : zkk_ Try.prog f fn s c = true) : joinedFacts Try.prog f fn s c = true := by
  unfold zkk_ at h
  unfold joinedFacts
  simp only [Bool.and_eq_true] at h ⊢
  obtain ⟨⟨⟨⟨⟨⟨⟨⟨⟨⟨⟨⟨⟨⟨⟨⟨⟨⟨⟨⟨⟨⟨⟨⟨⟨⟨k0, k3⟩, k4⟩, k5⟩, k6⟩, k7⟩, k8⟩, k9⟩, k10⟩, k11⟩, k12⟩, k13⟩, k14⟩, k15⟩, k16⟩, k17⟩, k18⟩, k19⟩, k20⟩, k21⟩, k22⟩, k23⟩, k24⟩, k28⟩, k29⟩, k30⟩, k31⟩ := h
  exact ⟨⟨⟨⟨⟨⟨⟨⟨⟨⟨⟨⟨⟨⟨⟨⟨⟨⟨⟨⟨⟨⟨⟨⟨⟨⟨⟨⟨⟨⟨⟨k0, laidOut⟩, rowed⟩, k3⟩, k4⟩, k5⟩, k6⟩, k7⟩, k8⟩, k9⟩, k10⟩, k11⟩, k12⟩, k13⟩, k14⟩, k15⟩, k16⟩, k17⟩, k18⟩, k19⟩, k20⟩, k21⟩, k22⟩, k23⟩, k24⟩, may⟩, (by rw [hl, fin]; rfl)⟩, (by rw [hm, mk]; rfl)⟩, k28⟩, k29⟩, k30⟩, k31⟩
end Go.Proofs.Ytegcjkhebecgbaa
