/- Texts of this repository put together: Sh75, Sh76, ShX3, Bk, ShX5, ShX4, ShX6, ShX7, ShXA, Cd, ShF8, ShF9, ShFA, ShFB, ShFC, ShFD, Sh1x, Cg, ShFE, ShFF, De, Sh77, Db, Sh78, ShU3, Sh79, ShFG, ShFH, ShI4, Bd, ShJ1, ShB3, ShB4, ShI5, Sh7A, Sh1z, Sh1y, Dd, Sh7B. -/
import Derived.Test.YtegcjkhebecgbaaKTurnedd
import Derived.Test.YtegcjkhebecgbaaKTurnedc
import Derived.Test.YtegcjkhebecgbaaKTurnedb
import Derived.WideKeyArr
import Derived.WideMake
import Derived.Test.YtegcjkhebecgbaaProg
import Derived.Test.YtegcjkhebecgbaaKTurneda
import Derived.ArgAppend

set_option linter.unusedVariables false
set_option linter.unusedSimpArgs false
set_option maxRecDepth 100000
namespace Go.Sh
open Go
def renS (to : List Int) (x : Int) : Int := if x ≥ 0 then to.getD x.toNat 0 else x
def renR (to : List Int) (r : RuleL) : RuleL := (to.getD r.1.toNat 0, r.2.map (renS to))
def srt (to : List Int) : List Int := to.mergeSort fun x y => decide (x ≤ y)
def allAt (xs : List Int) : Prop := ∀ j, j < xs.length → xs.getD j 0 = (j : Int)
instance (xs : List Int) : Decidable (allAt xs) := inferInstanceAs (Decidable (∀ j, j < xs.length → xs.getD j 0 = (j : Int)))
def zgc_ (gm : Gram) (to : List Int) : Bool := decide ((to.length : Int) = gm.nons) && (decide (to.getD 0 0 = 0) && decide (allAt (srt to)))
def renV (gm : Gram) (to : List Int) : Gram × Bool := if zv_ gm && zgc_ gm to then (⟨gm.nons, gm.toks, gm.rules.map (renR to)⟩, true) else (⟨0, 0, []⟩, false)
theorem zhh_ (to : List Int) : (srt to).Perm to := List.mergeSort_perm ..
theorem srt_len (to : List Int) : (srt to).length = to.length := (zhh_ to).length_eq
theorem gD {xs : List Int} {j : Nat} (h : j < xs.length) : xs.getD j 0 = xs[j] := by simp [List.getD_eq_getElem?_getD, h]
theorem srt_le (to : List Int) {i j : Nat} (hij : i < j) (hj : j < to.length) : (srt to).getD i 0 ≤ (srt to).getD j 0 := by
  have h := List.pairwise_mergeSort (le := fun x y : Int => decide (x ≤ y)) (fun a b c h1 h2 => by simp at h1 h2 ⊢; omega) (fun a b => by simp; omega) to
  have hl := srt_len to
  rw [gD (by omega), gD (by omega)]
  have := List.pairwise_iff_getElem.1 h i j (by show i < (srt to).length; omega) (by show j < (srt to).length; omega) hij
  exact of_decide_eq_true this
theorem nodup_at {xs : List Int} : xs.Nodup ↔ ∀ i j, i < j → j < xs.length → xs.getD i 0 ≠ xs.getD j 0 := by
  unfold List.Nodup
  rw [List.pairwise_iff_getElem]
  constructor
  · intro h i j hij hj
    rw [gD (by omega), gD hj]
    exact h i j (by omega) hj hij
  · intro h i j hi hj hij
    have := h i j hij hj
    rwa [gD hi, gD hj] at this
theorem new_iff {xs : List Int} : (∀ k, k < xs.length → xs.getD k 0 ∉ xs.take k) ↔ xs.Nodup := by
  rw [nodup_at]
  constructor
  · intro h i j hij hj e
    refine h j hj ?_
    rw [← e, gD (by omega)]
    exact List.mem_take_iff_getElem.2 ⟨i, by omega, rfl⟩
  · intro h k hk hm
    obtain ⟨i, hi, e⟩ := List.mem_take_iff_getElem.1 hm
    refine h i k (by omega) hk ?_
    rw [gD (by omega), e]
theorem allAt_iff {to : List Int} : allAt (srt to) ↔ allB to 0 ((to.length : Int) - 1) = true ∧ ∀ k, k < to.length → to.getD k 0 ∉ to.take k := by
  have hl := srt_len to
  rw [new_iff]
  simp only [allB, inB, List.all_eq_true, Bool.and_eq_true, decide_eq_true_eq]
  constructor
  · intro h
    refine ⟨fun x hx => ?_, ?_⟩
    · obtain ⟨j, hj, e⟩ := List.getElem_of_mem ((zhh_ to).mem_iff.2 hx)
      have := h j hj
      rw [gD hj, e] at this
      omega
    · rw [← (zhh_ to).nodup_iff, nodup_at]
      intro i j hij hj
      rw [h i (by omega), h j hj]
      omega
  · rintro ⟨h1, h2⟩
    have hb : ∀ j, j < to.length → 0 ≤ (srt to).getD j 0 ∧ (srt to).getD j 0 ≤ (to.length : Int) - 1 := fun j hj => by
      rw [gD (by omega)]
      exact h1 _ ((zhh_ to).mem_iff.1 (List.getElem_mem _))
    have hn := nodup_at.1 ((zhh_ to).nodup_iff.2 h2)
    have hlt : ∀ i j, i < j → j < to.length → (srt to).getD i 0 < (srt to).getD j 0 := fun i j hij hj => by
      have a := srt_le to hij hj
      have b := hn i j hij (by omega)
      omega
    have hd : ∀ i d, i + d < to.length → (srt to).getD i 0 + (d : Int) ≤ (srt to).getD (i + d) 0 := by
      intro i d
      induction d with
      | zero => intro _; simp
      | succ d ih =>
        intro h
        have a := ih (by omega)
        have b := hlt (i + d) (i + (d + 1)) (by omega) h
        omega
    intro j hj
    rw [hl] at hj
    have a := hd 0 j (by omega)
    have b := hd j (to.length - 1 - j) (by omega)
    have c := hb 0 (by omega)
    have d := hb (j + (to.length - 1 - j)) (by omega)
    rw [Nat.zero_add] at a
    omega
theorem zig_ {gm : Gram} {to : List Int} (h : zgc_ gm to = true) : (to.length : Int) = gm.nons ∧ to.getD 0 0 = 0 ∧ to.Nodup ∧ ∀ j, j < to.length → 0 ≤ to.getD j 0 ∧ to.getD j 0 < gm.nons := by
  simp only [zgc_, Bool.and_eq_true, decide_eq_true_eq] at h
  obtain ⟨h1, h2, h3⟩ := h
  obtain ⟨h4, h5⟩ := allAt_iff.1 h3
  refine ⟨h1, h2, new_iff.1 h5, fun j hj => ?_⟩
  simp only [allB, inB, List.all_eq_true, Bool.and_eq_true, decide_eq_true_eq] at h4
  rw [gD hj]
  have := h4 _ (List.getElem_mem hj)
  omega
theorem ipart {xs ys : List Int} {k : Nat} (hl : xs.length = ys.length) (h : k < ys.length) : (xs.take k ++ ys.drop k).getD k 0 = ys.getD k 0 := by
  have : (xs.take k).length = k := by simp; omega
  rw [List.getD_eq_getElem?_getD, List.getElem?_append_right (by omega), this, Nat.sub_self, List.getElem?_drop, Nat.add_zero, ← List.getD_eq_getElem?_getD]
theorem iset {xs ys : List Int} {k : Nat} (hl : xs.length = ys.length) (h : k < ys.length) : (xs.take k ++ ys.drop k).set k (xs.getD k 0) = xs.take (k + 1) ++ ys.drop (k + 1) := by
  have : (xs.take k).length = k := by simp; omega
  rw [List.set_append, if_neg (by omega), this, Nat.sub_self, List.take_succ_eq_append_getElem (show k < xs.length by omega), List.drop_eq_getElem_cons h, List.set_cons_zero, gD (show k < xs.length by omega)]
  exact (List.append_assoc (List.take k xs) [xs[k]'(by omega)] _).symm
theorem ikeep {xs ys : List Int} {k : Nat} (hl : xs.length = ys.length) (h : k < ys.length) (e : ys.getD k 0 = xs.getD k 0) : xs.take k ++ ys.drop k = xs.take (k + 1) ++ ys.drop (k + 1) := by
  rw [gD h, gD (show k < xs.length by omega)] at e
  rw [List.take_succ_eq_append_getElem (show k < xs.length by omega), List.drop_eq_getElem_cons h, e]
  exact (List.append_assoc (List.take k xs) [xs[k]'(by omega)] _).symm
theorem zag_ {xs ys : List Int} {k : Nat} (hl : xs.length = ys.length) : (xs.take k ++ ys.drop k).length = ys.length := by
  simp only [List.length_append, List.length_take, List.length_drop]
  omega
end Go.Sh
namespace Go.Proofs.Ytegcjkhebecgbaa
open Go Go.Sh Go.RowKit
theorem zvk_ {w : World} {Y V : Option Addr} {c cv : Nat} {gm : Gram} {to : List Int} (hG : kG Y c gm.rules w) (hV : Ints w V to) (hto : to.length ≤ 1000) {k : Value → World → Prop}
    (hk : ∀ w' Z d, Gr w w' → kG Z d (renV gm to).1.rules w' → k (.tuple #[grv (renV gm to).1 Z d, .bool (renV gm to).2]) w') :
    CallK Try.prog 133 [grv gm Y c, .slice V to.length cv] k w := by
  refine enter133 ?_
  unfold S133
  refine zwb_ fun b1 w1 g1 hb1 h1 => ?_
  refine zmb_ zdc_ fun b3 w2 g2 hb3 h3 => ?_
  have h1 := h1.gr g2
  have q3 := Nat.le_trans g1.size hb3
  have g := zd_ g1 g2
  refine bs27 [] (by decide) (by simp [Instr.fill, madeCells]) rfl fun b5 w3 hb5 hb5' g5 hbox5 hrow5 => ?_
  refine apI (xs := []) (B := w2.heap.size) (hrow5 _ (Nat.le_refl _)) (hV.gr (zd_ g g5)) rfl rfl (by simp; omega) g5.size fun U u w4 o4 g4 => ?_
  rw [List.nil_append] at o4 ⊢
  have gd4 : Gr w2 w4 := zpb_ g5 g4 hb5
  refine sortI_c o4 rfl hto fun w5 gs o5 => ?_
  have gd5 : Gr w2 w5 := zaf_ gd4 gs fun q hq => (Row.ge o4 hq).1
  have o5 : Own 3 w5 w2.heap.size U u (srt to) := o5
  have hs : Ints w5 U (srt to) := o5.ints
  have hsl := srt_len to
  have g := zd_ g gd5
  have h1 := h1.gr gd5
  have h3 := h3.gr gd5
  rw [zj_ zu_ sz26 rfl h1]
  refine zae_ (gm := gm) (gvK ⟨hG.1, hG.2.gr g⟩) fun w6 g6 => ?_
  have g := zd_ g g6
  have h1 := h1.gr g6
  have h3 := h3.gr g6
  have hs := hs.gr g6
  have hbad : ∀ w', Gr w w' → (zv_ gm && zgc_ gm to) = false → k (.tuple #[.agg #[.int .i64 0, .int .i64 0, .slice none 0 0], .bool false]) w' := fun w' g hf => by
    have := hk w' none 0 g
    simp only [renV, hf] at this
    exact this kG_nil
  cases hg : zv_ gm
  · simp only [Bool.not_false, zq18, zq19, zq20, zq21, zq22, zq23, zq24, zq25, zq26, zq27, zq28, zq4, zq3, zq1, zq2, zq0, zq29, zq30, zq14, zq15, zq16, zq17, zq13, zq10, zq12, zq11, zq7, zq5, zq6, zq9, zq8, zq31, zq32, ite_T, ite_F, zq33, zq34, zq35, Nat.reduceEqDiff, len22, len24, fa26_0, fa26_1, fa26_2, len27, fa33_0, fa33_1, len35, fa114_0, fa114_1, fa114_2, fa124_0, fa124_1, len134]
    rw [bd26 (cells := #[.int .i64 0, .int .i64 0, .slice none 0 0]) rfl]
    refine zfb_ sz26 rfl (by intro u hu; simp [Value.cells] at hu; rcases hu with rfl | rfl | rfl <;> rfl) h3 (by simp [Value.cells]) fun w5 g5 s5 h5 => ?_
    rw [zcb_, zj_ zu_ sz26 rfl h5]
    exact hbad _ (zpb_ g g5 q3) (by rw [hg]; rfl)
  simp only [Bool.not_true, zq18, zq19, zq20, zq21, zq22, zq23, zq24, zq25, zq26, zq27, zq28, zq4, zq3, zq1, zq2, zq0, zq29, zq30, zq14, zq15, zq16, zq17, zq13, zq10, zq12, zq11, zq7, zq5, zq6, zq9, zq8, zq31, zq32, ite_T, ite_F, zq33, zq34, zq35, Nat.reduceEqDiff, len22, len24, fa26_0, fa26_1, fa26_2, len27, fa33_0, fa33_1, len35, fa114_0, fa114_1, fa114_2, fa124_0, fa124_1, len134]
  rw [ldB3 h1 rfl]
  simp only [zq18, zq19, zq20, zq21, zq22, zq23, zq24, zq25, zq26, zq27, zq28, zq4, zq3, zq1, zq2, zq0, zq29, zq30, zq14, zq15, zq16, zq17, zq13, zq10, zq12, zq11, zq7, zq5, zq6, zq9, zq8, zq31, zq32, ite_T, ite_F, zq33, zq34, zq35, Nat.reduceEqDiff, len22, len24, fa26_0, fa26_1, fa26_2, len27, fa33_0, fa33_1, len35, fa114_0, fa114_1, fa114_2, fa124_0, fa124_1, len134]
  have hn6 := zed_ hg
  by_cases hl : (to.length : Int) = gm.nons
  case neg =>
    rw [decide_eq_false hl]
    simp only [Bool.not_false, zq18, zq19, zq20, zq21, zq22, zq23, zq24, zq25, zq26, zq27, zq28, zq4, zq3, zq1, zq2, zq0, zq29, zq30, zq14, zq15, zq16, zq17, zq13, zq10, zq12, zq11, zq7, zq5, zq6, zq9, zq8, zq31, zq32, ite_T, ite_F, zq33, zq34, zq35, Nat.reduceEqDiff, len22, len24, fa26_0, fa26_1, fa26_2, len27, fa33_0, fa33_1, len35, fa114_0, fa114_1, fa114_2, fa124_0, fa124_1, len134]
    rw [bd26 (cells := #[.int .i64 0, .int .i64 0, .slice none 0 0]) rfl]
    refine zfb_ sz26 rfl (by intro u hu; simp [Value.cells] at hu; rcases hu with rfl | rfl | rfl <;> rfl) h3 (by simp [Value.cells]) fun w5 g5 s5 h5 => ?_
    rw [zcb_, zj_ zu_ sz26 rfl h5]
    exact hbad _ (zpb_ g g5 q3) (by rw [show zgc_ gm to = false from by unfold zgc_; rw [decide_eq_false hl, Bool.false_and]]; exact Bool.and_false _)
  rw [decide_eq_true hl]
  simp only [Bool.not_true, zq18, zq19, zq20, zq21, zq22, zq23, zq24, zq25, zq26, zq27, zq28, zq4, zq3, zq1, zq2, zq0, zq29, zq30, zq14, zq15, zq16, zq17, zq13, zq10, zq12, zq11, zq7, zq5, zq6, zq9, zq8, zq31, zq32, ite_T, ite_F, zq33, zq34, zq35, Nat.reduceEqDiff, len22, len24, fa26_0, fa26_1, fa26_2, len27, fa33_0, fa33_1, len35, fa114_0, fa114_1, fa114_2, fa124_0, fa124_1, len134]
  have hp := hV.ptr
  refine rdi (zcc_ (i := 0) hp (by omega)) ?_
  simp only [zq18, zq19, zq20, zq21, zq22, zq23, zq24, zq25, zq26, zq27, zq28, zq4, zq3, zq1, zq2, zq0, zq29, zq30, zq14, zq15, zq16, zq17, zq13, zq10, zq12, zq11, zq7, zq5, zq6, zq9, zq8, zq31, zq32, ite_T, ite_F, zq33, zq34, zq35, Nat.reduceEqDiff, len22, len24, fa26_0, fa26_1, fa26_2, len27, fa33_0, fa33_1, len35, fa114_0, fa114_1, fa114_2, fa124_0, fa124_1, len134]
  refine rdi (ld3 ((hV.gr g).cell 0 (by omega))) ?_
  simp only [zq18, zq19, zq20, zq21, zq22, zq23, zq24, zq25, zq26, zq27, zq28, zq4, zq3, zq1, zq2, zq0, zq29, zq30, zq14, zq15, zq16, zq17, zq13, zq10, zq12, zq11, zq7, zq5, zq6, zq9, zq8, zq31, zq32, ite_T, ite_F, zq33, zq34, zq35, Nat.reduceEqDiff, len22, len24, fa26_0, fa26_1, fa26_2, len27, fa33_0, fa33_1, len35, fa114_0, fa114_1, fa114_2, fa124_0, fa124_1, len134]
  by_cases h0 : to.getD 0 0 = 0
  case neg =>
    simp only [h0, decide_false, Bool.not_false, zq18, zq19, zq20, zq21, zq22, zq23, zq24, zq25, zq26, zq27, zq28, zq4, zq3, zq1, zq2, zq0, zq29, zq30, zq14, zq15, zq16, zq17, zq13, zq10, zq12, zq11, zq7, zq5, zq6, zq9, zq8, zq31, zq32, ite_T, ite_F, zq33, zq34, zq35, Nat.reduceEqDiff, len22, len24, fa26_0, fa26_1, fa26_2, len27, fa33_0, fa33_1, len35, fa114_0, fa114_1, fa114_2, fa124_0, fa124_1, len134]
    rw [bd26 (cells := #[.int .i64 0, .int .i64 0, .slice none 0 0]) rfl]
    refine zfb_ sz26 rfl (by intro u hu; simp [Value.cells] at hu; rcases hu with rfl | rfl | rfl <;> rfl) h3 (by simp [Value.cells]) fun w5 g5 s5 h5 => ?_
    rw [zcb_, zj_ zu_ sz26 rfl h5]
    exact hbad _ (zpb_ g g5 q3) (by rw [show zgc_ gm to = false from by unfold zgc_; rw [decide_eq_false h0, Bool.false_and, Bool.and_false]]; exact Bool.and_false _)
  simp only [h0, decide_true, Bool.not_true, zq18, zq19, zq20, zq21, zq22, zq23, zq24, zq25, zq26, zq27, zq28, zq4, zq3, zq1, zq2, zq0, zq29, zq30, zq14, zq15, zq16, zq17, zq13, zq10, zq12, zq11, zq7, zq5, zq6, zq9, zq8, zq31, zq32, ite_T, ite_F, zq33, zq34, zq35, Nat.reduceEqDiff, len22, len24, fa26_0, fa26_1, fa26_2, len27, fa33_0, fa33_1, len35, fa114_0, fa114_1, fa114_2, fa124_0, fa124_1, len134]
  have hpm : zgc_ gm to = decide (allAt (srt to)) := by unfold zgc_; rw [decide_eq_true hl, decide_eq_true h0, Bool.true_and, Bool.true_and]
  refine ztb_ to.length 0 (fun i f w' => i ≤ to.length ∧ f 38 = .int .i64 i ∧ Gr w6 w' ∧ ∀ j, j < i → (srt to).getD j 0 = (j : Int)) ⟨Nat.zero_le _, rfl, Gr.refl _, fun j hj => by omega⟩ ?_
  rintro i f w7 N hag ⟨hi, h38, g7, hat⟩ hN
  have f1 : f 1 = .slice V to.length cv := hag 1 (by decide)
  have f2 : f 2 = .pointer (some ⟨b1, 0, none⟩) := hag 2 (by decide)
  have f4 : f 4 = .pointer (some ⟨b3, 0, none⟩) := hag 4 (by decide)
  have f36 : f 36 = .slice U to.length u := hag 36 (by decide)
  have f37 : f 37 = .int .i64 to.length := hag 37 (by decide)
  simp only [f1, f2, f4, f36, f37, h38, zq18, zq19, zq20, zq21, zq22, zq23, zq24, zq25, zq26, zq27, zq28, zq4, zq3, zq1, zq2, zq0, zq29, zq30, zq14, zq15, zq16, zq17, zq13, zq10, zq12, zq11, zq7, zq5, zq6, zq9, zq8, zq31, zq32, ite_T, ite_F, zq33, zq34, zq35, Nat.reduceEqDiff, len22, len24, fa26_0, fa26_1, fa26_2, len27, fa33_0, fa33_1, len35, fa114_0, fa114_1, fa114_2, fa124_0, fa124_1, len134]
  have g := zd_ g g7
  have h1 := h1.gr g7
  have h3 := h3.gr g7
  by_cases hlt : i < to.length
  case pos =>
    simp only [show (i : Int) < to.length from by omega, decide_true, zq18, zq19, zq20, zq21, zq22, zq23, zq24, zq25, zq26, zq27, zq28, zq4, zq3, zq1, zq2, zq0, zq29, zq30, zq14, zq15, zq16, zq17, zq13, zq10, zq12, zq11, zq7, zq5, zq6, zq9, zq8, zq31, zq32, ite_T, ite_F, zq33, zq34, zq35, Nat.reduceEqDiff, len22, len24, fa26_0, fa26_1, fa26_2, len27, fa33_0, fa33_1, len35, fa114_0, fa114_1, fa114_2, fa124_0, fa124_1, len134]
    refine rdi (zcc_ (fun h => hs.ptr (by omega)) hlt) ?_
    refine rdi (ld3 ((hs.gr g7).cell i (by omega))) ?_
    simp only [zq18, zq19, zq20, zq21, zq22, zq23, zq24, zq25, zq26, zq27, zq28, zq4, zq3, zq1, zq2, zq0, zq29, zq30, zq14, zq15, zq16, zq17, zq13, zq10, zq12, zq11, zq7, zq5, zq6, zq9, zq8, zq31, zq32, ite_T, ite_F, zq33, zq34, zq35, Nat.reduceEqDiff, len22, len24, fa26_0, fa26_1, fa26_2, len27, fa33_0, fa33_1, len35, fa114_0, fa114_1, fa114_2, fa124_0, fa124_1, len134]
    by_cases he : (i : Int) = (srt to).getD i 0
    · rw [decide_eq_true he]
      simp only [Bool.not_true, zq18, zq19, zq20, zq21, zq22, zq23, zq24, zq25, zq26, zq27, zq28, zq4, zq3, zq1, zq2, zq0, zq29, zq30, zq14, zq15, zq16, zq17, zq13, zq10, zq12, zq11, zq7, zq5, zq6, zq9, zq8, zq31, zq32, ite_T, ite_F, zq33, zq34, zq35, Nat.reduceEqDiff, len22, len24, fa26_0, fa26_1, fa26_2, len27, fa33_0, fa33_1, len35, fa114_0, fa114_1, fa114_2, fa124_0, fa124_1, len134]
      rw [zt_ (by omega) (by omega)]
      refine hN _ _ hlt ⟨hlt, rfl, g7, fun j hj => ?_⟩
      by_cases hji : j = i
      · rw [hji, he]
      · exact hat j (by omega)
    · rw [decide_eq_false he]
      simp only [Bool.not_false, zq18, zq19, zq20, zq21, zq22, zq23, zq24, zq25, zq26, zq27, zq28, zq4, zq3, zq1, zq2, zq0, zq29, zq30, zq14, zq15, zq16, zq17, zq13, zq10, zq12, zq11, zq7, zq5, zq6, zq9, zq8, zq31, zq32, ite_T, ite_F, zq33, zq34, zq35, Nat.reduceEqDiff, len22, len24, fa26_0, fa26_1, fa26_2, len27, fa33_0, fa33_1, len35, fa114_0, fa114_1, fa114_2, fa124_0, fa124_1, len134]
      rw [bd26 (cells := #[.int .i64 0, .int .i64 0, .slice none 0 0]) rfl]
      refine zfb_ sz26 rfl (by intro u hu; simp [Value.cells] at hu; rcases hu with rfl | rfl | rfl <;> rfl) h3 (by simp [Value.cells]) fun w5 g5 s5 h5 => ?_
      simp only [resK_cell, f4, zq18, zq19, zq20, zq21, zq22, zq23, zq24, zq25, zq26, zq27, zq28, zq4, zq3, zq1, zq2, zq0, zq29, zq30, zq14, zq15, zq16, zq17, zq13, zq10, zq12, zq11, zq7, zq5, zq6, zq9, zq8, zq31, zq32, ite_T, ite_F, zq33, zq34, zq35, Nat.reduceEqDiff, len22, len24, fa26_0, fa26_1, fa26_2, len27, fa33_0, fa33_1, len35, fa114_0, fa114_1, fa114_2, fa124_0, fa124_1, len134]
      rw [zcb_, zj_ zu_ sz26 rfl h5]
      exact hbad _ (zpb_ g g5 q3) (by
        rw [hpm, decide_eq_false (fun h => he (h i (by omega)).symm)]
        simp)
  simp only [show ¬ (i : Int) < to.length from by omega, decide_false, zq18, zq19, zq20, zq21, zq22, zq23, zq24, zq25, zq26, zq27, zq28, zq4, zq3, zq1, zq2, zq0, zq29, zq30, zq14, zq15, zq16, zq17, zq13, zq10, zq12, zq11, zq7, zq5, zq6, zq9, zq8, zq31, zq32, ite_T, ite_F, zq33, zq34, zq35, Nat.reduceEqDiff, len22, len24, fa26_0, fa26_1, fa26_2, len27, fa33_0, fa33_1, len35, fa114_0, fa114_1, fa114_2, fa124_0, fa124_1, len134]
  obtain rfl : i = to.length := by omega
  have hok : zgc_ gm to = true := by rw [hpm]; exact decide_eq_true fun j hj => hat j (by omega)
  obtain ⟨_, _, _, hbd⟩ := zig_ hok
  clear hN hat h38 f2 f36 f37 hbad hs o5 o4
  rw [zj_ zu_ sz26 rfl h1]
  have hlen := zyc_ hg
  have hr4 := zid_ hg
  refine zvg_ (gm := gm) (gvK ⟨hG.1, hG.2.gr g⟩) hg fun v w8 g8 hv8 => ?_
  obtain ⟨X, cx, ps, rfl, o8⟩ := hv8
  have h3 := h3.gr g8
  refine zmb_ zdc_ fun b9 w9 g9 hb9 h9 => ?_
  have n39 := h3.ne hb9
  have q9 := Nat.le_trans (zd_ g g8).size hb9
  refine zfb_ sz26 rfl (by intro u hu; simp [Value.cells] at hu; rcases hu with rfl | rfl | rfl <;> rfl) h9 (by simp [Value.cells]) fun w10 g10 s10 h10 => ?_
  have h3 := (h3.gr g9).put g10 n39
  have o10 := ((o8.mono g.size).gr g9).put h9 (by decide) (by decide) g10
  have g := zpb_ (zd_ (zd_ g g8) g9) g10 q9
  simp only [zq18, zq19, zq20, zq21, zq22, zq23, zq24, zq25, zq26, zq27, zq28, zq4, zq3, zq1, zq2, zq0, zq29, zq30, zq14, zq15, zq16, zq17, zq13, zq10, zq12, zq11, zq7, zq5, zq6, zq9, zq8, zq31, zq32, ite_T, ite_F, zq33, zq34, zq35, Nat.reduceEqDiff, len22, len24, fa26_0, fa26_1, fa26_2, len27, fa33_0, fa33_1, len35, fa114_0, fa114_1, fa114_2, fa124_0, fa124_1, len134]
  rw [zyb_ h10 rfl]
  simp only [zq18, zq19, zq20, zq21, zq22, zq23, zq24, zq25, zq26, zq27, zq28, zq4, zq3, zq1, zq2, zq0, zq29, zq30, zq14, zq15, zq16, zq17, zq13, zq10, zq12, zq11, zq7, zq5, zq6, zq9, zq8, zq31, zq32, ite_T, ite_F, zq33, zq34, zq35, Nat.reduceEqDiff, len22, len24, fa26_0, fa26_1, fa26_2, len27, fa33_0, fa33_1, len35, fa114_0, fa114_1, fa114_2, fa124_0, fa124_1, len134]
  have hrl := (List.length_map (renR to) : (gm.rules.map (renR to)).length = gm.rules.length)
  refine ztb_ gm.rules.length 0 (fun i f w' => i ≤ gm.rules.length ∧ f 53 = .int .i64 i ∧ Gr w w' ∧ Box w' b3 [.int .i64 0, .int .i64 0, .slice none 0 0] 26 ∧ Box w' b9 [.int .i64 gm.nons, .int .i64 gm.toks, .slice X gm.rules.length cx] 26 ∧ OwnR 33 3 w' w.heap.size X cx ((gm.rules.map (renR to)).take i ++ gm.rules.drop i) ps) ⟨Nat.zero_le _, rfl, g, h3, by simpa [Value.cells] using h10, by simpa using o10⟩ ?_
  clear o8 o10 h10
  rintro i h w11 N hah ⟨hi, h53, g, h3, h9, o11⟩ hN
  have e1 : h 1 = .slice V to.length cv := (hah 1 (by decide)).trans f1
  have e4 : h 4 = .pointer (some ⟨b3, 0, none⟩) := (hah 4 (by decide)).trans f4
  have e9 : h 9 = .pointer (some ⟨b9, 0, none⟩) := hah 9 (by decide)
  have e52 : h 52 = .int .i64 gm.rules.length := hah 52 (by decide)
  simp only [e1, e4, e9, e52, h53, zq18, zq19, zq20, zq21, zq22, zq23, zq24, zq25, zq26, zq27, zq28, zq4, zq3, zq1, zq2, zq0, zq29, zq30, zq14, zq15, zq16, zq17, zq13, zq10, zq12, zq11, zq7, zq5, zq6, zq9, zq8, zq31, zq32, ite_T, ite_F, zq33, zq34, zq35, Nat.reduceEqDiff, len22, len24, fa26_0, fa26_1, fa26_2, len27, fa33_0, fa33_1, len35, fa114_0, fa114_1, fa114_2, fa124_0, fa124_1, len134]
  have hpl := zjg_ (i := i) hrl
  by_cases hlt : i < gm.rules.length
  case neg =>
    simp only [show ¬ (i : Int) < gm.rules.length from by omega, decide_false, zq18, zq19, zq20, zq21, zq22, zq23, zq24, zq25, zq26, zq27, zq28, zq4, zq3, zq1, zq2, zq0, zq29, zq30, zq14, zq15, zq16, zq17, zq13, zq10, zq12, zq11, zq7, zq5, zq6, zq9, zq8, zq31, zq32, ite_T, ite_F, zq33, zq34, zq35, Nat.reduceEqDiff, len22, len24, fa26_0, fa26_1, fa26_2, len27, fa33_0, fa33_1, len35, fa114_0, fa114_1, fa114_2, fa124_0, fa124_1, len134]
    obtain rfl : i = gm.rules.length := by omega
    rw [List.take_of_length_le (by omega), List.drop_length, List.append_nil] at o11
    rw [zj_ zu_ sz26 rfl h9]
    refine zfb_ sz26 rfl (by intro u hu; simp [Value.cells] at hu; rcases hu with rfl | rfl | rfl <;> rfl) h3 (by simp [Value.cells]) fun w12 g12 s12 h12 => ?_
    rw [zcb_, zj_ zu_ sz26 rfl h12]
    have := hk w12 X cx (zpb_ g g12 q3)
    simp only [renV, hg, hok, Bool.and_self, if_true, grv, hrl] at this
    exact this (ownK (o11.put h3 (by decide) (by decide) g12))
  have hlt' : (i : Int) < gm.rules.length := by omega
  simp only [hlt', decide_true, zq18, zq19, zq20, zq21, zq22, zq23, zq24, zq25, zq26, zq27, zq28, zq4, zq3, zq1, zq2, zq0, zq29, zq30, zq14, zq15, zq16, zq17, zq13, zq10, zq12, zq11, zq7, zq5, zq6, zq9, zq8, zq31, zq32, ite_T, ite_F, zq33, zq34, zq35, Nat.reduceEqDiff, len22, len24, fa26_0, fa26_1, fa26_2, len27, fa33_0, fa33_1, len35, fa114_0, fa114_1, fa114_2, fa124_0, fa124_1, len134]
  have hrp := zuf_ hrl hlt
  obtain ⟨hl0, hl1⟩ := zwe_ hg hlt
  have hri := zah_ hg hlt
  have hlr := hr4 i hlt
  rw [zyb_ h9 rfl, zic_ (fun h => o11.ptr (by omega)) hlt]
  simp only [zq18, zq19, zq20, zq21, zq22, zq23, zq24, zq25, zq26, zq27, zq28, zq4, zq3, zq1, zq2, zq0, zq29, zq30, zq14, zq15, zq16, zq17, zq13, zq10, zq12, zq11, zq7, zq5, zq6, zq9, zq8, zq31, zq32, ite_T, ite_F, zq33, zq34, zq35, Nat.reduceEqDiff, len22, len24, fa26_0, fa26_1, fa26_2, len27, fa33_0, fa33_1, len35, fa114_0, fa114_1, fa114_2, fa124_0, fa124_1, len134]
  obtain ⟨c1, c2⟩ := o11.cell2 (j := i) (by omega)
  rw [hrp] at c1 c2
  rw [zbc_, Nat.add_zero]
  refine rdi (ld3 c1) ?_
  rw [show (rul gm.rules i).1 = (((rul gm.rules i).1.toNat : Nat) : Int) from by omega]
  refine rdi (zcc_ hp (by omega)) ?_
  refine rdi (ld3 ((hV.gr g).cell _ (by omega))) ?_
  obtain ⟨cells, hr, hc⟩ := o11.cells
  refine zuc_ sz3 rfl rfl hr (by omega) fun w12 g12 s12 hr12 => ?_
  have o12 := o11.left (i := i) (m := to.getD (rul gm.rules i).1.toNat 0) (by decide) (by omega) hc hr hr12 g12
  rw [hrp] at o12
  have h3 := h3.kept g12 (zrc_ h3 hr (by decide))
  have h9 := h9.kept g12 (zrc_ h9 hr (by decide))
  have g := zaf_ g g12 fun q hq => (Row.ge hr hq).1
  have hR : ∀ ys : List Int, rul (((gm.rules.map (renR to)).take i ++ gm.rules.drop i).set i (to.getD (rul gm.rules i).1.toNat 0, ys)) i = (to.getD (rul gm.rules i).1.toNat 0, ys) := fun ys => by rw [zyf_ (by omega), if_pos rfl]
  have hRl : ∀ ys : List Int, (((gm.rules.map (renR to)).take i ++ gm.rules.drop i).set i (to.getD (rul gm.rules i).1.toNat 0, ys)).length = gm.rules.length := fun ys => by rw [List.length_set]; exact hpl
  have c3 := (o12.cell2 (j := i) (by have := hRl (rul gm.rules i).2; omega)).2
  rw [hR] at c3
  refine rdi (ld27 c3) ?_
  simp only [zq18, zq19, zq20, zq21, zq22, zq23, zq24, zq25, zq26, zq27, zq28, zq4, zq3, zq1, zq2, zq0, zq29, zq30, zq14, zq15, zq16, zq17, zq13, zq10, zq12, zq11, zq7, zq5, zq6, zq9, zq8, zq31, zq32, ite_T, ite_F, zq33, zq34, zq35, Nat.reduceEqDiff, len22, len24, fa26_0, fa26_1, fa26_2, len27, fa33_0, fa33_1, len35, fa114_0, fa114_1, fa114_2, fa124_0, fa124_1, len134]
  have hml : ((rul gm.rules i).2.map (renS to)).length = (rul gm.rules i).2.length := by simp
  refine ztb_ (rul gm.rules i).2.length 0 (fun j f w' => j ≤ (rul gm.rules i).2.length ∧ f 75 = .int .i64 j ∧ Gr w w' ∧ Box w' b3 [.int .i64 0, .int .i64 0, .slice none 0 0] 26 ∧ Box w' b9 [.int .i64 gm.nons, .int .i64 gm.toks, .slice X gm.rules.length cx] 26 ∧ OwnR 33 3 w' w.heap.size X cx (((gm.rules.map (renR to)).take i ++ gm.rules.drop i).set i (to.getD (rul gm.rules i).1.toNat 0, ((rul gm.rules i).2.map (renS to)).take j ++ (rul gm.rules i).2.drop j)) ps) ⟨Nat.zero_le _, rfl, g, h3, h9, by simpa using o12⟩ ?_
  clear o11 o12 c1 c2 c3 hr hc hr12 g12 h3 h9
  rintro j f' w13 N2 hai ⟨hj, h75, g, h3, h9, o13⟩ hN2
  have d1 : f' 1 = .slice V to.length cv := (hai 1 (by decide)).trans e1
  have d11 : f' 11 = .pointer (some ((ad X).add (i * 2))) := hai 11 (by decide)
  have d53 : f' 53 = .int .i64 i := (hai 53 (by decide)).trans h53
  have d73 : f' 73 = .slice (ps i).1 (rul gm.rules i).2.length (ps i).2 := hai 73 (by decide)
  have d74 : f' 74 = .int .i64 (rul gm.rules i).2.length := hai 74 (by decide)
  simp only [d1, d11, d53, d73, d74, h75, zq18, zq19, zq20, zq21, zq22, zq23, zq24, zq25, zq26, zq27, zq28, zq4, zq3, zq1, zq2, zq0, zq29, zq30, zq14, zq15, zq16, zq17, zq13, zq10, zq12, zq11, zq7, zq5, zq6, zq9, zq8, zq31, zq32, ite_T, ite_F, zq33, zq34, zq35, Nat.reduceEqDiff, len22, len24, fa26_0, fa26_1, fa26_2, len27, fa33_0, fa33_1, len35, fa114_0, fa114_1, fa114_2, fa124_0, fa124_1, len134]
  have hil := zag_ (k := j) hml
  by_cases hjlt : j < (rul gm.rules i).2.length
  case neg =>
    simp only [show ¬ (j : Int) < (rul gm.rules i).2.length from by omega, decide_false, zq18, zq19, zq20, zq21, zq22, zq23, zq24, zq25, zq26, zq27, zq28, zq4, zq3, zq1, zq2, zq0, zq29, zq30, zq14, zq15, zq16, zq17, zq13, zq10, zq12, zq11, zq7, zq5, zq6, zq9, zq8, zq31, zq32, ite_T, ite_F, zq33, zq34, zq35, Nat.reduceEqDiff, len22, len24, fa26_0, fa26_1, fa26_2, len27, fa33_0, fa33_1, len35, fa114_0, fa114_1, fa114_2, fa124_0, fa124_1, len134]
    rw [zt_ (by omega) (by omega)]
    have hjj : j = (rul gm.rules i).2.length := by omega
    rw [hjj, List.take_of_length_le (l := (rul gm.rules i).2.map (renS to)) (by omega), List.drop_length, List.append_nil] at o13
    have he : rul (gm.rules.map (renR to)) i = (to.getD (rul gm.rules i).1.toNat 0, (rul gm.rules i).2.map (renS to)) := zbj_ hlt
    rw [← he, zaj_ hlt hrl] at o13
    exact hN _ _ hlt ⟨hlt, rfl, g, h3, h9, o13⟩
  simp only [show (j : Int) < (rul gm.rules i).2.length from by omega, decide_true, zq18, zq19, zq20, zq21, zq22, zq23, zq24, zq25, zq26, zq27, zq28, zq4, zq3, zq1, zq2, zq0, zq29, zq30, zq14, zq15, zq16, zq17, zq13, zq10, zq12, zq11, zq7, zq5, zq6, zq9, zq8, zq31, zq32, ite_T, ite_F, zq33, zq34, zq35, Nat.reduceEqDiff, len22, len24, fa26_0, fa26_1, fa26_2, len27, fa33_0, fa33_1, len35, fa114_0, fa114_1, fa114_2, fa124_0, fa124_1, len134]
  have hxl := hRl (((rul gm.rules i).2.map (renS to)).take j ++ (rul gm.rules i).2.drop j)
  have oi := o13.own i (by omega)
  rw [hR] at oi
  dsimp only at oi
  have hx := hri ((rul gm.rules i).2.getD j 0) (by rw [gD hjlt]; exact List.getElem_mem hjlt)
  have hre : ((rul gm.rules i).2.map (renS to)).getD j 0 = renS to ((rul gm.rules i).2.getD j 0) := getD_map hjlt
  refine zmd_ (fun h w' => h 75 = .int .i64 j ∧ h 53 = .int .i64 i ∧ Gr w w' ∧ Box w' b3 [.int .i64 0, .int .i64 0, .slice none 0 0] 26 ∧ Box w' b9 [.int .i64 gm.nons, .int .i64 gm.toks, .slice X gm.rules.length cx] 26 ∧ OwnR 33 3 w' w.heap.size X cx (((gm.rules.map (renR to)).take i ++ gm.rules.drop i).set i (to.getD (rul gm.rules i).1.toNat 0, ((rul gm.rules i).2.map (renS to)).take (j + 1) ++ (rul gm.rules i).2.drop (j + 1))) ps) (fun K hK => ?_) ?_
  case refine_2 =>
    rintro h w14 ⟨h75, h53, g, h3, h9, o14⟩
    simp only [h75, zq18, zq19, zq20, zq21, zq22, zq23, zq24, zq25, zq26, zq27, zq28, zq4, zq3, zq1, zq2, zq0, zq29, zq30, zq14, zq15, zq16, zq17, zq13, zq10, zq12, zq11, zq7, zq5, zq6, zq9, zq8, zq31, zq32, ite_T, ite_F, zq33, zq34, zq35, Nat.reduceEqDiff, len22, len24, fa26_0, fa26_1, fa26_2, len27, fa33_0, fa33_1, len35, fa114_0, fa114_1, fa114_2, fa124_0, fa124_1, len134]
    rw [zt_ (by omega) (by omega)]
    exact hN2 _ _ hjlt ⟨hjlt, rfl, g, h3, h9, o14⟩
  have hcell := oi.ints.cell j (by omega)
  rw [ipart hml hjlt] at hcell
  have hip : 0 < (rul gm.rules i).2.length → (ps i).1 = some (ad (ps i).1) := fun h => oi.ptr (by omega)
  refine rdi (zcc_ hip hjlt) ?_
  refine rdi (ld3 hcell) ?_
  simp only [zq18, zq19, zq20, zq21, zq22, zq23, zq24, zq25, zq26, zq27, zq28, zq4, zq3, zq1, zq2, zq0, zq29, zq30, zq14, zq15, zq16, zq17, zq13, zq10, zq12, zq11, zq7, zq5, zq6, zq9, zq8, zq31, zq32, ite_T, ite_F, zq33, zq34, zq35, Nat.reduceEqDiff, len22, len24, fa26_0, fa26_1, fa26_2, len27, fa33_0, fa33_1, len35, fa114_0, fa114_1, fa114_2, fa124_0, fa124_1, len134]
  by_cases hx0 : (rul gm.rules i).2.getD j 0 ≥ 0
  case neg =>
    simp only [hx0, decide_false, zq18, zq19, zq20, zq21, zq22, zq23, zq24, zq25, zq26, zq27, zq28, zq4, zq3, zq1, zq2, zq0, zq29, zq30, zq14, zq15, zq16, zq17, zq13, zq10, zq12, zq11, zq7, zq5, zq6, zq9, zq8, zq31, zq32, ite_T, ite_F, zq33, zq34, zq35, Nat.reduceEqDiff, len22, len24, fa26_0, fa26_1, fa26_2, len27, fa33_0, fa33_1, len35, fa114_0, fa114_1, fa114_2, fa124_0, fa124_1, len134]
    refine hK _ _ ⟨h75, d53, g, h3, h9, ?_⟩
    rw [← ikeep hml hjlt (by rw [hre, renS, if_neg hx0])]
    exact o13
  simp only [hx0, decide_true, zq18, zq19, zq20, zq21, zq22, zq23, zq24, zq25, zq26, zq27, zq28, zq4, zq3, zq1, zq2, zq0, zq29, zq30, zq14, zq15, zq16, zq17, zq13, zq10, zq12, zq11, zq7, zq5, zq6, zq9, zq8, zq31, zq32, ite_T, ite_F, zq33, zq34, zq35, Nat.reduceEqDiff, len22, len24, fa26_0, fa26_1, fa26_2, len27, fa33_0, fa33_1, len35, fa114_0, fa114_1, fa114_2, fa124_0, fa124_1, len134]
  have gd := zfc_ w13
  have c4 := ((o13.gr gd).cell2 (j := i) (by omega)).2
  rw [hR] at c4
  dsimp only at c4
  rw [hil] at c4
  rw [zbc_]
  refine rdi (ld27 c4) ?_
  rw [show (rul gm.rules i).2.getD j 0 = ((((rul gm.rules i).2.getD j 0).toNat : Nat) : Int) from by omega]
  refine rdi (zcc_ hp (by omega)) ?_
  refine rdi (ld3 (((hV.gr g).gr gd).cell _ (by omega))) ?_
  refine rdi (zcc_ hip hjlt) ?_
  have oj : Own 3 w13.drew w.heap.size (ps i).1 (ps i).2 _ := oi.gr gd
  refine zuc_ sz3 rfl rfl oj (by omega) fun w14 g14 s14 r14 => ?_
  rw [ints_set] at r14
  have hv : to.getD ((rul gm.rules i).2.getD j 0).toNat 0 = ((rul gm.rules i).2.map (renS to)).getD j 0 := by rw [hre, renS, if_pos hx0]
  rw [hv, iset hml hjlt] at r14
  have o14 := (o13.gr gd).right (i := i) (ys := ((rul gm.rules i).2.map (renS to)).take (j + 1) ++ (rul gm.rules i).2.drop (j + 1)) (by decide) (by omega) (by rw [hR, hil, zag_ (k := j + 1) hml]) (by
    show Row _ _ _ _ _ _ _ _
    rw [zag_ (k := j + 1) hml, ← hil]
    exact r14) g14
  rw [hR, List.set_set] at o14
  refine hK _ _ ⟨h75, d53, zaf_ (zd_ g gd) g14 fun q hq => (Row.ge oj hq).1, (h3.gr gd).kept g14 (zrc_ (h3.gr gd) oj (by decide)), (h9.gr gd).kept g14 (zrc_ (h9.gr gd) oj (by decide)), o14⟩
theorem zwk_ {w : World} {Y V : Option Addr} {c cv : Nat} {gm : Gram} {to : List Int} (hG : kG Y c gm.rules w) (hV : Ints w V to) (hto : to.length ≤ 1000) (hcv : to.length ≤ cv) {k : Value → World → Prop}
    (hk : ∀ w' Z d, Gr w w' → kG Z d (renV gm to).1.rules w' → k (.tuple #[grv (renV gm to).1 Z d, .bool (renV gm to).2]) w') :
    CallK Try.prog 134 [grv gm Y c, .slice V to.length cv] k w := by
  refine enter134 ?_
  unfold S134
  refine zwb_ fun b1 w1 g1 hb1 h1 => ?_
  refine zmb_ zdc_ fun b3 w2 g2 hb3 h3 => ?_
  have h1 := h1.gr g2
  have q3 := Nat.le_trans g1.size hb3
  have g := zd_ g1 g2
  rw [zj_ zu_ sz26 rfl h1]
  refine zdd_ (gm := gm) (gvK ⟨hG.1, hG.2.gr g⟩) fun w6 g6 => ?_
  have g := zd_ g g6
  have h1 := h1.gr g6
  have h3 := h3.gr g6
  have hbad : ∀ w', Gr w w' → (zv_ gm && zgc_ gm to) = false → k (.tuple #[.agg #[.int .i64 0, .int .i64 0, .slice none 0 0], .bool false]) w' := fun w' g hf => by
    have := hk w' none 0 g
    simp only [renV, hf] at this
    exact this kG_nil
  cases hg : zv_ gm
  · simp only [Bool.not_false, zq18, zq19, zq20, zq21, zq22, zq23, zq24, zq25, zq26, zq27, zq28, zq4, zq3, zq1, zq2, zq0, zq29, zq30, zq14, zq15, zq16, zq17, zq13, zq10, zq12, zq11, zq7, zq5, zq6, zq9, zq8, zq31, zq32, ite_T, ite_F, zq33, zq34, zq35, Nat.reduceEqDiff, len22, len24, fa26_0, fa26_1, fa26_2, len27, fa33_0, fa33_1, len35, fa114_0, fa114_1, fa114_2, fa124_0, fa124_1, len134]
    rw [bd26 (cells := #[.int .i64 0, .int .i64 0, .slice none 0 0]) rfl]
    refine zfb_ sz26 rfl (by intro u hu; simp [Value.cells] at hu; rcases hu with rfl | rfl | rfl <;> rfl) h3 (by simp [Value.cells]) fun w5 g5 s5 h5 => ?_
    rw [zcb_, zj_ zu_ sz26 rfl h5]
    exact hbad _ (zpb_ g g5 q3) (by rw [hg]; rfl)
  simp only [Bool.not_true, zq18, zq19, zq20, zq21, zq22, zq23, zq24, zq25, zq26, zq27, zq28, zq4, zq3, zq1, zq2, zq0, zq29, zq30, zq14, zq15, zq16, zq17, zq13, zq10, zq12, zq11, zq7, zq5, zq6, zq9, zq8, zq31, zq32, ite_T, ite_F, zq33, zq34, zq35, Nat.reduceEqDiff, len22, len24, fa26_0, fa26_1, fa26_2, len27, fa33_0, fa33_1, len35, fa114_0, fa114_1, fa114_2, fa124_0, fa124_1, len134]
  rw [ldB3 h1 rfl]
  simp only [zq18, zq19, zq20, zq21, zq22, zq23, zq24, zq25, zq26, zq27, zq28, zq4, zq3, zq1, zq2, zq0, zq29, zq30, zq14, zq15, zq16, zq17, zq13, zq10, zq12, zq11, zq7, zq5, zq6, zq9, zq8, zq31, zq32, ite_T, ite_F, zq33, zq34, zq35, Nat.reduceEqDiff, len22, len24, fa26_0, fa26_1, fa26_2, len27, fa33_0, fa33_1, len35, fa114_0, fa114_1, fa114_2, fa124_0, fa124_1, len134]
  have hn6 := zed_ hg
  by_cases hl : (to.length : Int) = gm.nons
  case neg =>
    rw [decide_eq_false hl]
    simp only [Bool.not_false, zq18, zq19, zq20, zq21, zq22, zq23, zq24, zq25, zq26, zq27, zq28, zq4, zq3, zq1, zq2, zq0, zq29, zq30, zq14, zq15, zq16, zq17, zq13, zq10, zq12, zq11, zq7, zq5, zq6, zq9, zq8, zq31, zq32, ite_T, ite_F, zq33, zq34, zq35, Nat.reduceEqDiff, len22, len24, fa26_0, fa26_1, fa26_2, len27, fa33_0, fa33_1, len35, fa114_0, fa114_1, fa114_2, fa124_0, fa124_1, len134]
    rw [bd26 (cells := #[.int .i64 0, .int .i64 0, .slice none 0 0]) rfl]
    refine zfb_ sz26 rfl (by intro u hu; simp [Value.cells] at hu; rcases hu with rfl | rfl | rfl <;> rfl) h3 (by simp [Value.cells]) fun w5 g5 s5 h5 => ?_
    rw [zcb_, zj_ zu_ sz26 rfl h5]
    exact hbad _ (zpb_ g g5 q3) (by rw [show zgc_ gm to = false from by unfold zgc_; rw [decide_eq_false hl, Bool.false_and]]; exact Bool.and_false _)
  rw [decide_eq_true hl]
  simp only [Bool.not_true, zq18, zq19, zq20, zq21, zq22, zq23, zq24, zq25, zq26, zq27, zq28, zq4, zq3, zq1, zq2, zq0, zq29, zq30, zq14, zq15, zq16, zq17, zq13, zq10, zq12, zq11, zq7, zq5, zq6, zq9, zq8, zq31, zq32, ite_T, ite_F, zq33, zq34, zq35, Nat.reduceEqDiff, len22, len24, fa26_0, fa26_1, fa26_2, len27, fa33_0, fa33_1, len35, fa114_0, fa114_1, fa114_2, fa124_0, fa124_1, len134]
  rw [ldB3 h1 rfl]
  simp only [zq18, zq19, zq20, zq21, zq22, zq23, zq24, zq25, zq26, zq27, zq28, zq4, zq3, zq1, zq2, zq0, zq29, zq30, zq14, zq15, zq16, zq17, zq13, zq10, zq12, zq11, zq7, zq5, zq6, zq9, zq8, zq31, zq32, ite_T, ite_F, zq33, zq34, zq35, Nat.reduceEqDiff, len22, len24, fa26_0, fa26_1, fa26_2, len27, fa33_0, fa33_1, len35, fa114_0, fa114_1, fa114_2, fa124_0, fa124_1, len134]
  rw [zt_ (by omega) (by omega)]
  refine l1All_c (hV.gr g) fun w7 g7 => ?_
  have g := zd_ g g7
  have h1 := h1.gr g7
  have h3 := h3.gr g7
  have hall : allB to 0 (gm.nons - 1) = allB to 0 ((to.length : Int) - 1) := by rw [hl]
  cases ha : allB to 0 (gm.nons - 1)
  · simp only [Bool.not_false, zq18, zq19, zq20, zq21, zq22, zq23, zq24, zq25, zq26, zq27, zq28, zq4, zq3, zq1, zq2, zq0, zq29, zq30, zq14, zq15, zq16, zq17, zq13, zq10, zq12, zq11, zq7, zq5, zq6, zq9, zq8, zq31, zq32, ite_T, ite_F, zq33, zq34, zq35, Nat.reduceEqDiff, len22, len24, fa26_0, fa26_1, fa26_2, len27, fa33_0, fa33_1, len35, fa114_0, fa114_1, fa114_2, fa124_0, fa124_1, len134]
    rw [bd26 (cells := #[.int .i64 0, .int .i64 0, .slice none 0 0]) rfl]
    refine zfb_ sz26 rfl (by intro u hu; simp [Value.cells] at hu; rcases hu with rfl | rfl | rfl <;> rfl) h3 (by simp [Value.cells]) fun w5 g5 s5 h5 => ?_
    rw [zcb_, zj_ zu_ sz26 rfl h5]
    exact hbad _ (zpb_ g g5 q3) (by
      rw [show zgc_ gm to = false from by
        have e : decide (allAt (srt to)) = false := decide_eq_false fun h => by
          have := (allAt_iff.1 h).1
          rw [← hall, ha] at this
          cases this
        unfold zgc_
        rw [e, Bool.and_false, Bool.and_false]]
      exact Bool.and_false _)
  simp only [Bool.not_true, zq18, zq19, zq20, zq21, zq22, zq23, zq24, zq25, zq26, zq27, zq28, zq4, zq3, zq1, zq2, zq0, zq29, zq30, zq14, zq15, zq16, zq17, zq13, zq10, zq12, zq11, zq7, zq5, zq6, zq9, zq8, zq31, zq32, ite_T, ite_F, zq33, zq34, zq35, Nat.reduceEqDiff, len22, len24, fa26_0, fa26_1, fa26_2, len27, fa33_0, fa33_1, len35, fa114_0, fa114_1, fa114_2, fa124_0, fa124_1, len134]
  have hp := hV.ptr
  refine rdi (zcc_ (i := 0) hp (by omega)) ?_
  simp only [zq18, zq19, zq20, zq21, zq22, zq23, zq24, zq25, zq26, zq27, zq28, zq4, zq3, zq1, zq2, zq0, zq29, zq30, zq14, zq15, zq16, zq17, zq13, zq10, zq12, zq11, zq7, zq5, zq6, zq9, zq8, zq31, zq32, ite_T, ite_F, zq33, zq34, zq35, Nat.reduceEqDiff, len22, len24, fa26_0, fa26_1, fa26_2, len27, fa33_0, fa33_1, len35, fa114_0, fa114_1, fa114_2, fa124_0, fa124_1, len134]
  refine rdi (ld3 ((hV.gr g).cell 0 (by omega))) ?_
  simp only [zq18, zq19, zq20, zq21, zq22, zq23, zq24, zq25, zq26, zq27, zq28, zq4, zq3, zq1, zq2, zq0, zq29, zq30, zq14, zq15, zq16, zq17, zq13, zq10, zq12, zq11, zq7, zq5, zq6, zq9, zq8, zq31, zq32, ite_T, ite_F, zq33, zq34, zq35, Nat.reduceEqDiff, len22, len24, fa26_0, fa26_1, fa26_2, len27, fa33_0, fa33_1, len35, fa114_0, fa114_1, fa114_2, fa124_0, fa124_1, len134]
  by_cases h0 : to.getD 0 0 = 0
  case neg =>
    simp only [h0, decide_false, Bool.not_false, zq18, zq19, zq20, zq21, zq22, zq23, zq24, zq25, zq26, zq27, zq28, zq4, zq3, zq1, zq2, zq0, zq29, zq30, zq14, zq15, zq16, zq17, zq13, zq10, zq12, zq11, zq7, zq5, zq6, zq9, zq8, zq31, zq32, ite_T, ite_F, zq33, zq34, zq35, Nat.reduceEqDiff, len22, len24, fa26_0, fa26_1, fa26_2, len27, fa33_0, fa33_1, len35, fa114_0, fa114_1, fa114_2, fa124_0, fa124_1, len134]
    rw [bd26 (cells := #[.int .i64 0, .int .i64 0, .slice none 0 0]) rfl]
    refine zfb_ sz26 rfl (by intro u hu; simp [Value.cells] at hu; rcases hu with rfl | rfl | rfl <;> rfl) h3 (by simp [Value.cells]) fun w5 g5 s5 h5 => ?_
    rw [zcb_, zj_ zu_ sz26 rfl h5]
    exact hbad _ (zpb_ g g5 q3) (by rw [show zgc_ gm to = false from by unfold zgc_; rw [decide_eq_false h0, Bool.false_and, Bool.and_false]]; exact Bool.and_false _)
  simp only [h0, decide_true, Bool.not_true, zq18, zq19, zq20, zq21, zq22, zq23, zq24, zq25, zq26, zq27, zq28, zq4, zq3, zq1, zq2, zq0, zq29, zq30, zq14, zq15, zq16, zq17, zq13, zq10, zq12, zq11, zq7, zq5, zq6, zq9, zq8, zq31, zq32, ite_T, ite_F, zq33, zq34, zq35, Nat.reduceEqDiff, len22, len24, fa26_0, fa26_1, fa26_2, len27, fa33_0, fa33_1, len35, fa114_0, fa114_1, fa114_2, fa124_0, fa124_1, len134]
  have hpm : zgc_ gm to = decide (∀ k, k < to.length → to.getD k 0 ∉ to.take k) := by
    unfold zgc_
    rw [decide_eq_true hl, decide_eq_true h0, Bool.true_and, Bool.true_and]
    refine decide_eq_decide.2 (allAt_iff.trans ⟨fun h => h.2, fun h => ⟨by rw [← hall]; exact ha, h⟩⟩)
  have g6' := g
  refine ztb_ to.length 0 (fun i f w' => i ≤ to.length ∧ f 40 = .int .i64 i ∧ Gr w7 w' ∧ ∀ j, j < i → to.getD j 0 ∉ to.take j) ⟨Nat.zero_le _, rfl, Gr.refl _, fun j hj => by omega⟩ ?_
  rintro i f w8 N hag ⟨hi, h40, g8, hat⟩ hN
  have f1 : f 1 = .slice V to.length cv := hag 1 (by decide)
  have f2 : f 2 = .pointer (some ⟨b1, 0, none⟩) := hag 2 (by decide)
  have f4 : f 4 = .pointer (some ⟨b3, 0, none⟩) := hag 4 (by decide)
  have f38 : f 38 = .slice V to.length cv := hag 38 (by decide)
  have f39 : f 39 = .int .i64 to.length := hag 39 (by decide)
  simp only [f1, f2, f4, f38, f39, h40, zq18, zq19, zq20, zq21, zq22, zq23, zq24, zq25, zq26, zq27, zq28, zq4, zq3, zq1, zq2, zq0, zq29, zq30, zq14, zq15, zq16, zq17, zq13, zq10, zq12, zq11, zq7, zq5, zq6, zq9, zq8, zq31, zq32, ite_T, ite_F, zq33, zq34, zq35, Nat.reduceEqDiff, len22, len24, fa26_0, fa26_1, fa26_2, len27, fa33_0, fa33_1, len35, fa114_0, fa114_1, fa114_2, fa124_0, fa124_1, len134]
  have g := zd_ g g8
  have h1 := h1.gr g8
  have h3 := h3.gr g8
  by_cases hlt : i < to.length
  case pos =>
    simp only [show (i : Int) < to.length from by omega, decide_true, zq18, zq19, zq20, zq21, zq22, zq23, zq24, zq25, zq26, zq27, zq28, zq4, zq3, zq1, zq2, zq0, zq29, zq30, zq14, zq15, zq16, zq17, zq13, zq10, zq12, zq11, zq7, zq5, zq6, zq9, zq8, zq31, zq32, ite_T, ite_F, zq33, zq34, zq35, Nat.reduceEqDiff, len22, len24, fa26_0, fa26_1, fa26_2, len27, fa33_0, fa33_1, len35, fa114_0, fa114_1, fa114_2, fa124_0, fa124_1, len134]
    refine rdi (zcc_ hp hlt) ?_
    refine rdi (ld3 ((hV.gr g).cell i hlt)) ?_
    refine rdi (slh27 (by omega) (by omega)) ?_
    have htl : (to.take i).length = i := by simp; omega
    have hs1 : Ints w8 (sub V 0 cv 1) (to.take i) := by
      have := (hV.gr g).sub (l := 0) (c := cv) (Nat.zero_le _) hcv i
      simpa using this
    rw [show ((i : Int)).toNat = (to.take i).length from by omega]
    refine l1Has_c hs1 fun w9 g9 => ?_
    by_cases he : to.getD i 0 ∈ to.take i
    · rw [decide_eq_true he]
      simp only [zq18, zq19, zq20, zq21, zq22, zq23, zq24, zq25, zq26, zq27, zq28, zq4, zq3, zq1, zq2, zq0, zq29, zq30, zq14, zq15, zq16, zq17, zq13, zq10, zq12, zq11, zq7, zq5, zq6, zq9, zq8, zq31, zq32, ite_T, ite_F, zq33, zq34, zq35, Nat.reduceEqDiff, len22, len24, fa26_0, fa26_1, fa26_2, len27, fa33_0, fa33_1, len35, fa114_0, fa114_1, fa114_2, fa124_0, fa124_1, len134]
      rw [bd26 (cells := #[.int .i64 0, .int .i64 0, .slice none 0 0]) rfl]
      refine zfb_ sz26 rfl (by intro u hu; simp [Value.cells] at hu; rcases hu with rfl | rfl | rfl <;> rfl) (h3.gr g9) (by simp [Value.cells]) fun w5 g5 s5 h5 => ?_
      simp only [resK_cell, f4, zq18, zq19, zq20, zq21, zq22, zq23, zq24, zq25, zq26, zq27, zq28, zq4, zq3, zq1, zq2, zq0, zq29, zq30, zq14, zq15, zq16, zq17, zq13, zq10, zq12, zq11, zq7, zq5, zq6, zq9, zq8, zq31, zq32, ite_T, ite_F, zq33, zq34, zq35, Nat.reduceEqDiff, len22, len24, fa26_0, fa26_1, fa26_2, len27, fa33_0, fa33_1, len35, fa114_0, fa114_1, fa114_2, fa124_0, fa124_1, len134]
      rw [zcb_, zj_ zu_ sz26 rfl h5]
      exact hbad _ (zpb_ (zd_ g g9) g5 q3) (by
        rw [hpm, decide_eq_false (fun h => h i hlt he)]
        simp)
    · rw [decide_eq_false he]
      simp only [zq18, zq19, zq20, zq21, zq22, zq23, zq24, zq25, zq26, zq27, zq28, zq4, zq3, zq1, zq2, zq0, zq29, zq30, zq14, zq15, zq16, zq17, zq13, zq10, zq12, zq11, zq7, zq5, zq6, zq9, zq8, zq31, zq32, ite_T, ite_F, zq33, zq34, zq35, Nat.reduceEqDiff, len22, len24, fa26_0, fa26_1, fa26_2, len27, fa33_0, fa33_1, len35, fa114_0, fa114_1, fa114_2, fa124_0, fa124_1, len134]
      rw [zt_ (by omega) (by omega)]
      refine hN _ _ hlt ⟨hlt, rfl, zd_ g8 g9, fun j hj => ?_⟩
      by_cases hji : j = i
      · rw [hji]
        exact he
      · exact hat j (by omega)
  simp only [show ¬ (i : Int) < to.length from by omega, decide_false, zq18, zq19, zq20, zq21, zq22, zq23, zq24, zq25, zq26, zq27, zq28, zq4, zq3, zq1, zq2, zq0, zq29, zq30, zq14, zq15, zq16, zq17, zq13, zq10, zq12, zq11, zq7, zq5, zq6, zq9, zq8, zq31, zq32, ite_T, ite_F, zq33, zq34, zq35, Nat.reduceEqDiff, len22, len24, fa26_0, fa26_1, fa26_2, len27, fa33_0, fa33_1, len35, fa114_0, fa114_1, fa114_2, fa124_0, fa124_1, len134]
  obtain rfl : i = to.length := by omega
  have hok : zgc_ gm to = true := by rw [hpm]; exact decide_eq_true hat
  obtain ⟨_, _, _, hbd⟩ := zig_ hok
  clear hN hat h40 f2 f38 f39 hbad
  rw [zj_ zu_ sz26 rfl h1]
  have hlen := zyc_ hg
  have hr4 := zid_ hg
  refine zuk_ (gm := gm) (gvK ⟨hG.1, hG.2.gr g⟩) hg fun v w8 g8 hv8 => ?_
  obtain ⟨X, cx, ps, rfl, o8⟩ := hv8
  have h3 := h3.gr g8
  refine zmb_ zdc_ fun b9 w9 g9 hb9 h9 => ?_
  have n39 := h3.ne hb9
  have q9 := Nat.le_trans (zd_ g g8).size hb9
  refine zfb_ sz26 rfl (by intro u hu; simp [Value.cells] at hu; rcases hu with rfl | rfl | rfl <;> rfl) h9 (by simp [Value.cells]) fun w10 g10 s10 h10 => ?_
  have h3 := (h3.gr g9).put g10 n39
  have o10 := ((o8.mono g.size).gr g9).put h9 (by decide) (by decide) g10
  have g := zpb_ (zd_ (zd_ g g8) g9) g10 q9
  simp only [zq18, zq19, zq20, zq21, zq22, zq23, zq24, zq25, zq26, zq27, zq28, zq4, zq3, zq1, zq2, zq0, zq29, zq30, zq14, zq15, zq16, zq17, zq13, zq10, zq12, zq11, zq7, zq5, zq6, zq9, zq8, zq31, zq32, ite_T, ite_F, zq33, zq34, zq35, Nat.reduceEqDiff, len22, len24, fa26_0, fa26_1, fa26_2, len27, fa33_0, fa33_1, len35, fa114_0, fa114_1, fa114_2, fa124_0, fa124_1, len134]
  rw [zyb_ h10 rfl]
  simp only [zq18, zq19, zq20, zq21, zq22, zq23, zq24, zq25, zq26, zq27, zq28, zq4, zq3, zq1, zq2, zq0, zq29, zq30, zq14, zq15, zq16, zq17, zq13, zq10, zq12, zq11, zq7, zq5, zq6, zq9, zq8, zq31, zq32, ite_T, ite_F, zq33, zq34, zq35, Nat.reduceEqDiff, len22, len24, fa26_0, fa26_1, fa26_2, len27, fa33_0, fa33_1, len35, fa114_0, fa114_1, fa114_2, fa124_0, fa124_1, len134]
  have hrl := (List.length_map (renR to) : (gm.rules.map (renR to)).length = gm.rules.length)
  refine ztb_ gm.rules.length 0 (fun i f w' => i ≤ gm.rules.length ∧ f 57 = .int .i64 i ∧ Gr w w' ∧ Box w' b3 [.int .i64 0, .int .i64 0, .slice none 0 0] 26 ∧ Box w' b9 [.int .i64 gm.nons, .int .i64 gm.toks, .slice X gm.rules.length cx] 26 ∧ OwnR 33 3 w' w.heap.size X cx ((gm.rules.map (renR to)).take i ++ gm.rules.drop i) ps) ⟨Nat.zero_le _, rfl, g, h3, by simpa [Value.cells] using h10, by simpa using o10⟩ ?_
  clear o8 o10 h10
  rintro i h w11 N hah ⟨hi, h53, g, h3, h9, o11⟩ hN
  have e1 : h 1 = .slice V to.length cv := (hah 1 (by decide)).trans f1
  have e4 : h 4 = .pointer (some ⟨b3, 0, none⟩) := (hah 4 (by decide)).trans f4
  have e9 : h 8 = .pointer (some ⟨b9, 0, none⟩) := hah 8 (by decide)
  have e52 : h 56 = .int .i64 gm.rules.length := hah 56 (by decide)
  have e55 : h 55 = .slice X gm.rules.length cx := hah 55 (by decide)
  simp only [e1, e4, e9, e52, e55, h53, zq18, zq19, zq20, zq21, zq22, zq23, zq24, zq25, zq26, zq27, zq28, zq4, zq3, zq1, zq2, zq0, zq29, zq30, zq14, zq15, zq16, zq17, zq13, zq10, zq12, zq11, zq7, zq5, zq6, zq9, zq8, zq31, zq32, ite_T, ite_F, zq33, zq34, zq35, Nat.reduceEqDiff, len22, len24, fa26_0, fa26_1, fa26_2, len27, fa33_0, fa33_1, len35, fa114_0, fa114_1, fa114_2, fa124_0, fa124_1, len134]
  have hpl := zjg_ (i := i) hrl
  by_cases hlt : i < gm.rules.length
  case neg =>
    simp only [show ¬ (i : Int) < gm.rules.length from by omega, decide_false, zq18, zq19, zq20, zq21, zq22, zq23, zq24, zq25, zq26, zq27, zq28, zq4, zq3, zq1, zq2, zq0, zq29, zq30, zq14, zq15, zq16, zq17, zq13, zq10, zq12, zq11, zq7, zq5, zq6, zq9, zq8, zq31, zq32, ite_T, ite_F, zq33, zq34, zq35, Nat.reduceEqDiff, len22, len24, fa26_0, fa26_1, fa26_2, len27, fa33_0, fa33_1, len35, fa114_0, fa114_1, fa114_2, fa124_0, fa124_1, len134]
    obtain rfl : i = gm.rules.length := by omega
    rw [List.take_of_length_le (by omega), List.drop_length, List.append_nil] at o11
    rw [zj_ zu_ sz26 rfl h9]
    refine zfb_ sz26 rfl (by intro u hu; simp [Value.cells] at hu; rcases hu with rfl | rfl | rfl <;> rfl) h3 (by simp [Value.cells]) fun w12 g12 s12 h12 => ?_
    rw [zcb_, zj_ zu_ sz26 rfl h12]
    have := hk w12 X cx (zpb_ g g12 q3)
    simp only [renV, hg, hok, Bool.and_self, if_true, grv, hrl] at this
    exact this (ownK (o11.put h3 (by decide) (by decide) g12))
  have hlt' : (i : Int) < gm.rules.length := by omega
  simp only [hlt', decide_true, zq18, zq19, zq20, zq21, zq22, zq23, zq24, zq25, zq26, zq27, zq28, zq4, zq3, zq1, zq2, zq0, zq29, zq30, zq14, zq15, zq16, zq17, zq13, zq10, zq12, zq11, zq7, zq5, zq6, zq9, zq8, zq31, zq32, ite_T, ite_F, zq33, zq34, zq35, Nat.reduceEqDiff, len22, len24, fa26_0, fa26_1, fa26_2, len27, fa33_0, fa33_1, len35, fa114_0, fa114_1, fa114_2, fa124_0, fa124_1, len134]
  have hrp := zuf_ hrl hlt
  obtain ⟨hl0, hl1⟩ := zwe_ hg hlt
  have hri := zah_ hg hlt
  have hlr := hr4 i hlt
  rw [zic_ (fun h => o11.ptr (by omega)) hlt, ld_ruleO zhc_ sz33 o11 (by omega), hrp]
  refine zmb_ zxb_ fun b14 w14 g14 hb14 h14 => ?_
  have nX : blk X ≠ some b14 := fun e => by
    have := (o11.foot (.inl e)).2
    omega
  refine zfb_ sz33 rfl (by intro u hu; simp [Value.cells] at hu; rcases hu with rfl | rfl <;> rfl) h14 (by simp [Value.cells]) fun w15 g15 s15 h15 => ?_
  have g115 := zd_ (zpb_ g14 g15 hb14) (zfc_ w15)
  have h15 := h15.gr (zfc_ w15)
  have g := zd_ g g115
  have h3 := h3.gr g115
  have h9 := h9.gr g115
  have o11 := o11.gr g115
  simp only [zq18, zq19, zq20, zq21, zq22, zq23, zq24, zq25, zq26, zq27, zq28, zq4, zq3, zq1, zq2, zq0, zq29, zq30, zq14, zq15, zq16, zq17, zq13, zq10, zq12, zq11, zq7, zq5, zq6, zq9, zq8, zq31, zq32, ite_T, ite_F, zq33, zq34, zq35, Nat.reduceEqDiff, len22, len24, fa26_0, fa26_1, fa26_2, len27, fa33_0, fa33_1, len35, fa114_0, fa114_1, fa114_2, fa124_0, fa124_1, len134]
  rw [zyb_ h9 rfl, ldB3 h15 rfl]
  rw [show (rul gm.rules i).1 = (((rul gm.rules i).1.toNat : Nat) : Int) from by omega]
  refine rdi (zcc_ hp (by omega)) ?_
  refine rdi (ld3 ((hV.gr g).cell _ (by omega))) ?_
  rw [zic_ (fun h => o11.ptr (by omega)) hlt]
  simp only [zq18, zq19, zq20, zq21, zq22, zq23, zq24, zq25, zq26, zq27, zq28, zq4, zq3, zq1, zq2, zq0, zq29, zq30, zq14, zq15, zq16, zq17, zq13, zq10, zq12, zq11, zq7, zq5, zq6, zq9, zq8, zq31, zq32, ite_T, ite_F, zq33, zq34, zq35, Nat.reduceEqDiff, len22, len24, fa26_0, fa26_1, fa26_2, len27, fa33_0, fa33_1, len35, fa114_0, fa114_1, fa114_2, fa124_0, fa124_1, len134]
  obtain ⟨cells, hr, hc⟩ := o11.cells
  refine zuc_ sz3 rfl rfl hr (by omega) fun w12 g12 s12 hr12 => ?_
  have o12 := o11.left (i := i) (m := to.getD (rul gm.rules i).1.toNat 0) (by decide) (by omega) hc hr hr12 g12
  rw [hrp] at o12
  have h3 := h3.kept g12 (zrc_ h3 hr (by decide))
  have h9 := h9.kept g12 (zrc_ h9 hr (by decide))
  have g := zaf_ g g12 fun q hq => (Row.ge hr hq).1
  have h15 := h15.kept g12 nX
  have hR : ∀ ys : List Int, rul (((gm.rules.map (renR to)).take i ++ gm.rules.drop i).set i (to.getD (rul gm.rules i).1.toNat 0, ys)) i = (to.getD (rul gm.rules i).1.toNat 0, ys) := fun ys => by rw [zyf_ (by omega), if_pos rfl]
  have hRl : ∀ ys : List Int, (((gm.rules.map (renR to)).take i ++ gm.rules.drop i).set i (to.getD (rul gm.rules i).1.toNat 0, ys)).length = gm.rules.length := fun ys => by rw [List.length_set]; exact hpl
  rw [zpe_ h15 rfl]
  simp only [zq18, zq19, zq20, zq21, zq22, zq23, zq24, zq25, zq26, zq27, zq28, zq4, zq3, zq1, zq2, zq0, zq29, zq30, zq14, zq15, zq16, zq17, zq13, zq10, zq12, zq11, zq7, zq5, zq6, zq9, zq8, zq31, zq32, ite_T, ite_F, zq33, zq34, zq35, Nat.reduceEqDiff, len22, len24, fa26_0, fa26_1, fa26_2, len27, fa33_0, fa33_1, len35, fa114_0, fa114_1, fa114_2, fa124_0, fa124_1, len134]
  have hml : ((rul gm.rules i).2.map (renS to)).length = (rul gm.rules i).2.length := by simp
  refine ztb_ (rul gm.rules i).2.length 0 (fun j f w' => j ≤ (rul gm.rules i).2.length ∧ f 75 = .int .i64 j ∧ Gr w w' ∧ Box w' b3 [.int .i64 0, .int .i64 0, .slice none 0 0] 26 ∧ Box w' b9 [.int .i64 gm.nons, .int .i64 gm.toks, .slice X gm.rules.length cx] 26 ∧ OwnR 33 3 w' w.heap.size X cx (((gm.rules.map (renR to)).take i ++ gm.rules.drop i).set i (to.getD (rul gm.rules i).1.toNat 0, ((rul gm.rules i).2.map (renS to)).take j ++ (rul gm.rules i).2.drop j)) ps) ⟨Nat.zero_le _, rfl, g, h3, h9, by simpa using o12⟩ ?_
  clear o11 o12 hr hc hr12 g12 h3 h9
  rintro j f' w13 N2 hai ⟨hj, h75, g, h3, h9, o13⟩ hN2
  have d1 : f' 1 = .slice V to.length cv := (hai 1 (by decide)).trans e1
  have d8 : f' 8 = .pointer (some ⟨b9, 0, none⟩) := (hai 8 (by decide)).trans e9
  have d9 : f' 9 = .int .i64 i := hai 9 (by decide)
  have d53 : f' 57 = .int .i64 i := (hai 57 (by decide)).trans h53
  have d73 : f' 73 = .slice (ps i).1 (rul gm.rules i).2.length (ps i).2 := hai 73 (by decide)
  have d74 : f' 74 = .int .i64 (rul gm.rules i).2.length := hai 74 (by decide)
  simp only [d1, d8, d9, d53, d73, d74, h75, zq18, zq19, zq20, zq21, zq22, zq23, zq24, zq25, zq26, zq27, zq28, zq4, zq3, zq1, zq2, zq0, zq29, zq30, zq14, zq15, zq16, zq17, zq13, zq10, zq12, zq11, zq7, zq5, zq6, zq9, zq8, zq31, zq32, ite_T, ite_F, zq33, zq34, zq35, Nat.reduceEqDiff, len22, len24, fa26_0, fa26_1, fa26_2, len27, fa33_0, fa33_1, len35, fa114_0, fa114_1, fa114_2, fa124_0, fa124_1, len134]
  have hil := zag_ (k := j) hml
  by_cases hjlt : j < (rul gm.rules i).2.length
  case neg =>
    simp only [show ¬ (j : Int) < (rul gm.rules i).2.length from by omega, decide_false, zq18, zq19, zq20, zq21, zq22, zq23, zq24, zq25, zq26, zq27, zq28, zq4, zq3, zq1, zq2, zq0, zq29, zq30, zq14, zq15, zq16, zq17, zq13, zq10, zq12, zq11, zq7, zq5, zq6, zq9, zq8, zq31, zq32, ite_T, ite_F, zq33, zq34, zq35, Nat.reduceEqDiff, len22, len24, fa26_0, fa26_1, fa26_2, len27, fa33_0, fa33_1, len35, fa114_0, fa114_1, fa114_2, fa124_0, fa124_1, len134]
    rw [zt_ (by omega) (by omega)]
    have hjj : j = (rul gm.rules i).2.length := by omega
    rw [hjj, List.take_of_length_le (l := (rul gm.rules i).2.map (renS to)) (by omega), List.drop_length, List.append_nil] at o13
    have he : rul (gm.rules.map (renR to)) i = (to.getD (rul gm.rules i).1.toNat 0, (rul gm.rules i).2.map (renS to)) := zbj_ hlt
    rw [← he, zaj_ hlt hrl] at o13
    exact hN _ _ hlt ⟨hlt, rfl, g, h3, h9, o13⟩
  simp only [show (j : Int) < (rul gm.rules i).2.length from by omega, decide_true, zq18, zq19, zq20, zq21, zq22, zq23, zq24, zq25, zq26, zq27, zq28, zq4, zq3, zq1, zq2, zq0, zq29, zq30, zq14, zq15, zq16, zq17, zq13, zq10, zq12, zq11, zq7, zq5, zq6, zq9, zq8, zq31, zq32, ite_T, ite_F, zq33, zq34, zq35, Nat.reduceEqDiff, len22, len24, fa26_0, fa26_1, fa26_2, len27, fa33_0, fa33_1, len35, fa114_0, fa114_1, fa114_2, fa124_0, fa124_1, len134]
  have hxl := hRl (((rul gm.rules i).2.map (renS to)).take j ++ (rul gm.rules i).2.drop j)
  have oi := o13.own i (by omega)
  rw [hR] at oi
  dsimp only at oi
  have hx := hri ((rul gm.rules i).2.getD j 0) (by rw [gD hjlt]; exact List.getElem_mem hjlt)
  have hre : ((rul gm.rules i).2.map (renS to)).getD j 0 = renS to ((rul gm.rules i).2.getD j 0) := getD_map hjlt
  refine zmd_ (fun h w' => h 75 = .int .i64 j ∧ h 57 = .int .i64 i ∧ Gr w w' ∧ Box w' b3 [.int .i64 0, .int .i64 0, .slice none 0 0] 26 ∧ Box w' b9 [.int .i64 gm.nons, .int .i64 gm.toks, .slice X gm.rules.length cx] 26 ∧ OwnR 33 3 w' w.heap.size X cx (((gm.rules.map (renR to)).take i ++ gm.rules.drop i).set i (to.getD (rul gm.rules i).1.toNat 0, ((rul gm.rules i).2.map (renS to)).take (j + 1) ++ (rul gm.rules i).2.drop (j + 1))) ps) (fun K hK => ?_) ?_
  case refine_2 =>
    rintro h w14 ⟨h75, h53, g, h3, h9, o14⟩
    simp only [h75, zq18, zq19, zq20, zq21, zq22, zq23, zq24, zq25, zq26, zq27, zq28, zq4, zq3, zq1, zq2, zq0, zq29, zq30, zq14, zq15, zq16, zq17, zq13, zq10, zq12, zq11, zq7, zq5, zq6, zq9, zq8, zq31, zq32, ite_T, ite_F, zq33, zq34, zq35, Nat.reduceEqDiff, len22, len24, fa26_0, fa26_1, fa26_2, len27, fa33_0, fa33_1, len35, fa114_0, fa114_1, fa114_2, fa124_0, fa124_1, len134]
    rw [zt_ (by omega) (by omega)]
    exact hN2 _ _ hjlt ⟨hjlt, rfl, g, h3, h9, o14⟩
  have hcell := oi.ints.cell j (by omega)
  rw [ipart hml hjlt] at hcell
  have hip : 0 < (rul gm.rules i).2.length → (ps i).1 = some (ad (ps i).1) := fun h => oi.ptr (by omega)
  refine rdi (zcc_ hip hjlt) ?_
  refine rdi (ld3 hcell) ?_
  simp only [zq18, zq19, zq20, zq21, zq22, zq23, zq24, zq25, zq26, zq27, zq28, zq4, zq3, zq1, zq2, zq0, zq29, zq30, zq14, zq15, zq16, zq17, zq13, zq10, zq12, zq11, zq7, zq5, zq6, zq9, zq8, zq31, zq32, ite_T, ite_F, zq33, zq34, zq35, Nat.reduceEqDiff, len22, len24, fa26_0, fa26_1, fa26_2, len27, fa33_0, fa33_1, len35, fa114_0, fa114_1, fa114_2, fa124_0, fa124_1, len134]
  by_cases hx0 : (rul gm.rules i).2.getD j 0 ≥ 0
  case neg =>
    simp only [hx0, decide_false, zq18, zq19, zq20, zq21, zq22, zq23, zq24, zq25, zq26, zq27, zq28, zq4, zq3, zq1, zq2, zq0, zq29, zq30, zq14, zq15, zq16, zq17, zq13, zq10, zq12, zq11, zq7, zq5, zq6, zq9, zq8, zq31, zq32, ite_T, ite_F, zq33, zq34, zq35, Nat.reduceEqDiff, len22, len24, fa26_0, fa26_1, fa26_2, len27, fa33_0, fa33_1, len35, fa114_0, fa114_1, fa114_2, fa124_0, fa124_1, len134]
    refine hK _ _ ⟨h75, d53, g, h3, h9, ?_⟩
    rw [← ikeep hml hjlt (by rw [hre, renS, if_neg hx0])]
    exact o13
  simp only [hx0, decide_true, zq18, zq19, zq20, zq21, zq22, zq23, zq24, zq25, zq26, zq27, zq28, zq4, zq3, zq1, zq2, zq0, zq29, zq30, zq14, zq15, zq16, zq17, zq13, zq10, zq12, zq11, zq7, zq5, zq6, zq9, zq8, zq31, zq32, ite_T, ite_F, zq33, zq34, zq35, Nat.reduceEqDiff, len22, len24, fa26_0, fa26_1, fa26_2, len27, fa33_0, fa33_1, len35, fa114_0, fa114_1, fa114_2, fa124_0, fa124_1, len134]
  have gd := zfc_ w13
  have c4 := ((o13.gr gd).cell2 (j := i) (by omega)).2
  rw [hR] at c4
  dsimp only at c4
  rw [hil] at c4
  rw [zyb_ (h9.gr gd) rfl, zic_ (fun h => o13.ptr (by omega)) hlt]
  simp only [zq18, zq19, zq20, zq21, zq22, zq23, zq24, zq25, zq26, zq27, zq28, zq4, zq3, zq1, zq2, zq0, zq29, zq30, zq14, zq15, zq16, zq17, zq13, zq10, zq12, zq11, zq7, zq5, zq6, zq9, zq8, zq31, zq32, ite_T, ite_F, zq33, zq34, zq35, Nat.reduceEqDiff, len22, len24, fa26_0, fa26_1, fa26_2, len27, fa33_0, fa33_1, len35, fa114_0, fa114_1, fa114_2, fa124_0, fa124_1, len134]
  rw [zbc_]
  refine rdi (ld27 c4) ?_
  rw [show (rul gm.rules i).2.getD j 0 = ((((rul gm.rules i).2.getD j 0).toNat : Nat) : Int) from by omega]
  refine rdi (zcc_ hp (by omega)) ?_
  refine rdi (ld3 (((hV.gr g).gr gd).cell _ (by omega))) ?_
  refine rdi (zcc_ hip hjlt) ?_
  have oj : Own 3 w13.drew w.heap.size (ps i).1 (ps i).2 _ := oi.gr gd
  refine zuc_ sz3 rfl rfl oj (by omega) fun w14 g14 s14 r14 => ?_
  rw [ints_set] at r14
  have hv : to.getD ((rul gm.rules i).2.getD j 0).toNat 0 = ((rul gm.rules i).2.map (renS to)).getD j 0 := by rw [hre, renS, if_pos hx0]
  rw [hv, iset hml hjlt] at r14
  have o14 := (o13.gr gd).right (i := i) (ys := ((rul gm.rules i).2.map (renS to)).take (j + 1) ++ (rul gm.rules i).2.drop (j + 1)) (by decide) (by omega) (by rw [hR, hil, zag_ (k := j + 1) hml]) (by
    show Row _ _ _ _ _ _ _ _
    rw [zag_ (k := j + 1) hml, ← hil]
    exact r14) g14
  rw [hR, List.set_set] at o14
  refine hK _ _ ⟨h75, d53, zaf_ (zd_ g gd) g14 fun q hq => (Row.ge oj hq).1, (h3.gr gd).kept g14 (zrc_ (h3.gr gd) oj (by decide)), (h9.gr gd).kept g14 (zrc_ (h9.gr gd) oj (by decide)), o14⟩
end Go.Proofs.Ytegcjkhebecgbaa

namespace Go.Sh
open Go Go.WideMaps
section
variable {P : Program} {k : Value → World → Prop} {w0 w : World} {L : List Thing} {Good : Value → Value → Prop}
end
end Go.Sh
namespace Go.Proofs.Ytegcjkhebecgbaa
open Go Go.Sh Go.RowKit Go.WideMaps
open Go Go.Sh

open Go Go.Sh Go.RowKit
end Go.Proofs.Ytegcjkhebecgbaa

namespace Go.Sh
open Go
structure TabR (w : World) (X : Option Addr) (nons n m : Nat) (t : Nat → Nat → Nat → Nat → Nat) : Prop where
  ptr : 0 < nons → X = some (ad X)
  row : ∀ A, A < nons → ∃ Y c, w.cell? ((ad X).add A) = some (.slice Y (n * n) c) ∧ Y = some (ad Y) ∧ ∀ i j, i < n → j < n → ∃ Z z, w.cell? ((ad Y).add (i * n + j)) = some (.slice Z (m + 1) z) ∧ Z = some (ad Z) ∧ ∀ k, k ≤ m → w.cell? ((ad Z).add k) = some (.int .i64 (t A i j k))
theorem TabR.gr {w w' : World} {X : Option Addr} {nons n m : Nat} {t : Nat → Nat → Nat → Nat → Nat} (h : TabR w X nons n m t) (g : Gr w w') : TabR w' X nons n m t := ⟨h.ptr, fun A hA => by
  obtain ⟨Y, c, h1, h2, h3⟩ := h.row A hA
  refine ⟨Y, c, g.cell h1, h2, fun i j hi hj => ?_⟩
  obtain ⟨Z, z, h4, h5, h6⟩ := h3 i j hi hj
  exact ⟨Z, z, g.cell h4, h5, fun k hk => g.cell (h6 k hk)⟩⟩
end Go.Sh
namespace Go.Proofs.Ytegcjkhebecgbaa
open Go Go.Sh Go.RowKit
end Go.Proofs.Ytegcjkhebecgbaa

namespace Go.Sh
open Go
structure Fam (e : Nat) (w : World) (B : Nat) (ls : List (List Int)) (ps : Nat → Option Addr × Nat) : Prop where
  own : ∀ j, j < ls.length → Own e w B (ps j).1 (ps j).2 (rgt ls j)
  two : ∀ i j, i < ls.length → j < ls.length → i ≠ j → blk (ps i).1 = none ∨ blk (ps i).1 ≠ blk (ps j).1
def FootL (ps : Nat → Option Addr × Nat) (n q : Nat) : Prop := ∃ l, l < n ∧ blk (ps l).1 = some q
section
variable {e B B' : Nat} {w w' w0 : World} {ls : List (List Int)} {ps : Nat → Option Addr × Nat} {L : List Thing}
theorem Fam.same (h : Fam e w B ls ps) (hs : ∀ q, FootL ps ls.length q → w'.heap[q]? = w.heap[q]?) : Fam e w' B ls ps :=
  ⟨fun j hj => Row.same (h.own j hj) fun q hq => hs q ⟨j, hj, hq⟩, h.two⟩
theorem Fam.up (h : Fam e w B ls ps) (hs : ∀ q, FootL ps ls.length q → B' ≤ q) : Fam e w B' ls ps :=
  ⟨fun j hj => Row.up (h.own j hj) fun q hq => hs q ⟨j, hj, hq⟩, h.two⟩
theorem Fam.mono (h : Fam e w B ls ps) (hb : B' ≤ B) : Fam e w B' ls ps := ⟨fun j hj => Row.mono (h.own j hj) hb, h.two⟩
theorem Fam.foot (h : Fam e w B ls ps) {q : Nat} (hq : FootL ps ls.length q) : B ≤ q ∧ q < w.heap.size := by
  obtain ⟨l, hl, hq⟩ := hq
  exact Row.ge (h.own l hl) hq
end
end Go.Sh
namespace Go.Proofs.Ytegcjkhebecgbaa
open Go Go.Sh Go.RowKit
end Go.Proofs.Ytegcjkhebecgbaa

namespace Go.Sh
open Go
def idxT (n A i j : Nat) : Nat := A * (n * n) + (i * n + j)
theorem idxT_lt {nons n A i j : Nat} (hA : A < nons) (hi : i < n) (hj : j < n) : idxT n A i j < nons * (n * n) := by
  have h1 := zwf_ hi hj
  have h2 : (A + 1) * (n * n) ≤ nons * (n * n) := Nat.mul_le_mul_right _ hA
  rw [Nat.add_mul] at h2
  unfold idxT
  omega
theorem idxT_inj {n A i j A' i' j' : Nat} (hi : i < n) (hj : j < n) (hi' : i' < n) (hj' : j' < n) (h : idxT n A i j = idxT n A' i' j') : A = A' ∧ i = i' ∧ j = j' := by
  have h1 := zwf_ hi hj
  have h2 := zwf_ hi' hj'
  have hn : 0 < n := by omega
  have hnn : 0 < n * n := Nat.mul_pos hn hn
  unfold idxT at h
  have e1 : A = A' := by
    have := congrArg (· / (n * n)) h
    simp only [Nat.mul_comm _ (n * n), Nat.mul_add_div hnn, Nat.div_eq_of_lt h1, Nat.div_eq_of_lt h2, Nat.add_zero] at this
    exact this
  subst e1
  have h3 : i * n + j = i' * n + j' := by omega
  have e2 : i = i' := by
    have := congrArg (· / n) h3
    simp only [Nat.mul_comm _ n, Nat.mul_add_div hn, Nat.div_eq_of_lt hj, Nat.div_eq_of_lt hj', Nat.add_zero] at this
    exact this
  subst e2
  exact ⟨rfl, rfl, by omega⟩
theorem rgt_put {ls : List (List Int)} {i j : Nat} {l : List Int} (hi : i < ls.length) : rgt (ls.set i l) j = if j = i then l else rgt ls j := by
  simp only [rgt, List.getD_eq_getElem?_getD, List.getElem?_set]
  by_cases hij : i = j
  · subst hij
    simp [hi]
  · rw [if_neg hij, if_neg (fun e => hij e.symm)]
theorem getD_put {l : List Int} {i j : Nat} {x : Int} (hi : i < l.length) : (l.set i x).getD j 0 = if j = i then x else l.getD j 0 := by
  simp only [List.getD_eq_getElem?_getD, List.getElem?_set]
  by_cases hij : i = j
  · subst hij
    simp [hi]
  · rw [if_neg hij, if_neg (fun e => hij e.symm)]
structure LeafT (ls : List (List Int)) (nons n m : Nat) (t : Nat → Nat → Nat → Nat → Nat) : Prop where
  len : ls.length = nons * (n * n)
  row : ∀ A i j, A < nons → i < n → j < n → (rgt ls (idxT n A i j)).length = m + 1
  val : ∀ A i j k, A < nons → i < n → j < n → k ≤ m → (rgt ls (idxT n A i j)).getD k 0 = (t A i j k : Int)
theorem LeafT.congr {ls : List (List Int)} {nons n m : Nat} {t t' : Nat → Nat → Nat → Nat → Nat} (h : LeafT ls nons n m t) (he : ∀ A i j k, A < nons → i < n → j < n → k ≤ m → t' A i j k = t A i j k) : LeafT ls nons n m t' :=
  ⟨h.len, h.row, fun A i j k hA hi hj hk => by rw [h.val A i j k hA hi hj hk, he A i j k hA hi hj hk]⟩
theorem LeafT.put {ls : List (List Int)} {nons n m : Nat} {t t' : Nat → Nat → Nat → Nat → Nat} (h : LeafT ls nons n m t) {A i j k v : Nat} (hA : A < nons) (hi : i < n) (hj : j < n) (hk : k ≤ m) (h1 : t' A i j k = v)
    (h2 : ∀ A' i' j' k', A' < nons → i' < n → j' < n → k' ≤ m → ¬ (A' = A ∧ i' = i ∧ j' = j ∧ k' = k) → t' A' i' j' k' = t A' i' j' k') : LeafT (ls.set (idxT n A i j) ((rgt ls (idxT n A i j)).set k (v : Int))) nons n m t' := by
  have hlt : idxT n A i j < ls.length := by rw [h.len]; exact idxT_lt hA hi hj
  refine ⟨by rw [List.length_set]; exact h.len, fun A' i' j' hA' hi' hj' => ?_, fun A' i' j' k' hA' hi' hj' hk' => ?_⟩
  · rw [rgt_put hlt]
    split
    · rw [List.length_set]; exact h.row A i j hA hi hj
    · exact h.row A' i' j' hA' hi' hj'
  · rw [rgt_put hlt]
    split
    · rename_i he
      obtain ⟨rfl, rfl, rfl⟩ := idxT_inj hi' hj' hi hj he
      rw [getD_put (by rw [h.row _ _ _ hA hi hj]; omega)]
      split
      · rename_i hkk
        subst hkk
        rw [h1]
      · rename_i hkk
        rw [h.val _ _ _ _ hA hi hj hk', h2 _ _ _ _ hA hi hj hk' (fun hh => hkk hh.2.2.2)]
    · rename_i he
      rw [h.val _ _ _ _ hA' hi' hj' hk', h2 _ _ _ _ hA' hi' hj' hk' (fun hh => he (by rw [hh.1, hh.2.1, hh.2.2.1]))]
structure HeadT (hs : List (List Value)) (ps : Nat → Option Addr × Nat) (nons n m : Nat) : Prop where
  len : hs.length = nons
  row : ∀ A, A < nons → (vls hs A).length = n * n
  val : ∀ A p, A < nons → p < n * n → (vls hs A)[p]? = some (.slice (ps (A * (n * n) + p)).1 (m + 1) (ps (A * (n * n) + p)).2)
section
variable {e e1 e2 nons n m c B1 B2 : Nat} {w : World} {X : Option Addr} {hs : List (List Value)} {hp ps : Nat → Option Addr × Nat} {ls : List (List Int)} {t : Nat → Nat → Nat → Nat → Nat}
end
def keyV (a b c d : Nat) : Value := .agg #[.int .i64 (a : Int), .int .i64 (b : Int), .int .i64 (c : Int), .int .i64 (d : Int), .int .i64 0]
theorem keyV_inj {a b c d a' b' c' d' : Nat} (h : keyV a b c d = keyV a' b' c' d') : a = a' ∧ b = b' ∧ c = c' ∧ d = d' := by
  simp only [keyV, Value.agg.injEq, Array.mk.injEq, List.cons.injEq, Value.int.injEq, true_and, and_true, Int.natCast_inj] at h
  exact h
def GoodC (M : Nat) (rs : List RuleL) (ws : List Int) (key v : Value) : Prop :=
  ∃ q p i j s : Nat, q ≤ 16 ∧ p ≤ 4 ∧ i ≤ 10 ∧ j ≤ 10 ∧ s ≤ 20 ∧ key = keyV (q * 5 + p) i j s ∧ v = .int .i64 ((min M (cntR (cntC rs ws) ws ((rul rs q).2.drop p) i j s) : Nat) : Int)
theorem GoodC.get {M : Nat} {rs : List RuleL} {ws : List Int} {q p i j s : Nat} {v : Value} (hp : p ≤ 4) (h : GoodC M rs ws (keyV (q * 5 + p) i j s) v) : v = .int .i64 ((min M (cntR (cntC rs ws) ws ((rul rs q).2.drop p) i j s) : Nat) : Int) := by
  obtain ⟨q', p', i', j', s', h1, h2, h3, h4, h5, h6, rfl⟩ := h
  obtain ⟨e1, rfl, rfl, rfl⟩ := keyV_inj h6
  obtain ⟨rfl, rfl⟩ : q = q' ∧ p = p' := by omega
  rfl
end Go.Sh
namespace Go.Proofs.Ytegcjkhebecgbaa
open Go Go.Sh Go.RowKit Go.WideMaps
open Go Go.Sh

end Go.Proofs.Ytegcjkhebecgbaa

namespace Go.Sh
open Go
end Go.Sh
namespace Go.Proofs.Ytegcjkhebecgbaa
open Go Go.Sh Go.RowKit
section
variable {w : World} {k : Value → World → Prop} {Y : Option Addr} {cy : Nat} {gm : Gram}
end
end Go.Proofs.Ytegcjkhebecgbaa

namespace Go.Sh
open Go
end Go.Sh
namespace Go.Proofs.Ytegcjkhebecgbaa
open Go Go.Sh Go.RowKit
section
variable {w : World} {k : Value → World → Prop} {Y : Option Addr} {cy : Nat} {gm : Gram}
end
end Go.Proofs.Ytegcjkhebecgbaa

namespace Go.Sh
open Go
end Go.Sh
namespace Go.Proofs.Ytegcjkhebecgbaa
open Go Go.Sh Go.RowKit
section
variable {w : World} {k : Value → World → Prop} {Y : Option Addr} {cy : Nat} {gm : Gram}
end
end Go.Proofs.Ytegcjkhebecgbaa

namespace Go.Sh
open Go
end Go.Sh
namespace Go.Proofs.Ytegcjkhebecgbaa
open Go Go.Sh Go.RowKit
section
variable {w : World} {k : Value → World → Prop} {Y : Option Addr} {cy : Nat} {gm : Gram}
end
end Go.Proofs.Ytegcjkhebecgbaa

namespace Go.Sh
open Go
end Go.Sh
namespace Go.Proofs.Ytegcjkhebecgbaa
open Go Go.Sh Go.RowKit
section
variable {w : World} {k : Value → World → Prop} {Y : Option Addr} {cy : Nat} {gm : Gram}
end
end Go.Proofs.Ytegcjkhebecgbaa

namespace Go.Sh
open Go
section
variable {P : Program} {w : World} {k : Value → World → Prop} {B e sz n c m : Nat} {X : Option Addr} {cells : List Value}
theorem Row.cutS (h : Row w B e sz X n c cells) (hm : m ≤ n) : Row w B e sz X m c (cells.take (m * sz)) := by
  have hl := h.1
  have hms : m * sz ≤ n * sz := Nat.mul_le_mul_right sz hm
  rcases h.2 with ⟨h2, h3⟩ | ⟨g, cap, cur, e1, e2, e3, e4, e5, e6, e7⟩
  · subst h3
    rcases h.at_ with ⟨rfl, _, rfl⟩ | ⟨g, rfl, _⟩
    · obtain rfl : m = 0 := by omega
      rw [Nat.zero_mul, List.take_zero]
      exact Row.nil _ _ _ _
    · simp at h2
  · simp only [Value.slice.injEq] at e1
    obtain ⟨rfl, _, rfl⟩ := e1
    refine ⟨by rw [List.length_take]; omega, .inr ⟨g, c, cur, rfl, e2, e3, by omega, e5, e6, ?_⟩⟩
    rw [← e7, List.take_take, Nat.min_eq_left hms]
theorem zjr_ (zs : Array Value) (n : Nat) : (Builtin.zeroCells zs n).toList.length = n * zs.size := by simp [Builtin.zeroCells]
theorem zkr_ {zs : Array Value} (h : ∀ v ∈ zs.toList, v.oneCell' = true) (h0 : 0 < zs.size) (n : Nat) : ∀ v ∈ (Builtin.zeroCells zs n).toList, v.oneCell' = true := fun v hv => by
  simp only [Builtin.zeroCells, Array.toList_map, List.mem_map] at hv
  obtain ⟨i, _, rfl⟩ := hv
  have hlt := Nat.mod_lt i h0
  rw [getElem!_pos zs _ hlt]
  exact h _ (by simp)
theorem zmr_ {u t by' : Nat} {z : Value} {cs : List Bool} (hu : P.underlying u = some (.slice e)) (I : Inf P e z sz by') (hzs : z.cells.size = sz) (hsz : 0 < sz) (h1 : ∀ v ∈ z.cells.toList, v.oneCell' = true) (hO : Row w B e sz X n c cells) (hm : m ≤ n)
    (h : ∀ w', w.grownBy w' (blk X) → w'.heap.size = w.heap.size → Row w' B e sz X m c (cells.take (m * sz)) → k (.tuple #[]) w') :
    Do P (ze_ .clear #[u] t cs [.slice (sub X m c sz) (n - m) (c - m)]) k w := by
  by_cases hmn : m = n
  · subst hmn
    have e' : (ze_ .clear #[u] t cs [.slice (sub X m c sz) (m - m) (c - m)]).run P w = .ok (.value (.tuple #[])) w := by
      rw [Nat.sub_self]
      simp only [ze_, builtin, Sem.run_bind]
      unfold Builtin.clear_
      cases sub X m c sz <;> simp [Sem.run_bind, run_underlying hu, Result.andThen]
    rw [zje_ e']
    exact h w (zbf_ (Gr.refl w) _) rfl (hO.cutS (Nat.le_refl _))
  have hcap := hO.cap
  rcases hO.at_ with ⟨rfl, rfl, _⟩ | ⟨g, rfl, hb, hg⟩
  · omega
  have hlen := hO.len
  have hsub : sub (some (⟨g, 0, none⟩ : Addr)) m c sz = some ⟨g, m * sz, none⟩ := by
    unfold sub
    rw [if_neg (by omega), Option.map_some, zq34, Nat.zero_add]
  have hms : m * sz + (n - m) * sz = n * sz := by rw [← Nat.add_mul]; congr 1; omega
  have hzl := zjr_ z.cells (n - m)
  rw [hzs] at hzl
  obtain ⟨w', hr, hg', hb', hsz'⟩ := zri_ (P := P) (j := m * sz) (Builtin.zeroCells z.cells (n - m)).toList 0 cells w hO (by rw [hzl]; omega) (zkr_ h1 (by omega) _)
  have e' : (ze_ .clear #[u] t cs [.slice (sub (some (⟨g, 0, none⟩ : Addr)) m c sz) (n - m) (c - m)]).run P w = .ok (.value (.tuple #[])) w' := by
    rw [hsub]
    obtain ⟨p, hp⟩ : ∃ p, n - m = p + 1 := ⟨n - m - 1, by omega⟩
    rw [hp] at hr ⊢
    obtain ⟨i, hi, hz, _, _⟩ := I
    have e0 : (zeroValue e).run P w = .ok z w := by simp [zeroValue, ztf_ hi, hz]
    simp only [ze_, builtin, Sem.run_bind]
    unfold Builtin.clear_
    simp [Sem.run_bind, run_underlying hu, Result.andThen, e0, hr]
  rw [zje_ e']
  refine h w' hg' hsz' ?_
  have := Row.cutS hb' hm
  rwa [Nat.add_zero, List.append_assoc, List.take_append_of_le_length (by rw [List.length_take, hlen]; have := Nat.mul_le_mul_right sz hm; omega), List.take_take, Nat.min_self] at this
end
section
variable {F : Nat → Prop} {w : World} {rs : List RuleL} {cells : List Value}
theorem RuleCells.take (h : RuleCells F w rs cells) : ∀ m, RuleCells F w (rs.take m) (cells.take (m * 2)) := by
  induction h with
  | nil => intro m; rw [List.take_nil, List.take_nil]; exact .nil
  | @cons r rs Y c cells h1 h2 _ ih =>
    intro m
    cases m with
    | zero => exact .nil
    | succ m =>
      rw [show (m + 1) * 2 = m * 2 + 1 + 1 from by omega]
      exact .cons h1 h2 (ih m)
theorem RuleCells.set {r : RuleL} {Y : Option Addr} {d : Nat} (h : RuleCells F w rs cells) (hd : r.2.length ≤ d) (hY : IntsF F w Y r.2) : ∀ j, j < rs.length → RuleCells F w (rs.set j r) (cells.take (j * 2) ++ [.int .i64 r.1, .slice Y r.2.length d] ++ cells.drop (j * 2 + 2)) := by
  induction h with
  | nil => intro j hj; simp at hj
  | @cons q rs Z c cells h1 h2 h3 ih =>
    intro j hj
    cases j with
    | zero => exact .cons hd hY h3
    | succ j =>
      have := ih j (by simpa using hj)
      rw [show (j + 1) * 2 = j * 2 + 1 + 1 from by omega]
      exact .cons h1 h2 this
end
end Go.Sh
namespace Go.Proofs.Ytegcjkhebecgbaa
open Go Go.Sh Go.RowKit
section
variable {w0 w : World} {L : List Thing} {k : Value → World → Prop}
end
end Go.Proofs.Ytegcjkhebecgbaa

namespace Go.Sh.X
open Go Go.Proofs.YtegcjkhebecgbaaW.PrintLast

inductive Steps where
  | nil
  | step (i : Nat) (kd : Kd) (r : Steps)
  | fork (i : Nat) (a : Steps) (j : Nat) (b : Steps)
  | fork3 (i : Nat) (a : Steps) (j : Nat) (b : Steps) (m : Nat) (c : Steps)
structure Plan where
  gen : Bool
  ds : List Nat
  steps : Steps

def stepsOK (ops : Array Oper) (ds : List Nat) : Steps → Nat → Array Bool → Bool → Bool
  | .nil, n, l, _ => (n == 0) && (Region.ready .any ops l == [])
  | .step _ _ _, 0, _, _ => false
  | .step i .any r, n + 1, l, s => zcd_ ops i && anyB .any ops l (l.setIfInBounds i true) i && stepsOK ops ds r n (l.setIfInBounds i true) s
  | .step i .held r, n + 1, l, s => s && zcd_ ops i && takeB .any ops ds l (l.setIfInBounds i true) i && stepsOK ops ds r n (l.setIfInBounds i true) s
  | .step i .one r, n + 1, l, s => s && !ds.contains i && (Region.ready .any ops l == [i]) && stepsOK ops ds r n (l.setIfInBounds i true) s
  | .step i .last r, n + 1, l, s => !zcd_ ops i && ds.contains i && (Region.ready .any ops l == [i]) && stepsOK ops ds r n (l.setIfInBounds i true) false
  | .fork _ _ _ _, 0, _, _ => false
  | .fork i a j b, n + 1, l, s => s && !ds.contains i && !ds.contains j && (Region.ready .any ops l == [i, j]) && stepsOK ops ds a n (l.setIfInBounds i true) s && stepsOK ops ds b n (l.setIfInBounds j true) s
  | .fork3 _ _ _ _ _ _, 0, _, _ => false
  | .fork3 i a j b m c, n + 1, l, s => s && !ds.contains i && !ds.contains j && !ds.contains m && (Region.ready .any ops l == [i, j, m]) && stepsOK ops ds a n (l.setIfInBounds i true) s && stepsOK ops ds b n (l.setIfInBounds j true) s && stepsOK ops ds c n (l.setIfInBounds m true) s
def planOK (ops : Array Oper) (p : Plan) : Bool := stepsOK ops p.ds p.steps ops.size (Array.replicate ops.size false) true

def stepsK (P : Program) (ops : List Oper) (S : WS) : Steps → F → (F → World → Prop) → World → Prop
  | .nil, f, k, w => k f w
  | .step i kd r, f, k, w =>
    match ops[i]? with
    | none => False
    | some o =>
      match kd with
      | .any => zkd_ P WS.any ops f o (fun v w' => stepsK P ops S r (f.put o.dst v) k w') w
      | .held => zkd_ P S ops f o (fun v w' => stepsK P ops S r (f.put o.dst v) k w') w
      | .one => zkd_ P S ops f o (fun v w' => S.S w' ∧ stepsK P ops S r (f.put o.dst v) k w') w
      | .last => zkd_ P S ops f o (fun v w' => stepsK P ops S r (f.put o.dst v) k w') w
  | .fork i a j b, f, k, w =>
    match ops[i]?, ops[j]? with
    | some o, some u => zkd_ P S ops f o (fun v w' => S.S w' ∧ stepsK P ops S a (f.put o.dst v) k w') w ∧ zkd_ P S ops f u (fun v w' => S.S w' ∧ stepsK P ops S b (f.put u.dst v) k w') w
    | _, _ => False
  | .fork3 i a j b m c, f, k, w =>
    match ops[i]?, ops[j]?, ops[m]? with
    | some o, some u, some x => zkd_ P S ops f o (fun v w' => S.S w' ∧ stepsK P ops S a (f.put o.dst v) k w') w ∧ zkd_ P S ops f u (fun v w' => S.S w' ∧ stepsK P ops S b (f.put u.dst v) k w') w ∧ zkd_ P S ops f x (fun v w' => S.S w' ∧ stepsK P ops S c (f.put x.dst v) k w') w
    | _, _, _ => False
def drawK (P : Program) (ops : List Oper) (p : Plan) (f : F) (k : F → World → Prop) (w : World) : Prop :=
  bif p.gen then ∃ S : World → Prop, ∃ h : S w, stepsK P ops ⟨S, w, h⟩ p.steps f k w
  else stepsK P ops (WS.at w) p.steps f k w

theorem stepsK_sound {P : Program} {ops : Array Oper} {n : Nat} {W : List Nat} {k : F → World → Prop} {Q : Exit → Act → World → Prop} {f0 : F} {S : WS} {ds : List Nat}
    (hQ : ∀ f a w, Fits n f a → Agree W f0 f → k f w → Q .normal a w) (hP : ∀ c a w, ¬ Q (.panic c) a w) (hW : ∀ d ∈ W, d < n) (hD : ∀ d ∈ dsts ops.toList, d ∈ W) :
    ∀ (steps : Steps) (m : Nat) (l : Array Bool) (s : Bool) (f : F) (a : Act) (w : World), stepsOK ops ds steps m l s = true → (s = true → S.S w) → Fits n f a → Agree W f0 f →
      stepsK P ops.toList S steps f k w → wpAnyLast P .any ops Q S.S ds m l a w := by
  have hdst : ∀ {i : Nat} {o : Oper}, ops[i]? = some o → ∀ d, o.dst = some d → d ∈ W := fun {i o} ho d e => hD d (List.mem_filterMap.2 ⟨o, by
    rw [← Array.getElem?_toList] at ho
    exact List.mem_of_getElem? ho, e⟩)
  have hone : ∀ {i m : Nat} {o : Oper} {r : Steps} {l : Array Bool} {s : Bool} {f : F} {a : Act} {w : World}, ops[i]? = some o → s = true → (s = true → S.S w) → Fits n f a → Agree W f0 f → stepsOK ops ds r m (l.setIfInBounds i true) s = true →
      zkd_ P S ops.toList f o (fun v w' => S.S w' ∧ stepsK P ops.toList S r (f.put o.dst v) k w') w →
      (∀ (l : Array Bool) (s : Bool) (f : F) (a : Act) (w : World), stepsOK ops ds r m l s = true → (s = true → S.S w) → Fits n f a → Agree W f0 f → stepsK P ops.toList S r f k w → wpAnyLast P .any ops Q S.S ds m l a w) →
      wpOp P ops Q i (fun a' w' => (i ∉ ds → S.S w → S.S w') ∧ wpAnyLast P .any ops Q S.S ds m (l.setIfInBounds i true) a' w') a w := by
    intro i m o r l s f a w ho hs1 hs hf ha hok h ih
    unfold wpOp
    simp only [ho]
    have go : ∀ v w', S.S w' → stepsK P ops.toList S r (f.put o.dst v) k w' → wpAnyLast P .any ops Q S.S ds m (l.setIfInBounds i true) (a.put o.dst v) w' :=
      fun v w' h2 h3 => ih _ s _ _ _ hok (fun _ => h2) (hf.put _ (fun d e => hW d (hdst ho d e)) v) (ha.put _ (hdst ho) v) h3
    rcases ztc_ hf h with ⟨hw, h'⟩ | ⟨hw, h'⟩
    · rw [if_pos hw]
      exact .inl (zdh_ (fun _ => hs hs1) hf.ev h' fun v w' hk => ⟨fun _ _ => hk.1, go v w' hk.1 hk.2⟩)
    · rw [if_neg (by simp [hw])]
      exact ⟨fun _ _ => h'.1, go undef w h'.1 h'.2⟩
  intro steps
  induction steps with
  | nil =>
    intro m l s f a w hok _ hf ha h
    simp only [stepsOK, Bool.and_eq_true, beq_iff_eq] at hok
    obtain ⟨rfl, hok⟩ := hok
    exact ⟨hok, hQ f a w hf ha h⟩
  | fork i x j y ihx ihy =>
    intro m l s f a w hok hs hf ha h
    cases m with
    | zero => simp [stepsOK] at hok
    | succ m =>
    simp only [stepsOK, Bool.and_eq_true] at hok
    obtain ⟨⟨⟨⟨⟨h0, h1⟩, h2⟩, h3⟩, h4⟩, h5⟩ := hok
    have h3' : Region.ready .any ops l = [i, j] := by simpa using h3
    unfold stepsK at h
    split at h
    · rename_i o u ho hu
      rw [Array.getElem?_toList] at ho hu
      refine wpAnyLast_all h3' (by simp) fun e he => ?_
      have : e = i ∨ e = j := by simpa using he
      rcases this with rfl | rfl
      · exact hone ho h0 hs hf ha h4 h.1 fun l s f a w => ihx m l s f a w
      · exact hone hu h0 hs hf ha h5 h.2 fun l s f a w => ihy m l s f a w
    · exact h.elim
  | fork3 i x j y t z ihx ihy ihz =>
    intro m l s f a w hok hs hf ha h
    cases m with
    | zero => simp [stepsOK] at hok
    | succ m =>
    simp only [stepsOK, Bool.and_eq_true] at hok
    obtain ⟨⟨⟨⟨⟨⟨⟨h0, h1⟩, h2⟩, h2'⟩, h3⟩, h4⟩, h5⟩, h6⟩ := hok
    have h3' : Region.ready .any ops l = [i, j, t] := by simpa using h3
    unfold stepsK at h
    split at h
    · rename_i o u v ho hu hv
      rw [Array.getElem?_toList] at ho hu hv
      refine wpAnyLast_all h3' (by simp) fun e he => ?_
      have : e = i ∨ e = j ∨ e = t := by simpa using he
      rcases this with rfl | rfl | rfl
      · exact hone ho h0 hs hf ha h4 h.1 fun l s f a w => ihx m l s f a w
      · exact hone hu h0 hs hf ha h5 h.2.1 fun l s f a w => ihy m l s f a w
      · exact hone hv h0 hs hf ha h6 h.2.2 fun l s f a w => ihz m l s f a w
    · exact h.elim
  | step i kd r ih =>
    intro m l s f a w hok hs hf ha h
    cases m with
    | zero => simp [stepsOK] at hok
    | succ m =>
    unfold stepsK at h
    split at h
    · exact h.elim
    · rename_i o ho
      rw [Array.getElem?_toList] at ho
      have hod : ∀ d, o.dst = some d → d ∈ W := hdst ho
      have hq : zcd_ ops i = true → zif_ o.op = true := fun h => by simpa [zcd_, ho] using h
      have go : ∀ v w' s', stepsOK ops ds r m (l.setIfInBounds i true) s' = true → (s' = true → S.S w') → stepsK P ops.toList S r (f.put o.dst v) k w' → wpAnyLast P .any ops Q S.S ds m (l.setIfInBounds i true) (a.put o.dst v) w' :=
        fun v w' s' h1 h2 h3 => ih _ _ s' _ _ _ h1 h2 (hf.put _ (fun d e => hW d (hod d e)) v) (ha.put _ hod v) h3
      cases kd with
      | any =>
        simp only [stepsOK, Bool.and_eq_true] at hok
        obtain ⟨⟨h1, h2⟩, h3⟩ := hok
        simp only at h
        have hy : ∃ v, Yields P ops o v a ∧ stepsK P ops.toList S r (f.put o.dst v) k w := by
          rcases ztc_ hf h with ⟨hw, h'⟩ | ⟨hw, h'⟩
          · obtain ⟨v, hv, hk⟩ := zbg_ (hq h1) h'
            exact ⟨v, .inl ⟨hw, fun w' => by rw [hf.ev]; exact hv w' trivial⟩, hk⟩
          · exact ⟨undef, .inr ⟨hw, rfl⟩, h'⟩
        obtain ⟨v, hy, hk⟩ := hy
        exact pure_ _ ho rfl h2 (fun c a w hq => absurd hq (hP c _ w)) hy rfl (go v w s h3 hs hk)
      | held =>
        simp only [stepsOK, Bool.and_eq_true] at hok
        obtain ⟨⟨⟨h0, h1⟩, h2⟩, h3⟩ := hok
        simp only at h
        have hy : ∃ v, YieldsIf P ops S.S o v a ∧ stepsK P ops.toList S r (f.put o.dst v) k w := by
          rcases ztc_ hf h with ⟨hw, h'⟩ | ⟨hw, h'⟩
          · obtain ⟨v, hv, hk⟩ := zbg_ (hq h1) h'
            exact ⟨v, .inl ⟨hw, fun w' hw' => by rw [hf.ev]; exact hv w' hw'⟩, hk⟩
          · exact ⟨undef, .inr ⟨hw, rfl⟩, h'⟩
        obtain ⟨v, hy, hk⟩ := hy
        exact take_ _ ho rfl h2 (fun c a w hq => absurd hq (hP c _ w)) hy (hs h0) rfl (go v w s h3 hs hk)
      | one =>
        simp only [stepsOK, Bool.and_eq_true] at hok
        obtain ⟨⟨⟨h0, h1⟩, h2⟩, h3⟩ := hok
        simp only at h
        have h2' : Region.ready .any ops l = [i] := by simpa using h2
        refine wpAnyLast_all h2' (by simp) fun j hj => ?_
        have hji : j = i := by simpa using hj
        subst hji
        unfold wpOp
        simp only [ho]
        rcases ztc_ hf h with ⟨hw, h'⟩ | ⟨hw, h'⟩
        · rw [if_pos hw]
          exact .inl (zdh_ (fun _ => hs h0) hf.ev h' fun v w' hk => ⟨fun _ _ => hk.1, go v w' s h3 (fun _ => hk.1) hk.2⟩)
        · rw [if_neg (by simp [hw])]
          exact ⟨fun _ _ => h'.1, go undef w s h3 (fun _ => h'.1) h'.2⟩
      | last =>
        simp only [stepsOK, Bool.and_eq_true] at hok
        obtain ⟨⟨⟨h0, h1⟩, h2⟩, h3⟩ := hok
        simp only at h
        have hnq : zif_ o.op = true → S.S w := fun e => by simp [zcd_, ho, e] at h0
        have h2' : Region.ready .any ops l = [i] := by simpa using h2
        have hid : i ∈ ds := by simpa using h1
        refine wpAnyLast_all h2' (by simp) fun j hj => ?_
        have hji : j = i := by simpa using hj
        subst hji
        unfold wpOp
        simp only [ho]
        rcases ztc_ hf h with ⟨hw, h'⟩ | ⟨hw, h'⟩
        · rw [if_pos hw]
          refine .inl (zdh_ hnq hf.ev h' fun v w' hk => ⟨fun hn => absurd hid hn, go v w' false h3 (fun h => by cases h) hk⟩)
        · rw [if_neg (by simp [hw])]
          exact ⟨fun hn => absurd hid hn, go undef w false h3 (fun h => by cases h) h'⟩

theorem plan_sound {P : Program} {ops : Array Oper} {n : Nat} {W : List Nat} {k : F → World → Prop} {Q : Exit → Act → World → Prop} {id : Nat} {p : Plan} {f : F} {a : Act} {w : World} (hm : P.follows .mixedOrders = true)
    (hQ : ∀ f' a w, Fits n f' a → Agree W f f' → k f' w → Q .normal a w) (hP : ∀ c a w, ¬ Q (.panic c) a w) (hW : ∀ d ∈ W, d < n) (hD : ∀ d ∈ dsts ops.toList, d ∈ W)
    (hok : planOK ops p = true) (hf : Fits n f a) (h : drawK P ops.toList p f k w.drew) : (Code.region id ops true).wp P Q a w := by
  unfold planOK at hok
  unfold drawK at h
  cases hg : p.gen <;> rw [hg] at h
  · refine wp_region_last (S := (WS.at w.drew).S) (ds := p.ds) hm ?_
    exact stepsK_sound (S := WS.at w.drew) hQ hP hW hD p.steps _ _ true f a _ hok (fun _ => rfl) hf (Agree.refl _ _) h
  · obtain ⟨S, hS, h⟩ := h
    refine wp_region_last (S := S) (ds := p.ds) hm ?_
    exact stepsK_sound (S := ⟨S, w.drew, hS⟩) hQ hP hW hD p.steps _ _ true f a _ hok (fun _ => hS) hf (Agree.refl _ _) h

def Plans := Nat → Plan

def wpF (P : Program) (pl : Plans) : Code → (Exit → F → World → Prop) → F → World → Prop
  | .skip, Q, f, w => Q .normal f w
  | .region _ ops false, Q, f, w => opsK P ops.toList ops.toList f (fun f w => Q .normal f w) w
  | .region id ops true, Q, f, w => drawK P ops.toList (pl id) f (fun f w => Q .normal f w) w.drew
  | .seq a b, Q, f, w => wpF P pl a (seqQ (wpF P pl b Q) Q) f w
  | .cond c a b, Q, f, w => zm_ (f.ev c) (wpF P pl a Q f w) (wpF P pl b Q f w)
  | .block id b, Q, f, w => wpF P pl b (zx_ id Q) f w
  | .loop b, Q, f, w => zrb_ (wr b) (wpF P pl b) Q f w
  | .exit id, Q, f, w => Q (.exit id) f w
  | .ret, Q, f, w => Q .ret f w
  | _, _, _, _ => False

def plansOK (pl : Plans) : Code → Bool
  | .region id ops true => planOK ops (pl id)
  | .seq a b => plansOK pl a && plansOK pl b
  | .cond _ a b => plansOK pl a && plansOK pl b
  | .block _ b => plansOK pl b
  | .loop b => plansOK pl b
  | _ => true

theorem wpF_sound {P : Program} {pl : Plans} (hm : P.follows .mixedOrders = true) {n : Nat} : ∀ (c : Code), (∀ d ∈ wr c, d < n) → plansOK pl c = true → ∀ (Q : Exit → F → World → Prop), NoPanic Q → ∀ (f : F) (w : World) (a : Act),
    wpF P pl c Q f w → Fits n f a → c.wp P (fun e a' w' => ∃ f', Fits n f' a' ∧ Q e f' w' ∧ Agree (wr c) f f') a w := by
  intro c
  induction c with
  | skip => intro _ _ Q _ f w a h hf; exact wp_skip ⟨f, hf, h, Agree.refl _ _⟩
  | exit id => intro _ _ Q _ f w a h hf; exact wp_exit ⟨f, hf, h, Agree.refl _ _⟩
  | ret => intro _ _ Q _ f w a h hf; exact wp_ret ⟨f, hf, h, Agree.refl _ _⟩
  | region id ops draw =>
    intro hW hok Q hQ f w a h hf
    cases draw with
    | false =>
      refine wp_region ?_
      have := zam_ (W := wr (.region id ops false)) (f0 := f) (Q := fun e a' w' => ∃ f', Fits n f' a' ∧ Q e f' w' ∧ Agree (wr (.region id ops false)) f f') (k := fun f w => Q .normal f w)
        (fun f' a w h1 h2 h3 => ⟨f', h1, h3, h2⟩) hW ops.toList [] f a w rfl (fun d hd => hd) hf (Agree.refl _ _) h
      simpa [List.range_eq_range'] using this
    | true =>
      exact plan_sound (W := wr (.region id ops true)) (Q := fun e a' w' => ∃ f', Fits n f' a' ∧ Q e f' w' ∧ Agree (wr (.region id ops true)) f f') hm
        (fun f' a w h1 h2 h3 => ⟨f', h1, h3, h2⟩) (fun c a w ⟨f', _, h, _⟩ => hQ _ _ _ h) hW (fun d hd => hd) hok hf h
  | seq x y ihx ihy =>
    intro hW hok Q hQ f w a h hf
    simp only [plansOK, Bool.and_eq_true] at hok
    have hx := ihx (fun d hd => hW d (List.mem_append_left _ hd)) hok.1 (seqQ (wpF P pl y Q) Q) (fun c f w h => hQ c f w h) f w a h hf
    refine wp_seq (wp_mono hx fun e a' w' ⟨f', hf', hq, hag⟩ => ?_)
    cases e with
    | normal =>
      exact wp_mono (ihy (fun d hd => hW d (List.mem_append_right _ hd)) hok.2 Q hQ f' w' a' hq hf') fun e a'' w'' ⟨f'', h1, h2, h3⟩ =>
        ⟨f'', h1, h2, (hag.sub (fun s hs => List.mem_append_left _ hs)).trans (h3.sub fun s hs => List.mem_append_right _ hs)⟩
    | _ => exact ⟨f', hf', hq, hag.sub fun s hs => List.mem_append_left _ hs⟩
  | cond c x y ihx ihy =>
    intro hW hok Q hQ f w a h hf
    simp only [plansOK, Bool.and_eq_true] at hok
    simp only [wpF, zm_] at h
    split at h
    · rename_i b hb
      have hc : a.eval c = .bool b := by rw [hf.ev]; exact hb
      refine wp_cond hc ?_
      cases b
      · exact wp_mono (ihy (fun d hd => hW d (List.mem_append_right _ hd)) hok.2 Q hQ f w a h hf) fun e a' w' ⟨f', h1, h2, h3⟩ => ⟨f', h1, h2, h3.sub fun s hs => List.mem_append_right _ hs⟩
      · exact wp_mono (ihx (fun d hd => hW d (List.mem_append_left _ hd)) hok.1 Q hQ f w a h hf) fun e a' w' ⟨f', h1, h2, h3⟩ => ⟨f', h1, h2, h3.sub fun s hs => List.mem_append_left _ hs⟩
    · exact h.elim
  | block id b ih =>
    intro hW hok Q hQ f w a h hf
    refine wp_block (wp_mono (ih hW hok (zx_ id Q) (fun c f w h => hQ c f w h) f w a h hf) fun e a' w' ⟨f', h1, h2, h3⟩ => ?_)
    cases e with
    | exit i =>
      show if i = id then _ else _
      simp only [zx_] at h2
      by_cases hi : i = id
      · subst hi
        rw [if_pos rfl]
        rw [show Nat.beq i i = true from Nat.beq_refl i] at h2
        exact ⟨f', h1, h2, h3⟩
      · rw [if_neg hi]
        have hb : Nat.beq i id = false := by
          cases h' : Nat.beq i id
          · rfl
          · exact absurd (Nat.eq_of_beq_eq_true h') hi
        rw [hb] at h2
        exact ⟨f', h1, h2, h3⟩
    | _ => exact ⟨f', h1, h2, h3⟩
  | loop b ih =>
    intro hW hok Q hQ f w a h hf
    obtain ⟨I, μ, h0, hr⟩ := h
    have hex : ∃ μ' : Act → World → Nat, ∀ f' a' w', Fits n f' a' → μ' a' w' = μ f' w' := ⟨fun a' w' => μ (fun t => a'.tmps.getD t undef) w', fun f' a' w' hf' => by
      have : (fun t => a'.tmps.getD t undef) = f' := funext hf'.eq
      show μ (fun t => a'.tmps.getD t undef) w' = μ f' w'
      rw [this]⟩
    obtain ⟨μ', hμ⟩ := hex
    refine wp_loop (fun a' w' => ∃ f', Fits n f' a' ∧ Agree (wr b) f f' ∧ I f' w') μ' ⟨f, hf, Agree.refl _ _, h0⟩ ?_
    rintro a1 w1 ⟨f1, hf1, hag1, hI1⟩
    refine wp_mono (ih hW hok (seqQ (fun f' w' => I f' w' ∧ μ f' w' < μ f1 w1) Q) (fun c f w h => hQ c f w h) f1 w1 a1 (hr f1 w1 hag1 hI1) hf1) fun e a' w' ⟨f', h1, h2, h3⟩ => ?_
    cases e with
    | normal => exact ⟨⟨f', h1, hag1.trans h3, h2.1⟩, by rw [hμ f' a' w' h1, hμ f1 a1 w1 hf1]; exact h2.2⟩
    | _ => exact ⟨f', h1, h2, hag1.trans h3⟩
  | _ => intro _ _ Q _ f w a h hf; exact h.elim

theorem call_of_wpF {P : Program} {pl : Plans} {g : FuncId} {fn : Func} {c : Code} {args : List Value} {w : World} {k : Value → World → Prop} (hm : P.follows .mixedOrders = true)
    (hg : P.funcs[g]? = some fn) (hb : fn.body = some c) (hn : (fn.name == "runtime.NumGoroutine") = false) (hl : args.length ≤ fn.ntmps) (hw : (wr c).all (fun d => Nat.blt d fn.ntmps) = true) (hp : plansOK pl c = true)
    (h : wpF P pl c (zr_ P fn.results.toList k) (zp_ args) w) : CallK P g args k w := by
  refine ⟨⟨fn, hg, by simp [hb], hn⟩, calls_of_wp hg hb ?_⟩
  have hfit : Fits fn.ntmps (zp_ args) { tmps := args.toArray ++ Array.replicate (fn.ntmps - args.toArray.size) undef, defers := [] } := by
    refine ⟨by simp; omega, rfl, fun t => ?_⟩
    simp only [zp_, Array.getD_eq_getD_getElem?, List.getD_eq_getElem?_getD]
    rw [Array.getElem?_append]
    split
    · simp
    · rename_i hlt
      simp only [List.size_toArray] at hlt
      rw [List.getElem?_eq_none (by omega), Array.getElem?_replicate]
      split <;> rfl
  refine wp_mono (wpF_sound hm c (fun d hd => by simpa using List.all_eq_true.1 hw d hd) hp _ (fun _ _ _ h => h) _ w _ h hfit) fun e a' w' ⟨f', h1, h2, _⟩ => ?_
  have key : resK P fn.results.toList f' [] (oneOf k) w' → bodyPost P fn (retK k) .ret a' w' := fun hr => by
    obtain ⟨vs, hv, hk⟩ := resK_run _ _ hr
    refine ⟨h1.defers, if h : vs.length = 1 then vs[0] else .tuple vs.toArray, ?_, ?_⟩
    · unfold results
      rw [Array.mapM_eq_mapM_toList]
      simp only [h1.eq, Sem.run_bind, Sem.run_map]
      erw [hv]
      simp
    · simp only [List.nil_append] at hk
      show k _ w'
      match vs, hk with
      | [], hk => exact hk
      | [v], hk => exact hk
      | _ :: _ :: _, hk => exact hk
  cases e with
  | normal => exact key h2
  | ret => exact key h2
  | _ => exact h2.elim

end Go.Sh.X

namespace Go.Proofs.Ytegcjkhebecgbaa
open Go Go.Sh

end Go.Proofs.Ytegcjkhebecgbaa

namespace Go.Sh
open Go
end Go.Sh
namespace Go.Proofs.Ytegcjkhebecgbaa
open Go Go.Sh Go.RowKit
section
variable {w0 w : World} {k : Value → World → Prop}
end
end Go.Proofs.Ytegcjkhebecgbaa

namespace Go.Sh
open Go
theorem RuleCells.of_cell {F : Nat → Prop} {w : World} : ∀ {rs : List RuleL} {cells : List Value}, cells.length = rs.length * 2 → (∀ j, j < rs.length → ∃ Y d, cells[j * 2]? = some (.int .i64 (rul rs j).1) ∧ cells[j * 2 + 1]? = some (.slice Y (rul rs j).2.length d) ∧ (rul rs j).2.length ≤ d ∧ IntsF F w Y (rul rs j).2) → RuleCells F w rs cells
  | [], cells, hl, _ => by
    obtain rfl : cells = [] := List.eq_nil_of_length_eq_zero (by simpa using hl)
    exact .nil
  | r :: rs, [], hl, _ => by simp at hl
  | r :: rs, [a], hl, _ => by simp at hl; omega
  | r :: rs, a :: b :: cells, hl, h => by
    obtain ⟨Y, d, h1, h2, h3, h4⟩ := h 0 (by simp)
    obtain rfl := Option.some.inj h1
    obtain rfl := Option.some.inj h2
    refine .cons h3 h4 (RuleCells.of_cell (by simp at hl; omega) fun j hj => ?_)
    obtain ⟨Z, e, a1, a2, a3, a4⟩ := h (j + 1) (by simpa using hj)
    have er : rul (r :: rs) (j + 1) = rul rs j := by simp [rul]
    rw [er] at a1 a2 a3 a4
    refine ⟨Z, e, ?_, ?_, a3, a4⟩
    · rw [show (j + 1) * 2 = j * 2 + 1 + 1 from by omega] at a1
      simpa using a1
    · rw [show (j + 1) * 2 + 1 = j * 2 + 1 + 1 + 1 from by omega] at a2
      simpa using a2
theorem OwnR.cellsG {e1 e2 : Nat} {w : World} {B c : Nat} {X : Option Addr} {rs : List RuleL} {ps : Nat → Option Addr × Nat} (h : OwnR e1 e2 w B X c rs ps) (he : e1 ≠ e2) : ∃ cells, Row w B e1 2 X rs.length c cells ∧ RuleCells (fun q => B ≤ q ∧ blk X ≠ some q) w rs cells := by
  obtain ⟨⟨cells, hr, hc⟩, ho, ht⟩ := h
  refine ⟨cells, hr, RuleCells.of_cell hr.len fun j hj => ?_⟩
  obtain ⟨h1, h2⟩ := hc j hj
  refine ⟨_, _, h1, h2, (Row.cap (ho j hj)).1, ⟨Own.ints (ho j hj), fun hp => ?_⟩⟩
  have hb : blk (ps j).1 = some (ad (ps j).1).block := by
    have hq : (ps j).1 = some (ad (ps j).1) := Row.ptr (ho j hj) hp
    rw [hq]
    rfl
  refine ⟨((ho j hj).ge hb).1, fun e => ?_⟩
  rcases zue_ hr (ho j hj) he with h | h
  · rw [h] at e; cases e
  · exact h (e.trans hb.symm)
end Go.Sh
namespace Go.Proofs.Ytegcjkhebecgbaa
open Go Go.Sh Go.RowKit
section
variable {w : World} {k : Value → World → Prop}
end
open Go Go.Sh

def pl245 : Plans := fun i => match i with
  | 5 => ⟨false, [6], .step 0 .any (.step 1 .any (.step 2 .any (.step 3 .any (.step 4 .any (.step 5 .any (.step 6 .last (.step 7 .any (.nil))))))))⟩
  | _ => ⟨false, [], .nil⟩
def S245 (v0 v1 v2 : Value) (k : Value → World → Prop) (w : World) : Prop :=
 Rd Try.prog (WS.at w) (ze_ .len #[24] 3 [false] [v0]) fun t1 =>
 Rd Try.prog (WS.at w) (zec_ 24 v0 (some v1) (some v2) (some t1)) fun t2 =>
 Rd Try.prog (WS.at w) (sBin .eql 3 false v1 v2) fun t3 =>
 zm_ t3
  (k v0 w)
  (Rd Try.prog (WS.at w) (ze_ .len #[24] 3 [false] [v0]) fun t4 =>
  Rd Try.prog WS.any (zec_ 24 v0 none (some v1) none) fun t5 =>
  Rd Try.prog WS.any (zec_ 24 v0 (some v2) none none) fun t6 =>
  Do Try.prog (ze_ .append #[24, 24] 24 [false, false] [t5, t6]) (fun t7 w8 =>
  Rd Try.prog (WS.at w8) (ze_ .len #[24] 3 [false] [t7]) fun t9 =>
  Rd Try.prog (WS.at w8) (zec_ 24 t7 (some t9) (some t4) none) fun t10 =>
  Do Try.prog (ze_ .clear #[24] 0 [false] [t10]) (fun _ w11 =>
  k t7 w11) w8) w.drew)
theorem body245 : Try.f245.body = some (zg_ Try.f245) := by kernel_rfl
theorem same245 (v0 v1 v2 : Value) (k : Value → World → Prop) (w : World) : wpF Try.prog pl245 (zg_ Try.f245) (zr_ Try.prog Try.f245.results.toList k) (zp_ [v0, v1, v2]) w = S245 v0 v1 v2 k w := by kernel_rfl
theorem enter245 {v0 v1 v2 : Value} {k : Value → World → Prop} {w : World} (h : S245 v0 v1 v2 k w) : CallK Try.prog 245 [v0, v1, v2] k w :=
  call_of_wpF (pl := pl245) mixed Try.func245 body245 (by kernel_rfl) (of_decide_eq_true (by kernel_rfl)) (by kernel_rfl) (by kernel_rfl) (Eq.mpr (same245 v0 v1 v2 k w) h)

end Go.Proofs.Ytegcjkhebecgbaa

namespace Go.Sh
open Go
section
variable {P : Program} {S : WS} {k : Value → Prop}
theorem run_slice3 {t e sz : Nat} (ht : P.underlying t = some (.slice e)) (hs : szOf P e sz) {X : Option Addr} {n c : Nat} {lo hi mx : Option Value} {l h m : Nat} {w : World}
    (hb : (Instr.sliceBounds true n c lo hi mx).run P w = .ok (l, h, m) w) : (Instr.sliceAt t (.slice X n c) lo hi mx).run P w = .ok (.slice (sub X l m sz) (h - l) (m - l)) w := by
  unfold Instr.sliceAt
  simp only [Sem.run_bind, run_underlying ht, Result.andThen]
  unfold Instr.slice
  simp only [Sem.run_bind, run_underlying ht, Result.andThen, hb, zxc_ hs]
  rfl
theorem rd_slice3 {t e sz : Nat} (ht : P.underlying t = some (.slice e)) (hs : szOf P e sz) {X : Option Addr} {n c : Nat} {kd kd' kd2 : IntKind} {l h m : Int} (h0 : 0 ≤ l) (h1 : l ≤ h) (h2 : h ≤ m) (h3 : m ≤ c) :
    Rd P S (zec_ t (.slice X n c) (some (.int kd l)) (some (.int kd' h)) (some (.int kd2 m))) k = k (.slice (sub X l.toNat m.toNat sz) (h.toNat - l.toNat) (m.toNat - l.toNat)) := zjc_ fun w _ => by
  simp only [zec_, Sem.run_bind]
  rw [run_slice3 ht hs (l := l.toNat) (h := h.toNat) (m := m.toNat)]
  · rfl
  · simp only [Instr.sliceBounds, Sem.run_bind, Sem.run_pure, Result.andThen, zgf_ (kd := kd2) (y := c) (by omega) h3, zgf_ (kd := kd') (i := h) (y := m.toNat) (by omega) (by omega), zgf_ (kd := kd) (y := h.toNat) h0 (by omega)]
end
section
variable {P : Program} {k : Value → World → Prop} {w : World}
theorem zct_ {t e u sz by' g : Nat} {z : Value} (ht : P.underlying t = some (.slice e)) (H : Inf P e z sz by')
    {cs : List Bool} {B n c p m d : Nat} {a : Addr} {cells news : List Value} (hO : Row w B e sz (some ⟨g, 0, none⟩) n c cells) (hp : p + m ≤ n) (hS : SrcQ w (some a) news) (hl : news.length = m * sz) (h1 : ∀ v ∈ news, v.oneCell' = true)
    (h : ∀ w', w.grownBy w' (some g) → w'.heap.size = w.heap.size → Row w' B e sz (some ⟨g, 0, none⟩) n c (cells.take (p * sz) ++ news ++ cells.drop (p * sz + news.length)) → k (.slice (some ⟨g, 0, none⟩) (p + m) c) w') : Do P (ze_ .append #[t, t] u cs [.slice (some ⟨g, 0, none⟩) p c, .slice (some a) m d]) k w := by
  obtain ⟨i, hi, hz, hsize, hby⟩ := H
  have hcap := hO.cap.1
  have hlen := hO.len
  have hms : p * sz + m * sz ≤ n * sz := by rw [← Nat.add_mul]; exact Nat.mul_le_mul_right sz hp
  obtain ⟨w', hr, hg, hrow, hsz⟩ := zri_ (P := P) (j := p * sz) news 0 cells w hO (by omega) h1
  have hc : ∀ j, j < news.length → (w.cell? ⟨g, 0 + p * i.size + j, none⟩).isSome = true := fun j hj => by
    have := hO.src.cell (p * sz + j) (cells[p * sz + j]'(by omega)) (by simp)
    rw [show (ad (some (⟨g, 0, none⟩ : Addr))).add (p * sz + j) = ⟨g, 0 + p * i.size + j, none⟩ from by
      show (⟨g, 0, none⟩ : Addr).add _ = _
      rw [zq34, hsize, Nat.add_assoc]] at this
    rw [this]
    rfl
  have hf : ∀ j, j < news.length → w.frozen? ⟨g, 0 + p * i.size + j, none⟩ = false := fun j hj => by
    rcases hO.2 with ⟨h2, _⟩ | ⟨g', cap, cur, e1, e2, e3, e4, e5, e6, e7⟩
    · simp at h2
    · simp only [Value.slice.injEq, Option.some.injEq, Addr.mk.injEq, and_true, true_and] at e1
      obtain ⟨rfl, rfl⟩ := e1
      simp only [World.frozen?, e3]
      simp
  have hst := Go.run_storeCells_cells (P := P) g (0 + p * i.size) news 0 w (by simpa using hc) (by simpa using hf) h1
  have hap := Go.run_append_room_cells (P := P) (w := w) t u e i ht hi g 0 p c a m d news (by rw [hl, hsize]) (fun j v hv => hS.cell j v hv) h1 (by omega) hc hf
  rw [Nat.add_zero] at hst
  have hww : w' = w.setCells g (0 + p * i.size) news := by
    rw [show (⟨g, p * sz, none⟩ : Addr) = ⟨g, 0 + p * i.size, none⟩ from by rw [hsize, Nat.zero_add]] at hr
    rw [hst] at hr
    injection hr with _ h2
    exact h2.symm
  rw [← hww] at hap
  have e' : (ze_ .append #[t, t] u cs [.slice (some ⟨g, 0, none⟩) p c, .slice (some a) m d]).run P w = .ok (.value (.slice (some ⟨g, 0, none⟩) (p + m) c)) w' := by
    simp only [ze_, builtin, Sem.run_bind]
    rw [show [Value.slice (some (⟨g, 0, none⟩ : Addr)) p c, Value.slice (some a) m d].toArray = #[.slice (some ⟨g, 0, none⟩) p c, .slice (some a) m d] from rfl, hap]
    rfl
  rw [zje_ e']
  refine h w' hg hsz ?_
  rw [Nat.add_zero] at hrow
  exact hrow
end
theorem RuleCells.drop {F : Nat → Prop} {w : World} {rs : List RuleL} {cells : List Value} (h : RuleCells F w rs cells) : ∀ m, RuleCells F w (rs.drop m) (cells.drop (m * 2)) := by
  induction h with
  | nil => intro m; rw [List.drop_nil, List.drop_nil]; exact .nil
  | @cons r rs Y c cells h1 h2 h3 ih =>
    intro m
    cases m with
    | zero => exact .cons h1 h2 h3
    | succ m =>
      rw [show (m + 1) * 2 = m * 2 + 1 + 1 from by omega]
      exact ih m
def zvd_ (i : Nat) (rs : List RuleL) : List RuleL := rs.take i ++ rs.drop (i + 1)
theorem zyg_ {i : Nat} {rs : List RuleL} (h : i < rs.length) : (zvd_ i rs).length = rs.length - 1 := by
  simp only [zvd_, List.length_append, List.length_take, List.length_drop]
  omega
def zgd_ (gm : Gram) (r : Int) : Gram × Bool := if zv_ gm && inB r 0 ((gm.rules.length : Int) - 1) then (⟨gm.nons, gm.toks, zvd_ r.toNat gm.rules⟩, true) else (⟨0, 0, []⟩, false)
end Go.Sh
namespace Go.Proofs.Ytegcjkhebecgbaa
open Go Go.Sh Go.RowKit
section
variable {w0 w : World} {L : List Thing} {k : Value → World → Prop}
theorem deleteG (H : Apt w0 w L) (i : Nat) {X : Option Addr} {c n j : Nat} {rs : List RuleL} {ft : Nat → Prop} {j1 : Int} (hi : L[i]? = some (gth ft X c rs)) (hn : n = rs.length) (hj : j < rs.length) (hj1 : j1 = ((j + 1 : Nat) : Int)) (hb : rs.length ≤ 1000)
    (h : ∀ w', Apt w0 w' (L.set i (gth ft X c (zvd_ j rs))) → k (.slice X (zvd_ j rs).length c) w') : CallK Try.prog 245 [.slice X n c, .int .i64 j, .int .i64 j1] k w := by
  subst hn hj1
  refine enter245 ?_
  unfold S245
  have H := H.drew
  obtain ⟨cells, hrow, hrc⟩ := H.gow i hi
  have hcap := hrow.cap.1
  have hlen := hrow.len
  rcases hrow.at_ with ⟨rfl, h0, _⟩ | ⟨g, rfl, hbg, hgl⟩
  · omega
  simp only [zq18, zq19, zq20, zq21, zq22, zq23, zq24, zq25, zq26, zq27, zq28, zq4, zq3, zq1, zq2, zq0, zq29, zq30, zq14, zq15, zq16, zq17, zq13, zq10, zq12, zq11, zq7, zq5, zq6, zq9, zq8, zq31, zq32, ite_T, ite_F, zq33, zq34, zq35, Nat.reduceEqDiff, len22, len24, fa26_0, fa26_1, fa26_2, len27, fa33_0, fa33_1, len35, fa114_0, fa114_1, fa114_2, fa124_0, fa124_1, len134]
  refine rdi (rd_slice3 u24 sz33 (by omega) (by omega) (by omega) (by omega)) ?_
  simp only [show ¬ ((j : Int) = ((j + 1 : Nat) : Int)) from by omega, decide_false, zq18, zq19, zq20, zq21, zq22, zq23, zq24, zq25, zq26, zq27, zq28, zq4, zq3, zq1, zq2, zq0, zq29, zq30, zq14, zq15, zq16, zq17, zq13, zq10, zq12, zq11, zq7, zq5, zq6, zq9, zq8, zq31, zq32, ite_T, ite_F, zq33, zq34, zq35, Nat.reduceEqDiff, len22, len24, fa26_0, fa26_1, fa26_2, len27, fa33_0, fa33_1, len35, fa114_0, fa114_1, fa114_2, fa124_0, fa124_1, len134]
  refine rdi (slh24 (by omega) (by omega)) ?_
  refine rdi (sll24 (by omega) (by omega)) ?_
  have hsub0 : sub (some (⟨g, 0, none⟩ : Addr)) 0 c 2 = some ⟨g, 0, none⟩ := by
    unfold sub
    rw [if_neg (by omega), Option.map_some, zq34]
  have hsrc := SrcQ.sub (Row.src hrow) (l := j + 1) (c := c) (sz := 2) (by omega) (by omega) cells.length
  rw [List.take_of_length_le (by simp)] at hsrc
  obtain ⟨a, ha⟩ : ∃ a, sub (some (⟨g, 0, none⟩ : Addr)) (j + 1) c 2 = some a := by
    unfold sub
    split
    · exact ⟨_, rfl⟩
    · exact ⟨_, rfl⟩
  rw [ha] at hsrc
  rw [hsub0, Int.toNat_natCast, Int.toNat_natCast, ha]
  have hnews : (cells.drop ((j + 1) * 2)).length = (rs.length - (j + 1)) * 2 := by rw [List.length_drop, hlen]; omega
  refine zct_ u24 zxb_ hrow (by omega) hsrc hnews (fun v hv => hrc.one v (List.mem_of_mem_drop hv)) fun w1 g1 s1 r1 => ?_
  have hm : j + (rs.length - (j + 1)) = rs.length - 1 := by omega
  rw [hm]
  simp only [zq18, zq19, zq20, zq21, zq22, zq23, zq24, zq25, zq26, zq27, zq28, zq4, zq3, zq1, zq2, zq0, zq29, zq30, zq14, zq15, zq16, zq17, zq13, zq10, zq12, zq11, zq7, zq5, zq6, zq9, zq8, zq31, zq32, ite_T, ite_F, zq33, zq34, zq35, Nat.reduceEqDiff, len22, len24, fa26_0, fa26_1, fa26_2, len27, fa33_0, fa33_1, len35, fa114_0, fa114_1, fa114_2, fa124_0, fa124_1, len134]
  refine rdi (sl24 (by omega) (by omega) (by omega)) ?_
  rw [Int.toNat_natCast, Int.toNat_natCast]
  refine zmr_ u24 zxb_ rfl (by decide) (by intro u hu; simp [Value.cells] at hu; rcases hu with rfl | rfl <;> rfl) r1 (m := rs.length - 1) (by omega) fun w2 g2 s2 r2 => ?_
  have hg := ztd_ g1 g2
  have hc2 : (cells.take (j * 2) ++ cells.drop ((j + 1) * 2) ++ cells.drop (j * 2 + (cells.drop ((j + 1) * 2)).length)).take ((rs.length - 1) * 2) = cells.take (j * 2) ++ cells.drop ((j + 1) * 2) := by
    rw [List.take_append_of_le_length (by rw [List.length_append, List.length_take, hnews]; omega), List.take_of_length_le (by rw [List.length_append, List.length_take, hnews]; omega)]
  rw [hc2] at r2
  have hdl := zyg_ hj
  rw [← hdl] at r2
  have hrc2 := (hrc.take j).append (hrc.drop (j + 1))
  have hset' : RuleCells (fun q => ft q ∧ blk (some (⟨g, 0, none⟩ : Addr)) ≠ some q) w2 (zvd_ j rs) _ := (hrc2.lt.same fun q hq => hg.block q hq.2 fun e => hq.1.2 e.symm).mono fun q hq => hq.1
  have hN := H.set hi (it' := gth ft (some ⟨g, 0, none⟩) c (zvd_ j rs)) (gx_of hg fun q hq => .inl hq) (fun q hq => .inl hq) (fun q hq => by
    rw [s2, s1]
    exact (H.ok i _ hi).hi q hq) (zvf_ ⟨_, r2, hset'⟩)
  have := h w2 hN
  rwa [hdl] at this
end
theorem zhj_ {w : World} {Y : Option Addr} {c : Nat} {gm : Gram} {r : Int} (hG : kG Y c gm.rules w) {k : Value → World → Prop}
    (hk : ∀ w' Z d, Gr w w' → kG Z d (zgd_ gm r).1.rules w' → k (.tuple #[grv (zgd_ gm r).1 Z d, .bool (zgd_ gm r).2]) w') :
    CallK Try.prog 142 [grv gm Y c, .int .i64 r] k w := by
  refine enter142 ?_
  unfold S142
  refine zwb_ fun b1 w1 g1 hb1 h1 => ?_
  refine zmb_ zdc_ fun b3 w2 g2 hb3 h3 => ?_
  have h1 := h1.gr g2
  have q3 := Nat.le_trans g1.size hb3
  have g := zd_ g1 g2
  rw [zj_ zu_ sz26 rfl h1]
  refine zae_ (gm := gm) (gvK ⟨hG.1, hG.2.gr g⟩) fun w6 g6 => ?_
  have g := zd_ g g6
  have h1 := h1.gr g6
  have h3 := h3.gr g6
  have hbad : ∀ w', Gr w w' → (zv_ gm && inB r 0 ((gm.rules.length : Int) - 1)) = false → k (.tuple #[.agg #[.int .i64 0, .int .i64 0, .slice none 0 0], .bool false]) w' := fun w' g hf => by
    have := hk w' none 0 g
    simp only [zgd_, hf] at this
    exact this kG_nil
  cases hg : zv_ gm
  · simp only [Bool.not_false, zq18, zq19, zq20, zq21, zq22, zq23, zq24, zq25, zq26, zq27, zq28, zq4, zq3, zq1, zq2, zq0, zq29, zq30, zq14, zq15, zq16, zq17, zq13, zq10, zq12, zq11, zq7, zq5, zq6, zq9, zq8, zq31, zq32, ite_T, ite_F, zq33, zq34, zq35, Nat.reduceEqDiff, len22, len24, fa26_0, fa26_1, fa26_2, len27, fa33_0, fa33_1, len35, fa114_0, fa114_1, fa114_2, fa124_0, fa124_1, len134]
    rw [bd26 (cells := #[.int .i64 0, .int .i64 0, .slice none 0 0]) rfl]
    refine zfb_ sz26 rfl (by intro u hu; simp [Value.cells] at hu; rcases hu with rfl | rfl | rfl <;> rfl) h3 (by simp [Value.cells]) fun w5 g5 s5 h5 => ?_
    rw [zcb_, zj_ zu_ sz26 rfl h5]
    exact hbad _ (zpb_ g g5 q3) (by rw [hg]; rfl)
  simp only [Bool.not_true, zq18, zq19, zq20, zq21, zq22, zq23, zq24, zq25, zq26, zq27, zq28, zq4, zq3, zq1, zq2, zq0, zq29, zq30, zq14, zq15, zq16, zq17, zq13, zq10, zq12, zq11, zq7, zq5, zq6, zq9, zq8, zq31, zq32, ite_T, ite_F, zq33, zq34, zq35, Nat.reduceEqDiff, len22, len24, fa26_0, fa26_1, fa26_2, len27, fa33_0, fa33_1, len35, fa114_0, fa114_1, fa114_2, fa124_0, fa124_1, len134]
  rw [zyb_ h1 rfl]
  simp only [zq18, zq19, zq20, zq21, zq22, zq23, zq24, zq25, zq26, zq27, zq28, zq4, zq3, zq1, zq2, zq0, zq29, zq30, zq14, zq15, zq16, zq17, zq13, zq10, zq12, zq11, zq7, zq5, zq6, zq9, zq8, zq31, zq32, ite_T, ite_F, zq33, zq34, zq35, Nat.reduceEqDiff, len22, len24, fa26_0, fa26_1, fa26_2, len27, fa33_0, fa33_1, len35, fa114_0, fa114_1, fa114_2, fa124_0, fa124_1, len134]
  have hlen := zyc_ hg
  rw [zt_ (by omega) (by omega)]
  refine in_c ?_
  cases hin : inB r 0 ((gm.rules.length : Int) - 1)
  · simp only [Bool.not_false, zq18, zq19, zq20, zq21, zq22, zq23, zq24, zq25, zq26, zq27, zq28, zq4, zq3, zq1, zq2, zq0, zq29, zq30, zq14, zq15, zq16, zq17, zq13, zq10, zq12, zq11, zq7, zq5, zq6, zq9, zq8, zq31, zq32, ite_T, ite_F, zq33, zq34, zq35, Nat.reduceEqDiff, len22, len24, fa26_0, fa26_1, fa26_2, len27, fa33_0, fa33_1, len35, fa114_0, fa114_1, fa114_2, fa124_0, fa124_1, len134]
    rw [bd26 (cells := #[.int .i64 0, .int .i64 0, .slice none 0 0]) rfl]
    refine zfb_ sz26 rfl (by intro u hu; simp [Value.cells] at hu; rcases hu with rfl | rfl | rfl <;> rfl) h3 (by simp [Value.cells]) fun w5 g5 s5 h5 => ?_
    rw [zcb_, zj_ zu_ sz26 rfl h5]
    exact hbad _ (zpb_ g g5 q3) (by rw [hin]; exact Bool.and_false _)
  simp only [Bool.not_true, zq18, zq19, zq20, zq21, zq22, zq23, zq24, zq25, zq26, zq27, zq28, zq4, zq3, zq1, zq2, zq0, zq29, zq30, zq14, zq15, zq16, zq17, zq13, zq10, zq12, zq11, zq7, zq5, zq6, zq9, zq8, zq31, zq32, ite_T, ite_F, zq33, zq34, zq35, Nat.reduceEqDiff, len22, len24, fa26_0, fa26_1, fa26_2, len27, fa33_0, fa33_1, len35, fa114_0, fa114_1, fa114_2, fa124_0, fa124_1, len134]
  rw [zj_ zu_ sz26 rfl h1]
  obtain ⟨j, rfl⟩ : ∃ j : Nat, r = (j : Int) := ⟨r.toNat, by
    simp only [inB, Bool.and_eq_true, decide_eq_true_eq] at hin
    omega⟩
  have hj : j < gm.rules.length := by
    simp only [inB, Bool.and_eq_true, decide_eq_true_eq] at hin
    omega
  have hdl := zyg_ hj
  have H0 := ((Apt.nil w).add g (bx b3 [.int .i64 0, .int .i64 0, .slice none 0 0] 26) (fun q hq => by rw [show q = b3 from hq]; exact q3) (fun q hq => by rw [show q = b3 from hq]; exact h3.lt) (zxh_ h3))
  refine zvg_ (gm := gm) (gvK ⟨hG.1, hG.2.gr g⟩) hg fun v w7 g7 o => ?_
  obtain ⟨X, cx, ps, rfl, o⟩ := o
  obtain ⟨cells, hrow, hcells⟩ := o.cellsG (by decide)
  have H := H0.addGow g7 hrow hcells
  generalize (fun q => w6.heap.size ≤ q ∧ q < w7.heap.size) = ft at H
  refine zkc_ H zdc_ fun b8 w8 H => ?_
  refine zub_ H 2 rfl sz26 rfl rfl rfl fun w9 H => ?_
  have H : Apt w w9 [bx b3 [.int .i64 0, .int .i64 0, .slice none 0 0] 26, gth ft X cx gm.rules, bx b8 [.int .i64 gm.nons, .int .i64 gm.toks, .slice X gm.rules.length cx] 26] := H
  simp only [zq18, zq19, zq20, zq21, zq22, zq23, zq24, zq25, zq26, zq27, zq28, zq4, zq3, zq1, zq2, zq0, zq29, zq30, zq14, zq15, zq16, zq17, zq13, zq10, zq12, zq11, zq7, zq5, zq6, zq9, zq8, zq31, zq32, ite_T, ite_F, zq33, zq34, zq35, Nat.reduceEqDiff, len22, len24, fa26_0, fa26_1, fa26_2, len27, fa33_0, fa33_1, len35, fa114_0, fa114_1, fa114_2, fa124_0, fa124_1, len134]
  rw [zyb_ (H.box 2 rfl) rfl]
  rw [zt_ (by omega) (by omega)]
  refine deleteG H 1 rfl rfl hj (by omega) (by omega) fun w10 H => ?_
  simp only [List.set_cons_succ, List.set_cons_zero] at H
  refine zub_ H 2 rfl sz24 rfl rfl rfl fun w11 H => ?_
  have H : Apt w w11 [bx b3 [.int .i64 0, .int .i64 0, .slice none 0 0] 26, gth ft X cx (zvd_ j gm.rules), bx b8 [.int .i64 gm.nons, .int .i64 gm.toks, .slice X (zvd_ j gm.rules).length cx] 26] := H
  rw [zj_ zu_ sz26 rfl (H.box 2 rfl)]
  refine zub_ H 0 rfl sz26 rfl rfl rfl fun w12 H => ?_
  have H : Apt w w12 [bx b3 [.int .i64 gm.nons, .int .i64 gm.toks, .slice X (zvd_ j gm.rules).length cx] 26, gth ft X cx (zvd_ j gm.rules), bx b8 [.int .i64 gm.nons, .int .i64 gm.toks, .slice X (zvd_ j gm.rules).length cx] 26] := H
  rw [zcb_, zj_ zu_ sz26 rfl (H.box 0 rfl)]
  have := hk w12 X cx H.gr
  simp only [zgd_, hg, hin, Bool.and_self, if_true, Int.toNat_natCast] at this
  exact this (gowK (H.gow 1 rfl))
theorem zij_ {w : World} {Y : Option Addr} {c : Nat} {gm : Gram} {r : Int} (hG : kG Y c gm.rules w) {k : Value → World → Prop}
    (hk : ∀ w' Z d, Gr w w' → kG Z d (zgd_ gm r).1.rules w' → k (.tuple #[grv (zgd_ gm r).1 Z d, .bool (zgd_ gm r).2]) w') :
    CallK Try.prog 143 [grv gm Y c, .int .i64 r] k w := by
  refine enter143 ?_
  unfold S143
  refine zwb_ fun b1 w1 g1 hb1 h1 => ?_
  refine zmb_ zdc_ fun b3 w2 g2 hb3 h3 => ?_
  have h1 := h1.gr g2
  have q3 := Nat.le_trans g1.size hb3
  have g := zd_ g1 g2
  rw [zj_ zu_ sz26 rfl h1]
  refine zdd_ (gm := gm) (gvK ⟨hG.1, hG.2.gr g⟩) fun w6 g6 => ?_
  have g := zd_ g g6
  have h1 := h1.gr g6
  have h3 := h3.gr g6
  have hbad : ∀ w', Gr w w' → (zv_ gm && inB r 0 ((gm.rules.length : Int) - 1)) = false → k (.tuple #[.agg #[.int .i64 0, .int .i64 0, .slice none 0 0], .bool false]) w' := fun w' g hf => by
    have := hk w' none 0 g
    simp only [zgd_, hf] at this
    exact this kG_nil
  cases hg : zv_ gm
  · simp only [Bool.not_false, zq18, zq19, zq20, zq21, zq22, zq23, zq24, zq25, zq26, zq27, zq28, zq4, zq3, zq1, zq2, zq0, zq29, zq30, zq14, zq15, zq16, zq17, zq13, zq10, zq12, zq11, zq7, zq5, zq6, zq9, zq8, zq31, zq32, ite_T, ite_F, zq33, zq34, zq35, Nat.reduceEqDiff, len22, len24, fa26_0, fa26_1, fa26_2, len27, fa33_0, fa33_1, len35, fa114_0, fa114_1, fa114_2, fa124_0, fa124_1, len134]
    rw [bd26 (cells := #[.int .i64 0, .int .i64 0, .slice none 0 0]) rfl]
    refine zfb_ sz26 rfl (by intro u hu; simp [Value.cells] at hu; rcases hu with rfl | rfl | rfl <;> rfl) h3 (by simp [Value.cells]) fun w5 g5 s5 h5 => ?_
    rw [zcb_, zj_ zu_ sz26 rfl h5]
    exact hbad _ (zpb_ g g5 q3) (by rw [hg]; rfl)
  simp only [Bool.not_true, zq18, zq19, zq20, zq21, zq22, zq23, zq24, zq25, zq26, zq27, zq28, zq4, zq3, zq1, zq2, zq0, zq29, zq30, zq14, zq15, zq16, zq17, zq13, zq10, zq12, zq11, zq7, zq5, zq6, zq9, zq8, zq31, zq32, ite_T, ite_F, zq33, zq34, zq35, Nat.reduceEqDiff, len22, len24, fa26_0, fa26_1, fa26_2, len27, fa33_0, fa33_1, len35, fa114_0, fa114_1, fa114_2, fa124_0, fa124_1, len134]
  rw [zyb_ h1 rfl]
  simp only [zq18, zq19, zq20, zq21, zq22, zq23, zq24, zq25, zq26, zq27, zq28, zq4, zq3, zq1, zq2, zq0, zq29, zq30, zq14, zq15, zq16, zq17, zq13, zq10, zq12, zq11, zq7, zq5, zq6, zq9, zq8, zq31, zq32, ite_T, ite_F, zq33, zq34, zq35, Nat.reduceEqDiff, len22, len24, fa26_0, fa26_1, fa26_2, len27, fa33_0, fa33_1, len35, fa114_0, fa114_1, fa114_2, fa124_0, fa124_1, len134]
  have hlen := zyc_ hg
  rw [zt_ (by omega) (by omega)]
  refine zpg_ ?_
  cases hin : inB r 0 ((gm.rules.length : Int) - 1)
  · simp only [Bool.not_false, zq18, zq19, zq20, zq21, zq22, zq23, zq24, zq25, zq26, zq27, zq28, zq4, zq3, zq1, zq2, zq0, zq29, zq30, zq14, zq15, zq16, zq17, zq13, zq10, zq12, zq11, zq7, zq5, zq6, zq9, zq8, zq31, zq32, ite_T, ite_F, zq33, zq34, zq35, Nat.reduceEqDiff, len22, len24, fa26_0, fa26_1, fa26_2, len27, fa33_0, fa33_1, len35, fa114_0, fa114_1, fa114_2, fa124_0, fa124_1, len134]
    rw [bd26 (cells := #[.int .i64 0, .int .i64 0, .slice none 0 0]) rfl]
    refine zfb_ sz26 rfl (by intro u hu; simp [Value.cells] at hu; rcases hu with rfl | rfl | rfl <;> rfl) h3 (by simp [Value.cells]) fun w5 g5 s5 h5 => ?_
    rw [zcb_, zj_ zu_ sz26 rfl h5]
    exact hbad _ (zpb_ g g5 q3) (by rw [hin]; exact Bool.and_false _)
  simp only [Bool.not_true, zq18, zq19, zq20, zq21, zq22, zq23, zq24, zq25, zq26, zq27, zq28, zq4, zq3, zq1, zq2, zq0, zq29, zq30, zq14, zq15, zq16, zq17, zq13, zq10, zq12, zq11, zq7, zq5, zq6, zq9, zq8, zq31, zq32, ite_T, ite_F, zq33, zq34, zq35, Nat.reduceEqDiff, len22, len24, fa26_0, fa26_1, fa26_2, len27, fa33_0, fa33_1, len35, fa114_0, fa114_1, fa114_2, fa124_0, fa124_1, len134]
  rw [zj_ zu_ sz26 rfl h1]
  obtain ⟨j, rfl⟩ : ∃ j : Nat, r = (j : Int) := ⟨r.toNat, by
    simp only [inB, Bool.and_eq_true, decide_eq_true_eq] at hin
    omega⟩
  have hj : j < gm.rules.length := by
    simp only [inB, Bool.and_eq_true, decide_eq_true_eq] at hin
    omega
  have hdl := zyg_ hj
  refine zuk_ (gm := gm) (gvK ⟨hG.1, hG.2.gr g⟩) hg fun v w7 g7 o => ?_
  obtain ⟨X, cx, ps, rfl, o⟩ := o
  obtain ⟨cells, hrow, hcells⟩ := o.cellsG (by decide)
  have hcap := hrow.cap.1
  have hcl := hrow.len
  have hb3 := h3.lt
  have h3 := h3.gr g7
  have H := Apt.nil w7
  refine zkc_ H zdc_ fun b8 w8 H => ?_
  refine zub_ H 0 rfl sz26 rfl rfl rfl fun w9 H => ?_
  have H : Apt w7 w9 [bx b8 [.int .i64 gm.nons, .int .i64 gm.toks, .slice X gm.rules.length cx] 26] := H
  refine buildH H u24 zxb_ [] (by decide) (by decide) (by simp [Instr.fill, madeCells]) rfl fun b10 w10 H => ?_
  simp only [List.nil_append, List.cons_append] at H
  simp only [zq18, zq19, zq20, zq21, zq22, zq23, zq24, zq25, zq26, zq27, zq28, zq4, zq3, zq1, zq2, zq0, zq29, zq30, zq14, zq15, zq16, zq17, zq13, zq10, zq12, zq11, zq7, zq5, zq6, zq9, zq8, zq31, zq32, ite_T, ite_F, zq33, zq34, zq35, Nat.reduceEqDiff, len22, len24, fa26_0, fa26_1, fa26_2, len27, fa33_0, fa33_1, len35, fa114_0, fa114_1, fa114_2, fa124_0, fa124_1, len134]
  rw [zyb_ (H.box 0 rfl) rfl]
  refine rdi (slh24 (by omega) (by omega)) ?_
  have src0 : ∀ {w'}, Gr w7 w' → Go.Sh.SrcQ w' (sub X 0 cx 2) (cells.take (j * 2)) := fun g' => by
    have := Go.Sh.SrcQ.sub (Row.src (Row.gr hrow g')) (l := 0) (c := cx) (sz := 2) (by omega) (by omega) (j * 2)
    rwa [Nat.zero_mul, List.drop_zero] at this
  have src1 : ∀ {w'}, Gr w7 w' → Go.Sh.SrcQ w' (sub X (j + 1) cx 2) (cells.drop ((j + 1) * 2)) := fun g' => by
    have := Go.Sh.SrcQ.sub (Row.src (Row.gr hrow g')) (l := j + 1) (c := cx) (sz := 2) (by omega) (by omega) cells.length
    rwa [List.take_of_length_le (by simp)] at this
  rw [Int.toNat_natCast]
  refine appendH H 1 rfl u24 zxb_ rfl (by decide) (src0 H.gr) (by rw [List.length_take]; omega) (fun v hv => hcells.one v (List.mem_of_mem_take hv)) (by omega) (by omega) fun X1 c1 w11 H => ?_
  simp only [List.set_cons_succ, List.set_cons_zero, List.nil_append, Nat.zero_add] at H ⊢
  rw [zyb_ (H.box 0 rfl) rfl, zt_ (by omega) (by omega)]
  refine rdi (sll24 (by omega) (by omega)) ?_
  rw [show ((j : Int) + 1).toNat = j + 1 from by omega]
  refine appendH H 1 rfl u24 zxb_ rfl (by decide) (src1 H.gr) (by rw [List.length_drop]; omega) (fun v hv => hcells.one v (List.mem_of_mem_drop hv)) (by omega) (by omega) fun X2 c2 w12 H => ?_
  simp only [List.set_cons_succ, List.set_cons_zero] at H
  rw [show j + (gm.rules.length - (j + 1)) = (zvd_ j gm.rules).length from by omega] at H ⊢
  refine zub_ H 0 rfl sz24 rfl rfl rfl fun w13 H => ?_
  have H : Apt w7 w13 [bx b8 [.int .i64 gm.nons, .int .i64 gm.toks, .slice X2 (zvd_ j gm.rules).length c2] 26, rwi 33 2 X2 (zvd_ j gm.rules).length c2 (cells.take (j * 2) ++ cells.drop ((j + 1) * 2))] := H
  rw [zj_ zu_ sz26 rfl (H.box 0 rfl)]
  have hr2 := H.row 1 rfl
  have hc2 := ((hcells.lt.take j).append (hcells.lt.drop (j + 1))).gr H.gr
  have hO : OwnG 33 (fun q => w6.heap.size ≤ q ∧ q < w7.heap.size) w13 w7.heap.size X2 c2 (zvd_ j gm.rules) := ⟨_, hr2, hc2.mono fun q hq => ⟨⟨hq.1.1, hq.2⟩, fun e => by
    have := (Row.ge hr2 e).1
    omega⟩⟩
  refine zfb_ sz26 rfl (by intro u hu; simp [Value.cells] at hu; rcases hu with rfl | rfl | rfl <;> rfl) (h3.gr H.gr) (by simp [Value.cells]) fun w14 g14 s14 h14 => ?_
  rw [zcb_, zj_ zu_ sz26 rfl h14]
  have hO' := zvf_ hO w14 (fun q hq => g14.block q (by
    have h7 := H.gr.size
    rcases hq with hq | hq
    · exact (Row.ge hr2 hq).2
    · omega) (by
    have h7 := g7.size
    rcases hq with hq | hq
    · have := (Row.ge hr2 hq).1
      intro e
      injection e with e
      omega
    · intro e
      injection e with e
      omega))
  have := hk w14 X2 c2 (zpb_ (zd_ (zd_ g g7) H.gr) g14 q3)
  simp only [zgd_, hg, hin, Bool.and_self, if_true, Int.toNat_natCast] at this
  exact this (gowK hO')
open Go Go.Sh

def pl132 : Plans := fun _ => ⟨false, [], .nil⟩
def S132 (v0 : Value) (k : Value → World → Prop) (w : World) : Prop :=
 Do Try.prog (zw_ 26) (fun t1 w2 =>
 Rd Try.prog (WS.at w2) (zy_ 114 [(0, v0)]) fun t3 =>
 Do Try.prog (sBox 114 t3) (fun t4 w5 =>
 CallK Try.prog 145 [t4] (fun t6 w7 =>
 Do Try.prog (zw_ 26) (fun t8 w9 =>
 Do Try.prog (zi_ 26 t8 t6) (fun _ w10 =>
 zrb_ [16, 17, 18, 19, 22, 23, 24, 25, 6, 20, 21, 7] (fun Q11 f12 w13 =>
  Rd Try.prog (WS.at w13) (za_ 26 (f12 5) 0) fun t14 =>
  Rd Try.prog (WS.at w13) (zc_ 3 t14) fun t15 =>
  Rd Try.prog (WS.at w13) (sBin .lss 3 false (f12 7) t15) fun t16 =>
  zm_ t16
   (Do Try.prog (zh_ 27 1 [(0, (f12 7))]) (fun t17 w18 =>
   Do Try.prog (ze_ .append #[27, 27] 27 [false, false] [(f12 6), t17]) (fun t19 w20 =>
   Rd Try.prog (WS.at w20) (sBin .add 3 true (f12 7) (.int .i64 1)) fun t21 =>
   Q11 .normal (F.upd (F.upd (F.upd (F.upd (F.upd (F.upd (F.upd (F.upd (F.upd (F.upd (F.upd (F.upd f12 16 (f12 7)) 17 t14) 18 t15) 19 t16) 22 (f12 6)) 23 (f12 7)) 24 t17) 25 t19) 6 t19) 20 (f12 7)) 21 t21) 7 t21) w20) w18) w13)
   (Q11 (.exit 0) (F.upd (F.upd (F.upd (F.upd f12 16 (f12 7)) 17 t14) 18 t15) 19 t16) w13))
  (zx_ 0 (seqQ (fun f22 w23 =>
 zrb_ [26, 27, 28, 29, 32, 33, 34, 35, 9, 36, 37, 38, 39, 10, 40, 41, 42, 43, 44, 45, 46, 47, 48, 49, 50, 30, 31, 8] (fun Q24 f25 w26 =>
  Rd Try.prog (WS.at w26) (ze_ .len #[27] 3 [false] [(f25 6)]) fun t27 =>
  Rd Try.prog (WS.at w26) (sBin .lss 3 false (f25 8) t27) fun t28 =>
  zm_ t28
   (CallK Try.prog 146 [(f25 4), (f25 8)] (fun t29 w30 =>
   Rd Try.prog (WS.at w30) (sBin .add 3 true (.int .i64 1) t29) fun t31 =>
   Rd Try.prog (WS.at w30) (zf_ 27 (f25 6) (f25 8)) fun t32 =>
   Rd Try.prog (WS.at w30) (zc_ 3 t32) fun t33 =>
   Rd Try.prog (WS.at w30) (zf_ 27 (f25 6) t31) fun t34 =>
   Rd Try.prog (WS.at w30) (zc_ 3 t34) fun t35 =>
   Rd Try.prog (WS.at w30) (zf_ 27 (f25 6) (f25 8)) fun t36 =>
   Do Try.prog (zi_ 3 t36 t35) (fun _ w37 =>
   Rd Try.prog (WS.at w37) (zf_ 27 (f25 6) t31) fun t38 =>
   Do Try.prog (zi_ 3 t38 t33) (fun _ w39 =>
   Rd Try.prog (WS.at w39) (sBin .add 3 true (f25 8) (.int .i64 1)) fun t40 =>
   Q24 .normal (F.upd (F.upd (F.upd (F.upd (F.upd (F.upd (F.upd (F.upd (F.upd (F.upd (F.upd (F.upd (F.upd (F.upd (F.upd (F.upd (F.upd (F.upd (F.upd (F.upd (F.upd (F.upd (F.upd (F.upd (F.upd (F.upd (F.upd (F.upd f25 26 (f25 8)) 27 (f25 6)) 28 t27) 29 t28) 32 (f25 4)) 33 (f25 8)) 34 t29) 35 t31) 9 t31) 36 (f25 6)) 37 (f25 8)) 38 t32) 39 t33) 10 t33) 40 (f25 6)) 41 (f25 8)) 42 (f25 6)) 43 t31) 44 t34) 45 t35) 46 t36) 47 (f25 6)) 48 t31) 49 t33) 50 t38) 30 (f25 8)) 31 t40) 8 t40) w39) w37) w30) w26)
   (Q24 (.exit 2) (F.upd (F.upd (F.upd (F.upd f25 26 (f25 8)) 27 (f25 6)) 28 t27) 29 t28) w26))
  (zx_ 2 (seqQ (fun f41 w42 =>
 Join (fun K43 =>
 Rd Try.prog (WS.at w42) (ze_ .len #[27] 3 [false] [(f41 6)]) fun t46 =>
 Rd Try.prog (WS.at w42) (sBin .gtr 3 true t46 (.int .i64 0)) fun t47 =>
 zb_ t47 true (fun k w' => k (f41 4) w') (fun t48 w49 =>
 zb_ t47 true (fun k w' => CallK Try.prog 176 [t48, (.int .i64 20)] k w') (fun t50 w51 =>
 Rd Try.prog (WS.at w51) (zeb_ t47 t50 (.bool false)) fun t52 =>
 zm_ t52
  (CallK Try.prog 146 [(f41 4), (.int .i64 3)] (fun t53 w54 =>
  Rd Try.prog (WS.at w54) (zf_ 27 (f41 6) (.int .i64 0)) fun t55 =>
  Do Try.prog (zi_ 3 t55 t53) (fun _ w56 =>
  K43 (F.upd (F.upd (F.upd (F.upd (F.upd (F.upd (F.upd (F.upd (F.upd (F.upd (F.upd f41 51 (f41 6)) 52 t46) 53 t47) 54 t47) 55 t48) 56 t50) 57 t52) 58 (f41 6)) 59 (f41 4)) 60 t53) 61 t55) w56) w54) w51)
  (K43 (F.upd (F.upd (F.upd (F.upd (F.upd (F.upd (F.upd f41 51 (f41 6)) 52 t46) 53 t47) 54 t47) 55 t48) 56 t50) 57 t52) w51)) w49) w42) (fun f44 w45 =>
 Rd Try.prog (WS.at w45) (zc_ 26 (f44 5)) fun t57 =>
 Do Try.prog (zi_ 26 (f44 2) t57) (fun _ w58 =>
 Rd Try.prog (WS.at w58) (zib_ 26 (f44 2)) fun t59 => k (.tuple #[t59, (f44 6)]) w58) w45)) (zr_ Try.prog [.cell 2 26, .tmp 3] k)))
  (F.upd f22 8 (.int .i64 1)) w23) (zr_ Try.prog [.cell 2 26, .tmp 3] k)))
  (F.upd (F.upd (F.upd (F.upd (F.upd (F.upd (F.upd (F.upd (F.upd (F.upd (F.upd (zp_ [v0]) 2 t1) 3 (.slice none 0 0)) 11 v0) 12 t3) 13 t4) 4 t4) 14 t4) 15 t6) 5 t8) 6 (.slice none 0 0)) 7 (.int .i64 0)) w10) w9) w7) w5) w2) w
theorem body132 : Try.f132.body = some (zg_ Try.f132) := by kernel_rfl
theorem same132 (v0 : Value) (k : Value → World → Prop) (w : World) : wpF Try.prog pl132 (zg_ Try.f132) (zr_ Try.prog Try.f132.results.toList k) (zp_ [v0]) w = S132 v0 k w := by kernel_rfl
theorem enter132 {v0 : Value} {k : Value → World → Prop} {w : World} (h : S132 v0 k w) : CallK Try.prog 132 [v0] k w :=
  call_of_wpF (pl := pl132) mixed Try.func132 body132 (by kernel_rfl) (of_decide_eq_true (by kernel_rfl)) (by kernel_rfl) (by kernel_rfl) (Eq.mpr (same132 v0 k w) h)

def pl135 : Plans := fun i => match i with
  | 4 => ⟨true, [3, 4], .step 0 .held (.step 1 .held (.step 2 .one (.step 3 .last (.step 4 .last (.nil)))))⟩
  | 5 => ⟨true, [3, 4], .step 0 .held (.step 1 .any (.step 2 .one (.step 3 .last (.step 4 .last (.nil)))))⟩
  | _ => ⟨false, [], .nil⟩
def S135 (v0 : Value) (k : Value → World → Prop) (w : World) : Prop :=
 Do Try.prog (zw_ 26) (fun t1 w2 =>
 Do Try.prog (zw_ 26) (fun t3 w4 =>
 Rd Try.prog (WS.at w4) (zy_ 114 [(0, v0)]) fun t5 =>
 Do Try.prog (sBox 114 t5) (fun t6 w7 =>
 CallK Try.prog 145 [t6] (fun t8 w9 =>
 Do Try.prog (zw_ 26) (fun t10 w11 =>
 Do Try.prog (zi_ 26 t10 t8) (fun _ w12 =>
 CallK Try.prog 176 [t6, (.int .i64 2)] (fun t13 w14 =>
 zm_ t13
  (∃ U15 : World → Prop, ∃ h16 : U15 w14.drew,
  Rd Try.prog ⟨U15, w14.drew, h16⟩ (zc_ 26 t10) fun t17 =>
  Rd Try.prog ⟨U15, w14.drew, h16⟩ (zc_ 26 t10) fun t18 =>
  CallK Try.prog 236 [t18] (fun t19 w20 =>
  U15 w20 ∧ Do Try.prog (zi_ 26 t1 t17) (fun _ w21 =>
  Do Try.prog (zi_ 26 t3 t19) (fun _ w22 =>
  Rd Try.prog (WS.at w22) (zib_ 26 t1) fun t23 => Rd Try.prog (WS.at w22) (zib_ 26 t3) fun t24 => k (.tuple #[t23, t24]) w22) w21) w20) w14.drew)
  (∃ U25 : World → Prop, ∃ h26 : U25 w14.drew,
  Rd Try.prog ⟨U25, w14.drew, h26⟩ (zc_ 26 t10) fun t27 =>
  CallK Try.prog 145 [t6] (fun t28 w29 =>
  U25 w29 ∧ Do Try.prog (zi_ 26 t1 t27) (fun _ w30 =>
  Do Try.prog (zi_ 26 t3 t28) (fun _ w31 =>
  Rd Try.prog (WS.at w31) (zib_ 26 t1) fun t32 => Rd Try.prog (WS.at w31) (zib_ 26 t3) fun t33 => k (.tuple #[t32, t33]) w31) w30) w29) w14.drew)) w12) w11) w9) w7) w4) w2) w
theorem body135 : Try.f135.body = some (zg_ Try.f135) := by kernel_rfl
theorem same135 (v0 : Value) (k : Value → World → Prop) (w : World) : wpF Try.prog pl135 (zg_ Try.f135) (zr_ Try.prog Try.f135.results.toList k) (zp_ [v0]) w = S135 v0 k w := by kernel_rfl
theorem enter135 {v0 : Value} {k : Value → World → Prop} {w : World} (h : S135 v0 k w) : CallK Try.prog 135 [v0] k w :=
  call_of_wpF (pl := pl135) mixed Try.func135 body135 (by kernel_rfl) (of_decide_eq_true (by kernel_rfl)) (by kernel_rfl) (by kernel_rfl) (Eq.mpr (same135 v0 k w) h)

def pl138 : Plans := fun _ => ⟨false, [], .nil⟩
def S138 (v0 : Value) (k : Value → World → Prop) (w : World) : Prop :=
 Do Try.prog (zw_ 26) (fun t1 w2 =>
 Rd Try.prog (WS.at w2) (zy_ 114 [(0, v0)]) fun t3 =>
 Do Try.prog (sBox 114 t3) (fun t4 w5 =>
 CallK Try.prog 145 [t4] (fun t6 w7 =>
 CallK Try.prog 146 [t4, (.int .i64 5)] (fun t8 w9 =>
 CallK Try.prog 146 [t4, (.int .i64 9)] (fun t10 w11 =>
 Rd Try.prog (WS.at w11) (sBin .quo 3 true t10 (.int .i64 8)) fun t12 =>
 Rd Try.prog (WS.at w11) (sBin .sub 3 false t8 t12) fun t13 =>
 Do Try.prog (zi_ 26 t1 t6) (fun _ w14 =>
 Rd Try.prog (WS.at w14) (zib_ 26 t1) fun t15 => k (.tuple #[t15, t13]) w14) w11) w9) w7) w5) w2) w
theorem body138 : Try.f138.body = some (zg_ Try.f138) := by kernel_rfl
theorem same138 (v0 : Value) (k : Value → World → Prop) (w : World) : wpF Try.prog pl138 (zg_ Try.f138) (zr_ Try.prog Try.f138.results.toList k) (zp_ [v0]) w = S138 v0 k w := by kernel_rfl
theorem enter138 {v0 : Value} {k : Value → World → Prop} {w : World} (h : S138 v0 k w) : CallK Try.prog 138 [v0] k w :=
  call_of_wpF (pl := pl138) mixed Try.func138 body138 (by kernel_rfl) (of_decide_eq_true (by kernel_rfl)) (by kernel_rfl) (by kernel_rfl) (Eq.mpr (same138 v0 k w) h)

def pl141 : Plans := fun i => match i with
  | 3 => ⟨true, [11], .step 0 .held (.step 1 .any (.step 2 .any (.step 3 .held (.step 4 .any (.step 5 .any (.step 7 .any (.step 6 .one (.step 8 .one (.step 9 .any (.step 10 .any (.step 11 .last (.step 12 .any (.nil)))))))))))))⟩
  | _ => ⟨false, [], .nil⟩
def S141 (v0 : Value) (k : Value → World → Prop) (w : World) : Prop :=
 Do Try.prog (zw_ 26) (fun t1 w2 =>
 Rd Try.prog (WS.at w2) (zy_ 114 [(0, v0)]) fun t3 =>
 Do Try.prog (sBox 114 t3) (fun t4 w5 =>
 CallK Try.prog 145 [t4] (fun t6 w7 =>
 Do Try.prog (zw_ 26) (fun t8 w9 =>
 Do Try.prog (zi_ 26 t8 t6) (fun _ w10 =>
 ∃ U11 : World → Prop, ∃ h12 : U11 w10.drew,
 Rd Try.prog ⟨U11, w10.drew, h12⟩ (zc_ 26 t8) fun t13 =>
 Rd Try.prog WS.any (za_ 26 t8 2) fun t14 =>
 Rd Try.prog ⟨U11, w10.drew, h12⟩ (zc_ 24 t14) fun t15 =>
 Rd Try.prog WS.any (ze_ .len #[24] 3 [false] [t15]) fun t16 =>
 Rd Try.prog WS.any (sBin .add 3 true t16 (.int .i64 1)) fun t17 =>
 CallK Try.prog 146 [t4, t17] (fun t18 w19 =>
 U11 w19 ∧ CallK Try.prog 146 [t4, (.int .i64 20)] (fun t20 w21 =>
 U11 w21 ∧ Rd Try.prog WS.any (sBin .quo 3 true t20 (.int .i64 19)) fun t22 =>
 Rd Try.prog WS.any (sBin .sub 3 false t18 t22) fun t23 =>
 Do Try.prog (zi_ 26 t1 t13) (fun _ w24 =>
 Rd Try.prog (WS.at w24) (zib_ 26 t1) fun t25 => k (.tuple #[t25, t23]) w24) w21) w19) w10.drew) w9) w7) w5) w2) w
theorem body141 : Try.f141.body = some (zg_ Try.f141) := by kernel_rfl
theorem same141 (v0 : Value) (k : Value → World → Prop) (w : World) : wpF Try.prog pl141 (zg_ Try.f141) (zr_ Try.prog Try.f141.results.toList k) (zp_ [v0]) w = S141 v0 k w := by kernel_rfl
theorem enter141 {v0 : Value} {k : Value → World → Prop} {w : World} (h : S141 v0 k w) : CallK Try.prog 141 [v0] k w :=
  call_of_wpF (pl := pl141) mixed Try.func141 body141 (by kernel_rfl) (of_decide_eq_true (by kernel_rfl)) (by kernel_rfl) (by kernel_rfl) (Eq.mpr (same141 v0 k w) h)

section
variable {w : World} {C : Option Addr} {cap : Nat} {bs : List Int} {k : Value → World → Prop}
theorem zdt_ (hC : Byts w C bs) (hk : ∀ w' gm Y cy, Gr w w' → kG Y cy gm.rules w' → k (grv gm Y cy) w') :
    CallK Try.prog 136 [.slice C bs.length cap] k w := by
  refine enter136 ?_
  unfold S136
  have H := Apt.nil w
  refine zkc_ H zdc_ fun b1 w1 H => ?_
  refine drawGood_c (hC.gr H.gr) fun w2 gm ft Y cy hd A => ?_
  have H := H.append A
  simp only [List.nil_append, List.cons_append] at H
  refine zub_ H 0 rfl sz26 rfl rfl rfl fun w3 H => ?_
  have H : Apt w w3 [bx b1 [.int .i64 gm.nons, .int .i64 gm.toks, .slice Y gm.rules.length cy] 26, gth ft Y cy gm.rules] := H
  rw [zcb_, zj_ zu_ sz26 rfl (H.box 0 rfl)]
  exact hk w3 gm Y cy H.gr (gowK (H.gow 1 rfl))
theorem zpr_ (hC : Byts w C bs) (hk : ∀ w' gm Y cy non, Gr w w' → kG Y cy gm.rules w' → k (.tuple #[grv gm Y cy, .int .i64 non]) w') :
    CallK Try.prog 138 [.slice C bs.length cap] k w := by
  refine enter138 ?_
  unfold S138
  refine draw0 fun b1 b4 w1 H => ?_
  refine any_c H hC (by omega) fun w2 gm ft Y cy hd H => ?_
  refine zvc_ H 0 rfl hC (by omega) (by omega) fun w5 a _ _ H => ?_
  simp only [List.set_cons_zero] at H
  refine zvc_ H 0 rfl hC (by omega) (by omega) fun w6 c _ _ H => ?_
  simp only [List.set_cons_zero] at H
  rw [bin_quo (by decide)]
  simp only [zq18, zq19, zq20, zq21, zq22, zq23, zq24, zq25, zq26, zq27, zq28, zq4, zq3, zq1, zq2, zq0, zq29, zq30, zq14, zq15, zq16, zq17, zq13, zq10, zq12, zq11, zq7, zq5, zq6, zq9, zq8, zq31, zq32, ite_T, ite_F, zq33, zq34, zq35, Nat.reduceEqDiff, len22, len24, fa26_0, fa26_1, fa26_2, len27, fa33_0, fa33_1, len35, fa114_0, fa114_1, fa114_2, fa124_0, fa124_1, len134]
  generalize IntKind.i64.wrap _ = non
  refine zub_ H 2 rfl sz26 rfl rfl rfl fun w3 H => ?_
  simp only [List.cons_append, List.nil_append, List.set_cons_zero, List.set_cons_succ] at H
  rw [zcb_, zj_ zu_ sz26 rfl (H.box 2 rfl)]
  exact hk w3 gm Y cy non H.gr (gowK (H.gow 1 rfl))
theorem zjj_ (hC : Byts w C bs) (hk : ∀ w' gm Y cy non, Gr w w' → kG Y cy gm.rules w' → k (.tuple #[grv gm Y cy, .int .i64 non]) w') :
    CallK Try.prog 141 [.slice C bs.length cap] k w := by
  refine enter141 ?_
  unfold S141
  refine draw0 fun b1 b4 w1 H => ?_
  refine any_c H hC (by omega) fun w2 gm ft Y cy hd H => ?_
  refine zkc_ H zdc_ fun b8 w3 H => ?_
  refine zub_ H 3 rfl sz26 rfl rfl rfl fun w4 H => ?_
  simp only [List.cons_append, List.nil_append, List.set_cons_zero, List.set_cons_succ] at H
  have H := H.drew
  have hfew := hd.few
  refine ⟨fun w' => Box w' b8 [.int .i64 gm.nons, .int .i64 gm.toks, .slice Y gm.rules.length cy] 26, H.box 3 rfl, ?_⟩
  refine rdi (zad_ rfl fun w' h => h) ?_
  simp only [zq18, zq19, zq20, zq21, zq22, zq23, zq24, zq25, zq26, zq27, zq28, zq4, zq3, zq1, zq2, zq0, zq29, zq30, zq14, zq15, zq16, zq17, zq13, zq10, zq12, zq11, zq7, zq5, zq6, zq9, zq8, zq31, zq32, ite_T, ite_F, zq33, zq34, zq35, Nat.reduceEqDiff, len22, len24, fa26_0, fa26_1, fa26_2, len27, fa33_0, fa33_1, len35, fa114_0, fa114_1, fa114_2, fa124_0, fa124_1, len134]
  rw [ldS24 (fun w' (hw' : Box w' b8 [.int .i64 gm.nons, .int .i64 gm.toks, .slice Y gm.rules.length cy] 26) => hw'.cell 2)]
  simp only [zq18, zq19, zq20, zq21, zq22, zq23, zq24, zq25, zq26, zq27, zq28, zq4, zq3, zq1, zq2, zq0, zq29, zq30, zq14, zq15, zq16, zq17, zq13, zq10, zq12, zq11, zq7, zq5, zq6, zq9, zq8, zq31, zq32, ite_T, ite_F, zq33, zq34, zq35, Nat.reduceEqDiff, len22, len24, fa26_0, fa26_1, fa26_2, len27, fa33_0, fa33_1, len35, fa114_0, fa114_1, fa114_2, fa124_0, fa124_1, len134]
  rw [zt_ (by omega) (by omega)]
  refine zvc_ H 0 rfl hC (by omega) (by omega) fun w5 a _ _ H => ?_
  simp only [List.set_cons_zero] at H
  refine ⟨H.box 3 rfl, ?_⟩
  refine zvc_ H 0 rfl hC (by omega) (by omega) fun w6 c _ _ H => ?_
  simp only [List.set_cons_zero] at H
  refine ⟨H.box 3 rfl, ?_⟩
  rw [bin_quo (by decide)]
  simp only [zq18, zq19, zq20, zq21, zq22, zq23, zq24, zq25, zq26, zq27, zq28, zq4, zq3, zq1, zq2, zq0, zq29, zq30, zq14, zq15, zq16, zq17, zq13, zq10, zq12, zq11, zq7, zq5, zq6, zq9, zq8, zq31, zq32, ite_T, ite_F, zq33, zq34, zq35, Nat.reduceEqDiff, len22, len24, fa26_0, fa26_1, fa26_2, len27, fa33_0, fa33_1, len35, fa114_0, fa114_1, fa114_2, fa124_0, fa124_1, len134]
  generalize IntKind.i64.wrap _ = non
  refine zub_ H 2 rfl sz26 rfl rfl rfl fun w8 H => ?_
  simp only [List.cons_append, List.nil_append, List.set_cons_zero, List.set_cons_succ] at H
  rw [zcb_, zj_ zu_ sz26 rfl (H.box 2 rfl)]
  exact hk w8 gm Y cy non H.gr (gowK (H.gow 1 rfl))
theorem zkj_ (hC : Byts w C bs) (hk : ∀ w' gm Y cy g2 Z cz, Gr w w' → kG Y cy gm.rules w' → kG Z cz g2.rules w' → k (.tuple #[grv gm Y cy, grv g2 Z cz]) w') :
    CallK Try.prog 135 [.slice C bs.length cap] k w := by
  refine enter135 ?_
  unfold S135
  have H := Apt.nil w
  refine zkc_ H zdc_ fun b0 w1 H => ?_
  refine zkc_ H zdc_ fun b1 w2 H => ?_
  refine rdi (bd114 (cells := #[.slice C bs.length cap, .int .i64 0, .int .u64 0]) rfl) ?_
  refine boxH H fun b4 w3 H => ?_
  simp only [List.nil_append, List.cons_append] at H
  have H := H.shutCur (N := 0) (tc := TC) (bc := b4) (cv := .slice C bs.length cap) (a := 0) (s := 0) 2 rfl (by omega) (by omega)
  simp only [List.set_cons_succ, List.set_cons_zero] at H
  have H : Apt w w3 [cur b4 (.slice C bs.length cap) 0, bx b0 zg 26, bx b1 zg 26] := H.perm ((List.Perm.cons _ (List.Perm.swap _ _ _)).trans (List.Perm.swap _ _ _))
  refine any_c H hC (by omega) fun w4 gm ft Y cy hd H => ?_
  refine zkc_ H zdc_ fun b10 w5 H => ?_
  refine zub_ H 4 rfl sz26 rfl rfl rfl fun w6 H => ?_
  simp only [List.cons_append, List.nil_append, List.set_cons_zero, List.set_cons_succ] at H
  refine one_c H 0 rfl hC (by omega) (by omega) fun w7 b H => ?_
  simp only [List.set_cons_zero] at H
  have H := H.drew
  cases b
  case true =>
    refine rdi zq29 ?_
    refine ⟨fun w' => Gr w7.drew w', Gr.refl _, ?_⟩
    have B := H.box 4 rfl
    refine rdi (zad_ rfl fun w' h => B.gr h) (rdi (zad_ rfl fun w' h => B.gr h) ?_)
    have hG := gowK (H.gow 1 rfl)
    have hfew := hd.few
    refine zwp_ (gm := gm) (gvK hG) (by omega) (fun i hi => hd.rights _ (by rw [zpc_ hi]; exact List.getElem_mem hi)) fun v w8 g o => ?_
    obtain ⟨X, cx, ps, rfl, o⟩ := o
    obtain ⟨cells, hrow, hcells⟩ := o.cellsG (by decide)
    have H := H.addGow g hrow hcells
    generalize (fun q => w7.drew.heap.size ≤ q ∧ q < w8.heap.size) = ft2 at H
    refine ⟨g, ?_⟩
    simp only [List.cons_append, List.nil_append] at H
    refine zub_ H 2 rfl sz26 rfl rfl rfl fun w9 H => ?_
    simp only [List.cons_append, List.nil_append, List.set_cons_zero, List.set_cons_succ] at H
    refine zub_ H 3 rfl sz26 rfl rfl rfl fun w10 H => ?_
    simp only [List.cons_append, List.nil_append, List.set_cons_zero, List.set_cons_succ] at H
    rw [zcb_, zj_ zu_ sz26 rfl (H.box 2 rfl), zcb_, zj_ zu_ sz26 rfl (H.box 3 rfl)]
    exact hk w10 gm Y cy gm X cx H.gr (gowK (H.gow 1 rfl)) (gowK (H.gow 5 rfl))
  case false =>
    refine rdi zq30 ?_
    refine ⟨fun w' => Box w' b10 [.int .i64 gm.nons, .int .i64 gm.toks, .slice Y gm.rules.length cy] 26, H.box 4 rfl, ?_⟩
    refine rdi (zad_ rfl fun w' h => h) ?_
    refine any_c H hC (by omega) fun w8 g2 ft2 Z cz hd2 H => ?_
    refine ⟨H.box 5 rfl, ?_⟩
    refine zub_ H 3 rfl sz26 rfl rfl rfl fun w9 H => ?_
    simp only [List.cons_append, List.nil_append, List.set_cons_zero, List.set_cons_succ] at H
    refine zub_ H 4 rfl sz26 rfl rfl rfl fun w10 H => ?_
    simp only [List.cons_append, List.nil_append, List.set_cons_zero, List.set_cons_succ] at H
    rw [zcb_, zj_ zu_ sz26 rfl (H.box 3 rfl), zcb_, zj_ zu_ sz26 rfl (H.box 4 rfl)]
    exact hk w10 gm Y cy g2 Z cz H.gr (gowK (H.gow 2 rfl)) (gowK (H.gow 1 rfl))
end
end Go.Proofs.Ytegcjkhebecgbaa

namespace Go.Sh
open Go
end Go.Sh
namespace Go.Proofs.Ytegcjkhebecgbaa
open Go Go.Sh Go.RowKit
theorem putH {k : Value → World → Prop} {w0 w : World} {L : List Thing} (H : Apt w0 w L) (i : Nat) {j c : Nat} {X : Option Addr} {xs : List Int} {x : Int} (hi : L[i]? = some (ows X c xs)) (hj : j < xs.length)
    (h : ∀ w', Apt w0 w' (L.set i (ows X c (xs.set j x))) → k undef w') : Do Try.prog (zi_ 3 (.pointer (some ((ad X).add j))) (.int .i64 x)) k w := by
  refine zuc_ sz3 rfl rfl (H.row i hi) (by omega) fun w' g hs hr => ?_
  have hr' : Row w' w0.heap.size 3 1 X (xs.set j x).length c (ints (xs.set j x)) := by
    rw [List.length_set, show ints (xs.set j x) = (ints xs).set j (.int .i64 x) from by simp [ints]]
    exact hr
  exact h w' (H.set hi (gx_of g fun q hq => hq) (fun q hq => .inl hq) (fun q hq => (Row.ge hr' hq).2) (zdi_ hr'))
section
variable {w : World} {C : Option Addr} {cap : Nat} {bs : List Int} {k : Value → World → Prop}
set_option maxHeartbeats 1600000 in
theorem zxk_ (hC : Byts w C bs) (hk : ∀ w' gm Y cy V cv to, Gr w w' → kG Y cy gm.rules w' → kI V to cv w' → to.length ≤ 1000 → k (.tuple #[grv gm Y cy, .slice V to.length cv]) w') :
    CallK Try.prog 132 [.slice C bs.length cap] k w := by
  refine enter132 ?_
  unfold S132
  refine draw0 fun b1 b4 w1 H => ?_
  refine any_c H hC (by omega) fun w2 gm ft Y cy hd H => ?_
  refine zkc_ H zdc_ fun b8 w3 H => ?_
  refine zub_ H 3 rfl sz26 rfl rfl rfl fun w4 H => ?_
  simp only [List.cons_append, List.nil_append, List.set_cons_zero, List.set_cons_succ] at H
  have H := H.addOwn (Gr.refl w4) (show Own 3 w4 w4.heap.size none 0 [] from Row.nil _ _ _ _)
  simp only [List.cons_append, List.nil_append] at H
  have hn := hd.nons
  refine ztb_ gm.nons.toNat 0 (fun i f w' => i ≤ gm.nons.toNat ∧ f 7 = .int .i64 i ∧ ∃ V cv xs, xs.length = i ∧ f 6 = .slice V i cv ∧ Apt w w' [cur b4 (.slice C bs.length cap) 600, gth ft Y cy gm.rules, bx b1 zg 26, bx b8 [.int .i64 gm.nons, .int .i64 gm.toks, .slice Y gm.rules.length cy] 26, ows V cv xs])
    ⟨Nat.zero_le _, rfl, none, 0, [], rfl, rfl, H⟩ ?_
  clear H
  rintro i f w5 N hag ⟨hi, f7, V, cv, xs, hxl, f6, H⟩ hN
  have f2 : f 2 = ptrv b1 := hag 2 (by decide)
  have f4 : f 4 = ptrv b4 := hag 4 (by decide)
  have f5 : f 5 = ptrv b8 := hag 5 (by decide)
  simp only [f2, f4, f5, f6, f7, zq18, zq19, zq20, zq21, zq22, zq23, zq24, zq25, zq26, zq27, zq28, zq4, zq3, zq1, zq2, zq0, zq29, zq30, zq14, zq15, zq16, zq17, zq13, zq10, zq12, zq11, zq7, zq5, zq6, zq9, zq8, zq31, zq32, ite_T, ite_F, zq33, zq34, zq35, Nat.reduceEqDiff, len22, len24, fa26_0, fa26_1, fa26_2, len27, fa33_0, fa33_1, len35, fa114_0, fa114_1, fa114_2, fa124_0, fa124_1, len134]
  rw [ldB3 (H.box 3 rfl) rfl]
  simp only [zq18, zq19, zq20, zq21, zq22, zq23, zq24, zq25, zq26, zq27, zq28, zq4, zq3, zq1, zq2, zq0, zq29, zq30, zq14, zq15, zq16, zq17, zq13, zq10, zq12, zq11, zq7, zq5, zq6, zq9, zq8, zq31, zq32, ite_T, ite_F, zq33, zq34, zq35, Nat.reduceEqDiff, len22, len24, fa26_0, fa26_1, fa26_2, len27, fa33_0, fa33_1, len35, fa114_0, fa114_1, fa114_2, fa124_0, fa124_1, len134]
  by_cases hlt : i < gm.nons.toNat
  case pos =>
    simp only [show (i : Int) < gm.nons from by omega, decide_true, zq18, zq19, zq20, zq21, zq22, zq23, zq24, zq25, zq26, zq27, zq28, zq4, zq3, zq1, zq2, zq0, zq29, zq30, zq14, zq15, zq16, zq17, zq13, zq10, zq12, zq11, zq7, zq5, zq6, zq9, zq8, zq31, zq32, ite_T, ite_F, zq33, zq34, zq35, Nat.reduceEqDiff, len22, len24, fa26_0, fa26_1, fa26_2, len27, fa33_0, fa33_1, len35, fa114_0, fa114_1, fa114_2, fa124_0, fa124_1, len134]
    refine pushH H 4 rfl hxl.symm (by omega) fun t1 V2 c2 w6 H => ?_
    simp only [List.set_cons_zero, List.set_cons_succ] at H
    rw [zt_ (by omega) (by omega)]
    refine hN _ _ hlt ⟨hlt, rfl, V2, c2, xs ++ [(i : Int)], by simp [hxl], ?_, H⟩
    show Value.slice V2 (xs ++ [(i : Int)]).length c2 = _
    rw [List.length_append, hxl]
    rfl
  simp only [show ¬ (i : Int) < gm.nons from by omega, decide_false, zq18, zq19, zq20, zq21, zq22, zq23, zq24, zq25, zq26, zq27, zq28, zq4, zq3, zq1, zq2, zq0, zq29, zq30, zq14, zq15, zq16, zq17, zq13, zq10, zq12, zq11, zq7, zq5, zq6, zq9, zq8, zq31, zq32, ite_T, ite_F, zq33, zq34, zq35, Nat.reduceEqDiff, len22, len24, fa26_0, fa26_1, fa26_2, len27, fa33_0, fa33_1, len35, fa114_0, fa114_1, fa114_2, fa124_0, fa124_1, len134]
  have hxb : xs.length ≤ 1000 := by omega
  rw [← hxl] at f6 ⊢
  clear hN f7 hlt hi hxl
  refine ztb_ (xs.length + 1) 1 (fun q h w' => 1 ≤ q ∧ q ≤ xs.length + 1 ∧ h 8 = .int .i64 q ∧ ∃ ys N', ys.length = xs.length ∧ N' ≤ 600 + 2 * q ∧ Apt w w' [cur b4 (.slice C bs.length cap) N', gth ft Y cy gm.rules, bx b1 zg 26, bx b8 [.int .i64 gm.nons, .int .i64 gm.toks, .slice Y gm.rules.length cy] 26, ows V cv ys])
    ⟨Nat.le_refl _, by omega, rfl, xs, 600, rfl, by omega, H⟩ ?_
  clear H
  rintro q h w6 N hah ⟨hq1, hq, h8, ys, N', hyl, hN', H⟩ hN
  have e2 : h 2 = ptrv b1 := (hah 2 (by decide)).trans f2
  have e4 : h 4 = ptrv b4 := (hah 4 (by decide)).trans f4
  have e5 : h 5 = ptrv b8 := (hah 5 (by decide)).trans f5
  have e6 : h 6 = .slice V xs.length cv := (hah 6 (by decide)).trans f6
  simp only [e2, e4, e5, e6, h8, zq18, zq19, zq20, zq21, zq22, zq23, zq24, zq25, zq26, zq27, zq28, zq4, zq3, zq1, zq2, zq0, zq29, zq30, zq14, zq15, zq16, zq17, zq13, zq10, zq12, zq11, zq7, zq5, zq6, zq9, zq8, zq31, zq32, ite_T, ite_F, zq33, zq34, zq35, Nat.reduceEqDiff, len22, len24, fa26_0, fa26_1, fa26_2, len27, fa33_0, fa33_1, len35, fa114_0, fa114_1, fa114_2, fa124_0, fa124_1, len134]
  by_cases hlt : q < xs.length
  case pos =>
    simp only [show (q : Int) < xs.length from by omega, decide_true, zq18, zq19, zq20, zq21, zq22, zq23, zq24, zq25, zq26, zq27, zq28, zq4, zq3, zq1, zq2, zq0, zq29, zq30, zq14, zq15, zq16, zq17, zq13, zq10, zq12, zq11, zq7, zq5, zq6, zq9, zq8, zq31, zq32, ite_T, ite_F, zq33, zq34, zq35, Nat.reduceEqDiff, len22, len24, fa26_0, fa26_1, fa26_2, len27, fa33_0, fa33_1, len35, fa114_0, fa114_1, fa114_2, fa124_0, fa124_1, len134]
    refine zvc_ H 0 rfl hC (by omega) (by omega) fun w7 b hb1 hb2 H => ?_
    simp only [List.set_cons_zero] at H
    have hbq : b + 1 ≤ q := by
      by_cases h1 : (q : Int) ≤ 1
      · have := hb1 h1
        omega
      · have := hb2 (by omega)
        omega
    simp only [zq18, zq19, zq20, zq21, zq22, zq23, zq24, zq25, zq26, zq27, zq28, zq4, zq3, zq1, zq2, zq0, zq29, zq30, zq14, zq15, zq16, zq17, zq13, zq10, zq12, zq11, zq7, zq5, zq6, zq9, zq8, zq31, zq32, ite_T, ite_F, zq33, zq34, zq35, Nat.reduceEqDiff, len22, len24, fa26_0, fa26_1, fa26_2, len27, fa33_0, fa33_1, len35, fa114_0, fa114_1, fa114_2, fa124_0, fa124_1, len134]
    rw [zt_ (by omega) (by omega), show (1 : Int) + (b : Int) = ((1 + b : Nat) : Int) from by omega]
    have hV := Apt.ints H 4 rfl
    have hp : 0 < xs.length → V = some (ad V) := fun h => hV.ptr (by omega)
    refine rdi (zcc_ hp hlt) (rdi (ld3 (hV.cell q (by omega))) ?_)
    refine rdi (zcc_ hp (by omega)) (rdi (ld3 (hV.cell (1 + b) (by omega))) ?_)
    refine rdi (zcc_ hp hlt) ?_
    refine putH H 4 rfl (by omega) fun w8 H => ?_
    simp only [List.set_cons_zero, List.set_cons_succ] at H
    refine rdi (zcc_ hp (by omega)) ?_
    refine putH H 4 rfl (by rw [List.length_set]; omega) fun w9 H => ?_
    simp only [List.set_cons_zero, List.set_cons_succ] at H
    rw [zt_ (by omega) (by omega)]
    exact hN _ _ (by omega) ⟨by omega, by omega, rfl, _, _, by rw [List.length_set, List.length_set]; exact hyl, by omega, H⟩
  simp only [show ¬ (q : Int) < xs.length from by omega, decide_false, zq18, zq19, zq20, zq21, zq22, zq23, zq24, zq25, zq26, zq27, zq28, zq4, zq3, zq1, zq2, zq0, zq29, zq30, zq14, zq15, zq16, zq17, zq13, zq10, zq12, zq11, zq7, zq5, zq6, zq9, zq8, zq31, zq32, ite_T, ite_F, zq33, zq34, zq35, Nat.reduceEqDiff, len22, len24, fa26_0, fa26_1, fa26_2, len27, fa33_0, fa33_1, len35, fa114_0, fa114_1, fa114_2, fa124_0, fa124_1, len134]
  clear hN h8 hq1 hlt
  have H := zpd_ (m := 3000) H (by omega)
  clear hN'
  refine zmd_ (fun g w' => g 2 = ptrv b1 ∧ g 5 = ptrv b8 ∧ g 6 = .slice V xs.length cv ∧ ∃ ys, ys.length = xs.length ∧ Apt w w' [cur b4 (.slice C bs.length cap) 4000, gth ft Y cy gm.rules, bx b1 zg 26, bx b8 [.int .i64 gm.nons, .int .i64 gm.toks, .slice Y gm.rules.length cy] 26, ows V cv ys]) (fun K hK => ?_) ?_
  · by_cases h0 : 0 < xs.length
    case neg =>
      simp only [show ¬ ((xs.length : Int) > 0) from by omega, decide_false, zq18, zq19, zq20, zq21, zq22, zq23, zq24, zq25, zq26, zq27, zq28, zq4, zq3, zq1, zq2, zq0, zq29, zq30, zq14, zq15, zq16, zq17, zq13, zq10, zq12, zq11, zq7, zq5, zq6, zq9, zq8, zq31, zq32, ite_T, ite_F, zq33, zq34, zq35, Nat.reduceEqDiff, len22, len24, fa26_0, fa26_1, fa26_2, len27, fa33_0, fa33_1, len35, fa114_0, fa114_1, fa114_2, fa124_0, fa124_1, len134]
      exact hK _ _ ⟨e2, e5, e6, ys, hyl, zpd_ H (by omega)⟩
    simp only [show ((xs.length : Int) > 0) from by omega, decide_true, zq18, zq19, zq20, zq21, zq22, zq23, zq24, zq25, zq26, zq27, zq28, zq4, zq3, zq1, zq2, zq0, zq29, zq30, zq14, zq15, zq16, zq17, zq13, zq10, zq12, zq11, zq7, zq5, zq6, zq9, zq8, zq31, zq32, ite_T, ite_F, zq33, zq34, zq35, Nat.reduceEqDiff, len22, len24, fa26_0, fa26_1, fa26_2, len27, fa33_0, fa33_1, len35, fa114_0, fa114_1, fa114_2, fa124_0, fa124_1, len134]
    refine one_c H 0 rfl hC (by omega) (by omega) fun w7 b H => ?_
    simp only [List.set_cons_zero] at H
    cases b
    · simp only [zq18, zq19, zq20, zq21, zq22, zq23, zq24, zq25, zq26, zq27, zq28, zq4, zq3, zq1, zq2, zq0, zq29, zq30, zq14, zq15, zq16, zq17, zq13, zq10, zq12, zq11, zq7, zq5, zq6, zq9, zq8, zq31, zq32, ite_T, ite_F, zq33, zq34, zq35, Nat.reduceEqDiff, len22, len24, fa26_0, fa26_1, fa26_2, len27, fa33_0, fa33_1, len35, fa114_0, fa114_1, fa114_2, fa124_0, fa124_1, len134]
      exact hK _ _ ⟨e2, e5, e6, ys, hyl, zpd_ H (by omega)⟩
    · simp only [zq18, zq19, zq20, zq21, zq22, zq23, zq24, zq25, zq26, zq27, zq28, zq4, zq3, zq1, zq2, zq0, zq29, zq30, zq14, zq15, zq16, zq17, zq13, zq10, zq12, zq11, zq7, zq5, zq6, zq9, zq8, zq31, zq32, ite_T, ite_F, zq33, zq34, zq35, Nat.reduceEqDiff, len22, len24, fa26_0, fa26_1, fa26_2, len27, fa33_0, fa33_1, len35, fa114_0, fa114_1, fa114_2, fa124_0, fa124_1, len134]
      refine zvc_ H 0 rfl hC (by omega) (by omega) fun w8 b _ _ H => ?_
      simp only [List.set_cons_zero] at H
      have hV := Apt.ints H 4 rfl
      have hp : 0 < xs.length → V = some (ad V) := fun h => hV.ptr (by omega)
      refine rdi (zcc_ (i := 0) hp h0) ?_
      refine putH H 4 rfl (by omega) fun w9 H => ?_
      simp only [List.set_cons_zero, List.set_cons_succ] at H
      exact hK _ _ ⟨e2, e5, e6, _, by rw [List.length_set]; exact hyl, zpd_ H (by omega)⟩
  clear H
  rintro g w7 ⟨g2, g5, g6, ys, hyl, H⟩
  simp only [g2, g5, g6, zq18, zq19, zq20, zq21, zq22, zq23, zq24, zq25, zq26, zq27, zq28, zq4, zq3, zq1, zq2, zq0, zq29, zq30, zq14, zq15, zq16, zq17, zq13, zq10, zq12, zq11, zq7, zq5, zq6, zq9, zq8, zq31, zq32, ite_T, ite_F, zq33, zq34, zq35, Nat.reduceEqDiff, len22, len24, fa26_0, fa26_1, fa26_2, len27, fa33_0, fa33_1, len35, fa114_0, fa114_1, fa114_2, fa124_0, fa124_1, len134]
  rw [zj_ zu_ sz26 rfl (H.box 3 rfl)]
  refine zub_ H 2 rfl sz26 rfl rfl rfl fun w8 H => ?_
  simp only [List.set_cons_zero, List.set_cons_succ, List.nil_append, List.cons_append] at H
  rw [zcb_, zj_ zu_ sz26 rfl (H.box 2 rfl)]
  have o := H.own 4 rfl
  rw [← hyl]
  exact hk w8 gm Y cy V cv ys H.gr (gowK (H.gow 1 rfl)) ⟨o.ints, (Row.cap o).1⟩ (by omega)
end
section
variable {w : World} {k : Value → World → Prop} {Y : Option Addr} {cy : Nat} {gm : Gram}
end
end Go.Proofs.Ytegcjkhebecgbaa

namespace Go.Sh
open Go
end Go.Sh
namespace Go.Proofs.Ytegcjkhebecgbaa
open Go Go.Sh Go.RowKit
section
variable {w : World} {Y : Option Addr} {cy : Nat} {gm : Gram} {k : Value → World → Prop}
end
section
variable {w : World} {C : Option Addr} {cap : Nat} {bs : List Int} {k : Value → World → Prop}
end
open Go Go.Sh

end Go.Proofs.Ytegcjkhebecgbaa

namespace Go.Sh

end Go.Sh
namespace Go.Proofs.Ytegcjkhebecgbaa
open Go Go.Sh Go.RowKit

end Go.Proofs.Ytegcjkhebecgbaa

namespace Go.Sh
open Go
theorem zdf_ {gm : Gram} (hg : zv_ gm = true) : ∀ r ∈ gm.rules, (0 ≤ r.1 ∧ r.1 < gm.nons) ∧ r.2.length ≤ 4 ∧ ∀ x ∈ r.2, -gm.toks ≤ x ∧ x < gm.nons := fun r hr => by
  obtain ⟨i, hi, rfl⟩ := List.getElem_of_mem hr
  have h1 := zwe_ hg hi
  have h2 := good_rights hg hi
  rw [zpc_ hi] at h1 h2
  exact ⟨by omega, h2.1, fun x hx => by have := h2.2 x hx; omega⟩
theorem inL_yi {gm : Gram} {ws : List Int} (hg : zv_ gm = true) (hw : ws.length ≤ 10) : inL gm.rules ws = true ↔ Yi gm.rules (.inl 0) ws := by
  unfold inL
  rw [span_iff (good_lefts hg) (zgi_ hg) hw (Nat.le_refl _), der_yi (Nat.zero_le _) (Nat.le_refl _), cut_all]
theorem zdj_ {gm : Gram} {ws : List Int} (hg : zv_ gm = true) (hw : zxd_ gm.toks ws = true) : inLV gm ws = (inL gm.rules ws, true) := by
  unfold inLV wordG
  rw [hg, hw, if_pos (by rfl)]
end Go.Sh
namespace Go.Proofs.Ytegcjkhebecgbaa
open Go Go.Sh Go.RowKit
section
variable {w : World} {L : List (World → Prop)} {k : Value → World → Prop} {Y X : Option Addr} {cy cx n : Nat} {gm : Gram} {ws : List Int}
theorem newG2 {k : Value → Value → World → Prop} (H : Kn w L) {gm g2 : Gram} {Y Z : Option Addr} {cy cz : Nat} (h : ∀ b c w', Kn w' ((L ++ [kB b [.int .i64 gm.nons, .int .i64 gm.toks, .slice Y gm.rules.length cy] 26]) ++ [kB c [.int .i64 g2.nons, .int .i64 g2.toks, .slice Z g2.rules.length cz] 26]) → k (ptrv b) (ptrv c) w') :
    Do Try.prog (zw_ 26) (fun p w1 => Do Try.prog (zw_ 26) (fun q w2 => Do Try.prog (zi_ 26 p (grv gm Y cy)) (fun _ w3 => Do Try.prog (zi_ 26 q (grv g2 Z cz)) (fun _ w4 => k p q w4) w3) w2) w1) w := by
  have A := Apt.nil w
  refine zkc_ A zdc_ fun b w1 A => ?_
  refine zkc_ A zdc_ fun c w2 A => ?_
  simp only [List.nil_append, List.cons_append] at A
  refine zub_ A 0 rfl sz26 rfl rfl rfl fun w3 A => ?_
  have A : Apt w w3 [bx b [.int .i64 gm.nons, .int .i64 gm.toks, .slice Y gm.rules.length cy] 26, bx c zg 26] := A
  refine zub_ A 1 rfl sz26 rfl rfl rfl fun w4 A => ?_
  have A : Apt w w4 [bx b [.int .i64 gm.nons, .int .i64 gm.toks, .slice Y gm.rules.length cy] 26, bx c [.int .i64 g2.nons, .int .i64 g2.toks, .slice Z g2.rules.length cz] 26] := A
  exact h b c w4 (((H.step A.gr).addB (A.box 0 rfl)).addB (A.box 1 rfl))
end
end Go.Proofs.Ytegcjkhebecgbaa

namespace Go.Sh
open Go
theorem goodG_iff {g : Gram} : zv_ g = true ↔ inB g.nons 1 6 = true ∧ inB g.toks 1 4 = true ∧ g.rules.length ≤ 16 ∧ (∀ r ∈ g.rules, inB r.1 0 (g.nons - 1) = true ∧ r.2.length ≤ 4 ∧ r.2.all (symB g.nons g.toks) = true) ∧ g.rules.Nodup := by
  unfold zv_
  simp only [Bool.and_eq_true, decide_eq_true_eq, List.all_eq_true (l := List.range g.rules.length), List.mem_range]
  constructor
  · rintro ⟨⟨⟨h1, h2⟩, h3⟩, h4⟩
    refine ⟨h1, h2, h3, fun r hr => ?_, ?_⟩
    · obtain ⟨i, hi, rfl⟩ := List.getElem_of_mem hr
      have := h4 i hi
      simp only [zfd_, Bool.and_eq_true, decide_eq_true_eq, zpc_ hi] at this
      exact ⟨this.1.1.1, this.1.1.2, this.1.2⟩
    · rw [List.Nodup, List.pairwise_iff_getElem]
      intro i j hi hj hij e
      have := h4 j hj
      simp only [zfd_, Bool.and_eq_true, Bool.not_eq_true', List.any_eq_false, decide_eq_true_eq, zpc_ hj] at this
      refine this.2 g.rules[i] ?_ e.symm
      rw [List.mem_take_iff_getElem]
      exact ⟨i, by omega, rfl⟩
  · rintro ⟨h1, h2, h3, h4, h5⟩
    refine ⟨⟨⟨h1, h2⟩, h3⟩, fun i hi => ?_⟩
    obtain ⟨a1, a2, a3⟩ := h4 g.rules[i] (List.getElem_mem hi)
    simp only [zfd_, Bool.and_eq_true, Bool.not_eq_true', List.any_eq_false, decide_eq_true_eq, zpc_ hi]
    refine ⟨⟨⟨a1, a2⟩, a3⟩, fun q hq e => ?_⟩
    obtain ⟨j, hj, rfl⟩ := List.getElem_of_mem hq
    rw [List.length_take] at hj
    rw [List.getElem_take] at e
    rw [List.Nodup, List.pairwise_iff_getElem] at h5
    exact h5 j i (by omega) hi (by omega) e.symm
theorem good_map {gm : Gram} {f : RuleL → RuleL} (hg : zv_ gm = true) (hi : ∀ a ∈ gm.rules, ∀ b ∈ gm.rules, f a = f b → a = b)
    (hf : ∀ r ∈ gm.rules, inB (f r).1 0 (gm.nons - 1) = true ∧ (f r).2.length ≤ 4 ∧ (f r).2.all (symB gm.nons gm.toks) = true) : zv_ ⟨gm.nons, gm.toks, gm.rules.map f⟩ = true := by
  obtain ⟨h1, h2, h3, h4, h5⟩ := goodG_iff.1 hg
  refine goodG_iff.2 ⟨h1, h2, by simpa using h3, fun r hr => ?_, ?_⟩
  · obtain ⟨q, hq, rfl⟩ := List.mem_map.1 hr
    exact hf q hq
  · show ((gm.rules.map f).Pairwise (· ≠ ·))
    rw [List.pairwise_map]
    exact List.Pairwise.imp_of_mem (fun {a b} ha hb hne e => hne (hi a ha b hb e)) h5
theorem good_parts {gm : Gram} (hg : zv_ gm = true) : ∀ r ∈ gm.rules, inB r.1 0 (gm.nons - 1) = true ∧ r.2.length ≤ 4 ∧ r.2.all (symB gm.nons gm.toks) = true := (goodG_iff.1 hg).2.2.2.1
def revG (gm : Gram) : Gram := ⟨gm.nons, gm.toks, gm.rules.map revR⟩
theorem zii_ {gm : Gram} (hg : zv_ gm = true) : zv_ (revG gm) = true :=
  good_map hg (fun a _ b _ e => by
    have := congrArg revR e
    rwa [zrh_, zrh_] at this) fun r hr => by
    obtain ⟨h1, h2, h3⟩ := good_parts hg r hr
    exact ⟨h1, by simpa [revR] using h2, by simpa [revR] using h3⟩
theorem zdp_ {gm : Gram} (hg : zv_ gm = true) : zud_ gm = (revG gm, true) := by
  unfold zud_
  rw [if_pos hg]
  rfl
theorem revG_revG (gm : Gram) : revG (revG gm) = gm := by
  obtain ⟨a, b, rs⟩ := gm
  simp only [revG, List.map_map, Gram.mk.injEq, true_and]
  conv => rhs; rw [← List.map_id rs]
  exact List.map_congr_left fun r _ => zrh_ r
theorem revOf_rev {gm : Gram} (hg : zv_ gm = true) : zud_ (revG gm) = (gm, true) := by
  rw [zdp_ (zii_ hg), revG_revG]
theorem word_rev {toks : Int} {ws : List Int} (h : zxd_ toks ws = true) : zxd_ toks ws.reverse = true := by
  simp only [zxd_, allB, Bool.and_eq_true, decide_eq_true_eq, List.all_eq_true, List.length_reverse, List.mem_reverse] at h ⊢
  exact h
theorem inLV_rev {gm : Gram} {ws : List Int} (hg : zv_ gm = true) (hw : zxd_ gm.toks ws = true) : inLV (revG gm) ws.reverse = inLV gm ws := by
  have hl : ws.length ≤ 10 := by
    simp only [zxd_, Bool.and_eq_true, decide_eq_true_eq] at hw
    exact hw.1
  rw [zdj_ hg hw, zdj_ (zii_ hg) (word_rev hw)]
  congr 1
  rw [Bool.eq_iff_iff, inL_yi (zii_ hg) (by simpa using hl), inL_yi hg hl]
  exact yi_rev_iff
theorem size_rev {gm : Gram} (hg : zv_ gm = true) : zre_ (revG gm) = zre_ gm := by
  unfold zre_
  rw [if_pos hg, if_pos (zii_ hg)]
  have : sizeR (revG gm).rules = sizeR gm.rules := by
    simp only [sizeR, lens, revG, List.map_map, List.length_map]
    congr 2
    exact List.map_congr_left fun r _ => by simp [revR]
  rw [this]
def renG (gm : Gram) (to : List Int) : Gram := ⟨gm.nons, gm.toks, gm.rules.map (renR to)⟩
def nmT (to : List Int) (a : Nat) : Nat := (to.getD a 0).toNat
theorem map_inj_on {f : Int → Int} : ∀ {xs ys : List Int}, (∀ x ∈ xs, ∀ y ∈ ys, f x = f y → x = y) → xs.map f = ys.map f → xs = ys := by
  intro xs
  induction xs with
  | nil =>
    intro ys _ e
    cases ys with
    | nil => rfl
    | cons y ys => simp at e
  | cons x xs ih =>
    intro ys h e
    cases ys with
    | nil => simp at e
    | cons y ys =>
      simp only [List.map_cons, List.cons.injEq] at e
      rw [h x (List.mem_cons_self ..) y (List.mem_cons_self ..) e.1, ih (fun a ha b hb => h a (List.mem_cons_of_mem _ ha) b (List.mem_cons_of_mem _ hb)) e.2]
section
variable {gm : Gram} {to : List Int}
theorem to_inj (hp : zgc_ gm to = true) {i j : Nat} (hi : (i : Int) < gm.nons) (hj : (j : Int) < gm.nons) (e : to.getD i 0 = to.getD j 0) : i = j := by
  obtain ⟨h1, _, h3, _⟩ := zig_ hp
  have hn := nodup_at.1 h3
  rcases Nat.lt_trichotomy i j with h | h | h
  · exact absurd e (hn i j h (by omega))
  · exact h
  · exact absurd e.symm (hn j i h (by omega))
theorem renS_inj (hp : zgc_ gm to = true) {x y : Int} (hx : x < gm.nons) (hy : y < gm.nons) (e : renS to x = renS to y) : x = y := by
  obtain ⟨h1, _, _, h4⟩ := zig_ hp
  unfold renS at e
  by_cases hx0 : x ≥ 0
  · rw [if_pos hx0] at e
    have hb := h4 x.toNat (by omega)
    by_cases hy0 : y ≥ 0
    · rw [if_pos hy0] at e
      have := to_inj hp (i := x.toNat) (j := y.toNat) (by omega) (by omega) e
      omega
    · rw [if_neg hy0] at e
      omega
  · rw [if_neg hx0] at e
    by_cases hy0 : y ≥ 0
    · rw [if_pos hy0] at e
      have hb := h4 y.toNat (by omega)
      omega
    · rw [if_neg hy0] at e
      exact e
theorem good_ren (hg : zv_ gm = true) (hp : zgc_ gm to = true) : zv_ (renG gm to) = true := by
  obtain ⟨h1, _, _, h4⟩ := zig_ hp
  refine good_map hg (fun a ha b hb e => ?_) fun r hr => ?_
  · obtain ⟨a1, a2, a3⟩ := zdf_ hg a ha
    obtain ⟨b1, b2, b3⟩ := zdf_ hg b hb
    simp only [renR, Prod.mk.injEq] at e
    have e1 := to_inj hp (i := a.1.toNat) (j := b.1.toNat) (by omega) (by omega) e.1
    have e2 := map_inj_on (fun x hx y hy => renS_inj hp (a3 x hx).2 (b3 y hy).2) e.2
    exact Prod.ext (by omega) e2
  · obtain ⟨a1, a2, a3⟩ := zdf_ hg r hr
    have hb := h4 r.1.toNat (by omega)
    refine ⟨?_, by simpa [renR] using a2, ?_⟩
    · show inB (to.getD r.1.toNat 0) 0 (gm.nons - 1) = true
      simp only [inB, Bool.and_eq_true, decide_eq_true_eq]
      omega
    · rw [List.all_eq_true]
      intro y hy
      obtain ⟨x, hx, rfl⟩ := List.mem_map.1 hy
      have hx' := a3 x hx
      unfold symB inB renS
      simp only [Bool.and_eq_true, decide_eq_true_eq]
      have := zve_ hg
      by_cases hx0 : x ≥ 0
      · have hb := h4 x.toNat (by omega)
        rw [if_pos hx0]
        omega
      · rw [if_neg hx0]
        omega
theorem renR_map (hg : zv_ gm = true) (hp : zgc_ gm to = true) : ∀ r ∈ gm.rules, renR to r = ((nmT to r.1.toNat : Int), r.2.map (mapX (nmT to))) := fun r hr => by
  obtain ⟨h1, _, _, h4⟩ := zig_ hp
  obtain ⟨a1, a2, a3⟩ := zdf_ hg r hr
  have hb := h4 r.1.toNat (by omega)
  refine Prod.ext ?_ ?_
  · show to.getD r.1.toNat 0 = _
    unfold nmT
    omega
  · refine List.map_congr_left fun x hx => ?_
    have hx' := a3 x hx
    unfold renS mapX nmT
    by_cases h0 : x < 0
    · rw [if_neg (by omega), if_pos h0]
    · have hb := h4 x.toNat (by omega)
      rw [if_pos (by omega), if_neg h0]
      omega
theorem inLV_ren (hg : zv_ gm = true) (hp : zgc_ gm to = true) : ∃ b, inLV (renG gm to) [0, 0] = (b, true) ∧ inLV gm [0, 0] = (b, true) := by
  obtain ⟨h1, h2, _, h4⟩ := zig_ hp
  have ht := zve_ hg
  have hn := zed_ hg
  have hw : zxd_ gm.toks [0, 0] = true := by
    simp only [zxd_, allB, inB, Bool.and_eq_true, decide_eq_true_eq, List.all_eq_true]
    refine ⟨by decide, fun t h => ?_⟩
    have : t = 0 := by simpa using h
    omega
  refine ⟨inL gm.rules [0, 0], ?_, zdj_ hg hw⟩
  rw [zdj_ (good_ren hg hp) hw]
  congr 1
  rw [Bool.eq_iff_iff, inL_yi (good_ren hg hp) (by decide), inL_yi hg (by decide)]
  have := yi_map (rs := gm.rules) (us := gm.rules.map (renR to)) (f := nmT to) (D := fun a => (a : Int) < gm.nons)
    (fun r hr A hA hD x hx h0 => by have := (zdf_ hg r hr).2.2 x hx; omega)
    (fun r hr A hA hD => by
      have h : renR to r ∈ gm.rules.map (renR to) := List.mem_map.2 ⟨r, hr, rfl⟩
      rw [renR_map hg hp r hr] at h
      rwa [show r.1.toNat = A from by omega] at h)
    (fun u hu A hD hA => by
      obtain ⟨r, hr, rfl⟩ := List.mem_map.1 hu
      obtain ⟨a1, a2, a3⟩ := zdf_ hg r hr
      rw [renR_map hg hp r hr] at hA ⊢
      have hb := h4 r.1.toNat (by omega)
      have hc := h4 A (by omega)
      have e : to.getD r.1.toNat 0 = to.getD A 0 := by
        simp only [nmT] at hA
        omega
      have := to_inj hp (i := r.1.toNat) (j := A) (by omega) hD e
      exact ⟨r, hr, by omega, rfl⟩) (A := 0) (by omega) (w := [0, 0])
  have h0 : nmT to 0 = 0 := by unfold nmT; rw [h2]; rfl
  rw [h0] at this
  exact this
end
end Go.Sh

namespace Go.Proofs.Ytegcjkhebecgbaa
open Go Go.Sh Go.RowKit
section
variable {S : WS} {k : Value → Prop} {c b : Bool} {x : Int} {kd : IntKind} {t : TypeId}
theorem zjb_ : Rd Try.prog S (sBin .neq t c (.int kd x) (.int kd x)) k = k (.bool false) := by rw [zq22, decide_eq_true rfl]; rfl
theorem zkb_ : Rd Try.prog S (sBin .eql t c (.int kd x) (.int kd x)) k = k (.bool true) := by rw [zq21, decide_eq_true rfl]
theorem zgb_ : Rd Try.prog S (sBin .neq 4 c (.bool b) (.bool b)) k = k (.bool false) := by rw [bneq]; cases b <;> rfl
theorem zhb_ : Rd Try.prog S (sBin .eql 4 c (.bool b) (.bool b)) k = k (.bool true) := by rw [beql]; cases b <;> rfl
end
end Go.Proofs.Ytegcjkhebecgbaa

namespace Go.Sh
open Go Go.Proofs.YtegcjkhebecgbaaW.PrintLast
def zie_ : Code → List (Nat × Array Oper)
  | .region id ops true => [(id, ops)]
  | .seq a b => zie_ a ++ zie_ b
  | .cond _ a b => zie_ a ++ zie_ b
  | .block _ b => zie_ b
  | .loop b => zie_ b
  | _ => []
def regAt (c : Code) (i : Nat) : Nat × Array Oper := (zie_ c).getD i (0, #[])
theorem zet_ (pl : Plans) : ∀ c : Code, plansOK pl c = (zie_ c).all fun x => planOK x.2 (pl x.1) := by
  intro c
  induction c with
  | region id ops b => cases b <;> simp [plansOK, zie_]
  | seq a b iha ihb => simp [plansOK, zie_, iha, ihb]
  | cond v a b iha ihb => simp [plansOK, zie_, iha, ihb]
  | block i b ih => simp [plansOK, zie_, ih]
  | loop b ih => simp [plansOK, zie_, ih]
  | _ => rfl
theorem plansOK_at {pl : Plans} {c : Code} {n : Nat} (hn : (zie_ c).length = n) (h : ∀ i, i < n → planOK (regAt c i).2 (pl (regAt c i).1) = true) : plansOK pl c = true := by
  rw [zet_, List.all_eq_true]
  intro x hx
  obtain ⟨i, hi, rfl⟩ := List.getElem_of_mem hx
  have := h i (hn ▸ hi)
  unfold regAt at this
  rw [List.getD_eq_getElem?_getD, List.getElem?_eq_getElem hi] at this
  exact this
section
variable {ops : Array Oper} {ds : List Nat} {i n : Nat} {r : Steps} {l l' : Array Bool} {s : Bool}
theorem ok_nil (h : (Region.ready .any ops l == []) = true) : stepsOK ops ds .nil 0 l s = true := by
  rw [stepsOK, h]
  rfl
theorem zac_ (e : l.setIfInBounds i true = l') (h : (zcd_ ops i && anyB .any ops l l' i) = true) (hr : stepsOK ops ds r n l' s = true) : stepsOK ops ds (.step i .any r) (n + 1) l s = true := by
  subst e
  rw [stepsOK, h, hr]
  rfl
theorem ok_held (e : l.setIfInBounds i true = l') (h : (zcd_ ops i && takeB .any ops ds l l' i) = true) (hr : stepsOK ops ds r n l' true = true) : stepsOK ops ds (.step i .held r) (n + 1) l true = true := by
  subst e
  rw [stepsOK, Bool.true_and, h, hr]
  rfl
def edgeB (md : Region.Mode) (ops : Array Oper) (d x : Nat) : Bool := match ops[d]? with
  | some o => o.after.any fun e => Region.binds md e && e.on == x
  | none => false
def pathB (md : Region.Mode) (ops : Array Oper) (i : Nat) : Nat → List Nat → Bool
  | d, [] => edgeB md ops d i
  | d, p :: ps => edgeB md ops d p && pathB md ops i p ps
theorem path_reach {md : Region.Mode} : ∀ (ps : List Nat) (d fuel : Nat), pathB md ops i d ps = true → ps.length < fuel → Region.reachB md ops i fuel d = true := by
  intro ps
  induction ps with
  | nil =>
    intro d fuel h hf
    obtain ⟨f, rfl⟩ : ∃ f, fuel = f + 1 := ⟨fuel - 1, by omega⟩
    rw [pathB, edgeB] at h
    rw [Region.reachB]
    split at h
    · rename_i o ho
      obtain ⟨e, he, h2⟩ := Array.any_eq_true'.1 h
      rw [ho]
      refine Array.any_eq_true'.2 ⟨e, he, ?_⟩
      rw [Bool.and_eq_true] at h2 ⊢
      exact ⟨h2.1, by rw [h2.2, Bool.true_or]⟩
    · cases h
  | cons p ps ih =>
    intro d fuel h hf
    rw [List.length_cons] at hf
    obtain ⟨f, rfl⟩ : ∃ f, fuel = f + 1 := ⟨fuel - 1, by omega⟩
    rw [pathB, edgeB, Bool.and_eq_true] at h
    have h3 := ih p f h.2 (by omega)
    have h := h.1
    rw [Region.reachB]
    split at h
    · rename_i o ho
      obtain ⟨e, he, h2⟩ := Array.any_eq_true'.1 h
      rw [ho]
      refine Array.any_eq_true'.2 ⟨e, he, ?_⟩
      rw [Bool.and_eq_true] at h2 ⊢
      rw [beq_iff_eq] at h2
      exact ⟨h2.1, by rw [h2.2, h3, Bool.or_true]⟩
    · cases h
def lastL (md : Region.Mode) (ops : Array Oper) (l : Array Bool) (i : Nat) : List Nat → List (List Nat) → Bool
  | [], _ => true
  | d :: ds, p :: pp => (l.getD d true || (pathB md ops i d p && Nat.blt p.length ops.size)) && lastL md ops l i ds pp
  | _ :: _, [] => false
theorem lastL_spec {md : Region.Mode} : ∀ (ds : List Nat) (pp : List (List Nat)), lastL md ops l i ds pp = true → Region.lastB md ops l ds i = true := by
  intro ds
  induction ds with
  | nil => intro pp _; rfl
  | cons d ds ih =>
    intro pp h
    cases pp with
    | nil => cases h
    | cons p pp =>
      rw [lastL, Bool.and_eq_true] at h
      have h2 := ih pp h.2
      unfold Region.lastB at h2 ⊢
      rw [List.all_cons, h2, Bool.and_true]
      have h1 := h.1
      rw [Bool.or_eq_true, Bool.and_eq_true] at h1
      rw [Bool.or_eq_true]
      rcases h1 with h1 | ⟨h1, h3⟩
      · exact .inl h1
      · exact .inr (path_reach p d ops.size h1 (Nat.blt_eq.mp h3))
theorem zme_ (pp : List (List Nat)) (e : l.setIfInBounds i true = l') (h : (zcd_ ops i && (Region.noSelect ops && Region.free .any ops l i && (Region.ready .any ops l).contains i && Region.closedB .any ops l)) = true) (hl : lastL .any ops l i ds pp = true)
    (hr : stepsOK ops ds r n l' true = true) : stepsOK ops ds (.step i .held r) (n + 1) l true = true := by
  refine ok_held e ?_ hr
  rw [Bool.and_eq_true] at h ⊢
  refine ⟨h.1, ?_⟩
  unfold takeB
  rw [h.2, lastL_spec ds pp hl, e]
  simp
theorem ok_one (e : l.setIfInBounds i true = l') (h : (!ds.contains i && (Region.ready .any ops l == [i])) = true) (hr : stepsOK ops ds r n l' true = true) : stepsOK ops ds (.step i .one r) (n + 1) l true = true := by
  subst e
  rw [stepsOK, Bool.true_and, h, hr]
  rfl
theorem ok_last (e : l.setIfInBounds i true = l') (h : (!zcd_ ops i && ds.contains i && (Region.ready .any ops l == [i])) = true) (hr : stepsOK ops ds r n l' false = true) : stepsOK ops ds (.step i .last r) (n + 1) l s = true := by
  subst e
  rw [stepsOK, h, hr]
  rfl
end
end Go.Sh

namespace Go.Proofs.Ytegcjkhebecgbaa
open Go Go.Sh

def pl14 : Plans := fun i => match i with
  | 7 => ⟨true, [29], .step 0 .any (.step 1 .any (.step 2 .any (.step 3 .any (.step 4 .held (.step 5 .held (.step 6 .one (.step 7 .any (.step 8 .any (.step 9 .any (.step 10 .held (.step 12 .held (.step 11 .one (.step 13 .one (.step 14 .any (.step 15 .any (.step 16 .any (.step 17 .held (.step 18 .any (.step 20 .held (.step 21 .any (.step 19 .one (.step 22 .one (.step 23 .any (.step 24 .any (.step 25 .any (.step 26 .any (.step 27 .held (.step 28 .any (.step 29 .last (.step 30 .any (.step 31 .any (.nil))))))))))))))))))))))))))))))))⟩
  | 10 => ⟨true, [3], .step 0 .held (.step 1 .any (.step 2 .one (.step 3 .last (.step 4 .any (.step 5 .any (.step 6 .any (.step 7 .any (.step 8 .any (.nil)))))))))⟩
  | 37 => ⟨true, [44], .step 0 .held (.step 1 .held (.step 3 .held (.step 4 .held (.step 2 .one (.step 5 .one (.step 6 .any (.step 7 .any (.step 8 .held (.step 9 .held (.step 11 .held (.step 12 .held (.step 10 .one (.step 13 .one (.step 14 .any (.step 15 .any (.step 16 .any (.step 17 .any (.step 18 .any (.step 19 .any (.step 20 .any (.step 21 .any (.step 22 .any (.step 23 .any (.step 24 .any (.step 25 .any (.step 26 .any (.step 27 .any (.step 28 .any (.step 29 .any (.step 30 .any (.step 31 .any (.step 32 .any (.step 33 .any (.step 34 .one (.step 35 .any (.step 36 .any (.step 37 .any (.step 38 .any (.step 39 .any (.step 40 .any (.step 41 .any (.step 42 .held (.step 43 .held (.step 44 .last (.step 45 .any (.step 46 .any (.nil)))))))))))))))))))))))))))))))))))))))))))))))⟩
  | _ => ⟨false, [], .nil⟩
def S14 (v0 v1 : Value) (k : Value → World → Prop) (w : World) : Prop :=
 CallK Try.prog 15 [v0, v1] (fun t1 w2 =>
 zm_ t1
  (k (.bool true) w2)
  (CallK Try.prog 43 [v0] (fun t3 w4 =>
  Rd Try.prog (WS.at w4) (zbb_ t3 0) fun t5 =>
  Rd Try.prog (WS.at w4) (zbb_ t3 1) fun t6 =>
  Do Try.prog (zw_ 26) (fun t7 w8 =>
  Do Try.prog (zi_ 26 t7 t5) (fun _ w9 =>
  Rd Try.prog (WS.at w9) (zc_ 26 t7) fun t10 =>
  CallK Try.prog 125 [t10] (fun t11 w12 =>
  Rd Try.prog (WS.at w12) (zbb_ t11 0) fun t13 =>
  Rd Try.prog (WS.at w12) (zbb_ t11 1) fun t14 =>
  Do Try.prog (zw_ 26) (fun t15 w16 =>
  Do Try.prog (zi_ 26 t15 t13) (fun _ w17 =>
  Rd Try.prog (WS.at w17) (zc_ 26 t7) fun t18 =>
  CallK Try.prog 126 [t18] (fun t19 w20 =>
  Rd Try.prog (WS.at w20) (zbb_ t19 0) fun t21 =>
  Rd Try.prog (WS.at w20) (zbb_ t19 1) fun t22 =>
  Do Try.prog (zw_ 26) (fun t23 w24 =>
  Do Try.prog (zi_ 26 t23 t21) (fun _ w25 =>
  Rd Try.prog (WS.at w25) (zc_ 26 t7) fun t26 =>
  CallK Try.prog 26 [t26, t6] (fun t27 w28 =>
  Rd Try.prog (WS.at w28) (zbb_ t27 0) fun t29 =>
  Rd Try.prog (WS.at w28) (zbb_ t27 1) fun t30 =>
  ∃ U31 : World → Prop, ∃ h32 : U31 w28.drew,
  Rd Try.prog WS.any (sBin .neq 4 false t14 t22) fun t33 =>
  zb_ t33 false (fun k w' => Rd Try.prog ⟨U31, w28.drew, h32⟩ (zc_ 26 t15) fun v => k v w') (fun t34 w35 =>
  zb_ t33 false (fun k w' => Rd Try.prog ⟨U31, w28.drew, h32⟩ (zc_ 26 t23) fun v => k v w') (fun t36 w37 =>
  zb_ t33 false (fun k w' => CallK Try.prog 41 [t34, t36] k w') (fun t38 w39 =>
  U31 w39 ∧ zb_ t33 false (fun k w' => Rd Try.prog WS.any (sUn .not t38) fun v => k v w') (fun t40 w41 =>
  Rd Try.prog WS.any (zeb_ t33 (.bool true) t40) fun t42 =>
  zb_ t42 false (fun k w' => Rd Try.prog ⟨U31, w28.drew, h32⟩ (zc_ 26 t7) fun v => k v w') (fun t43 w44 =>
  zb_ t42 false (fun k w' => Rd Try.prog ⟨U31, w28.drew, h32⟩ (zc_ 26 t7) fun v => k v w') (fun t45 w46 =>
  zb_ t42 false (fun k w' => CallK Try.prog 42 [t43] k w') (fun t47 w48 =>
  U31 w48 ∧ zb_ t42 false (fun k w' => CallK Try.prog 127 [t45] k w') (fun t49 w50 =>
  U31 w50 ∧ zb_ t42 false (fun k w' => Rd Try.prog WS.any (sBin .neq 4 false t47 t49) fun v => k v w') (fun t51 w52 =>
  Rd Try.prog WS.any (zeb_ t42 (.bool true) t51) fun t53 =>
  zb_ t53 false (fun k w' => Rd Try.prog ⟨U31, w28.drew, h32⟩ (zc_ 26 t7) fun v => k v w') (fun t54 w55 =>
  zb_ t53 false (fun k w' => k t6 w') (fun t56 w57 =>
  zb_ t53 false (fun k w' => Rd Try.prog ⟨U31, w28.drew, h32⟩ (zc_ 26 t7) fun v => k v w') (fun t58 w59 =>
  zb_ t53 false (fun k w' => k t6 w') (fun t60 w61 =>
  zb_ t53 false (fun k w' => CallK Try.prog 44 [t54, t56] k w') (fun t62 w63 =>
  U31 w63 ∧ zb_ t53 false (fun k w' => CallK Try.prog 128 [t58, t60] k w') (fun t64 w65 =>
  U31 w65 ∧ zb_ t53 false (fun k w' => Rd Try.prog WS.any (sBin .neq 4 false t62 t64) fun v => k v w') (fun t66 w67 =>
  Rd Try.prog WS.any (zeb_ t53 (.bool true) t66) fun t68 =>
  zb_ t68 false (fun k w' => k t30 w') (fun t69 w70 =>
  zb_ t68 false (fun k w' => Rd Try.prog ⟨U31, w28.drew, h32⟩ (zc_ 26 t7) fun v => k v w') (fun t71 w72 =>
  zb_ t68 false (fun k w' => k t6 w') (fun t73 w74 =>
  zb_ t68 false (fun k w' => CallK Try.prog 44 [t71, t73] k w') (fun t75 w76 =>
  zb_ t68 false (fun k w' => Rd Try.prog WS.any (sBin .neq 4 false t69 t75) fun v => k v w') (fun t77 w78 =>
  Rd Try.prog WS.any (zeb_ t68 (.bool true) t77) fun t79 =>
  zm_ t79
   (k (.bool false) w78)
   (Join (fun K80 =>
   zm_ t30
    (∃ U83 : World → Prop, ∃ h84 : U83 w78.drew,
    Rd Try.prog ⟨U83, w78.drew, h84⟩ (zc_ 26 t15) fun t85 =>
    CallK Try.prog 129 [t6] (fun t86 w87 =>
    U83 w87 ∧ CallK Try.prog 26 [t85, t86] (fun t88 w89 =>
    Rd Try.prog WS.any (zbb_ t88 0) fun t90 =>
    Rd Try.prog WS.any (zbb_ t88 1) fun t91 =>
    Rd Try.prog (WS.at w89) (zc_ 26 t15) fun t92 =>
    CallK Try.prog 125 [t92] (fun t93 w94 =>
    Rd Try.prog (WS.at w94) (zbb_ t93 0) fun t95 =>
    Rd Try.prog (WS.at w94) (zbb_ t93 1) fun t96 =>
    Do Try.prog (zw_ 26) (fun t97 w98 =>
    Do Try.prog (zi_ 26 t97 t95) (fun _ w99 =>
    Rd Try.prog (WS.at w99) (zc_ 26 t7) fun t100 =>
    CallK Try.prog 130 [t100] (fun t101 w102 =>
    Rd Try.prog (WS.at w102) (zbb_ t101 0) fun t103 =>
    Rd Try.prog (WS.at w102) (zbb_ t101 1) fun t104 =>
    Rd Try.prog (WS.at w102) (zc_ 26 t15) fun t105 =>
    CallK Try.prog 130 [t105] (fun t106 w107 =>
    Rd Try.prog (WS.at w107) (zbb_ t106 0) fun t108 =>
    Rd Try.prog (WS.at w107) (zbb_ t106 1) fun t109 =>
    Rd Try.prog (WS.at w107) (sUn .not t14) fun t110 =>
    zb_ t110 false (fun k w' => k t91 w') (fun t111 w112 =>
    zb_ t110 false (fun k w' => Rd Try.prog (WS.at w112) (sUn .not t111) fun v => k v w') (fun t113 w114 =>
    Rd Try.prog (WS.at w114) (zeb_ t110 (.bool true) t113) fun t115 =>
    zb_ t115 false (fun k w' => k t90 w') (fun t116 w117 =>
    zb_ t115 false (fun k w' => k t29 w') (fun t118 w119 =>
    zb_ t115 false (fun k w' => Rd Try.prog (WS.at w119) (sBin .neq 4 false t116 t118) fun v => k v w') (fun t120 w121 =>
    Rd Try.prog (WS.at w121) (zeb_ t115 (.bool true) t120) fun t122 =>
    zb_ t122 false (fun k w' => k t96 w') (fun t123 w124 =>
    zb_ t122 false (fun k w' => Rd Try.prog (WS.at w124) (sUn .not t123) fun v => k v w') (fun t125 w126 =>
    Rd Try.prog (WS.at w126) (zeb_ t122 (.bool true) t125) fun t127 =>
    zb_ t127 false (fun k w' => Rd Try.prog (WS.at w126) (zc_ 26 t97) fun v => k v w') (fun t128 w129 =>
    zb_ t127 false (fun k w' => Rd Try.prog (WS.at w129) (zc_ 26 t7) fun v => k v w') (fun t130 w131 =>
    zb_ t127 false (fun k w' => CallK Try.prog 131 [t128, t130] k w') (fun t132 w133 =>
    zb_ t127 false (fun k w' => Rd Try.prog (WS.at w133) (sUn .not t132) fun v => k v w') (fun t134 w135 =>
    Rd Try.prog (WS.at w135) (zeb_ t127 (.bool true) t134) fun t136 =>
    zb_ t136 false (fun k w' => k t104 w') (fun t137 w138 =>
    zb_ t136 false (fun k w' => Rd Try.prog (WS.at w138) (sUn .not t137) fun v => k v w') (fun t139 w140 =>
    Rd Try.prog (WS.at w140) (zeb_ t136 (.bool true) t139) fun t141 =>
    zb_ t141 false (fun k w' => k t109 w') (fun t142 w143 =>
    zb_ t141 false (fun k w' => Rd Try.prog (WS.at w143) (sUn .not t142) fun v => k v w') (fun t144 w145 =>
    Rd Try.prog (WS.at w145) (zeb_ t141 (.bool true) t144) fun t146 =>
    zb_ t146 false (fun k w' => k t103 w') (fun t147 w148 =>
    zb_ t146 false (fun k w' => k t108 w') (fun t149 w150 =>
    zb_ t146 false (fun k w' => Rd Try.prog (WS.at w150) (sBin .neq 3 false t147 t149) fun v => k v w') (fun t151 w152 =>
    Rd Try.prog (WS.at w152) (zeb_ t146 (.bool true) t151) fun t153 =>
    zm_ t153
     (k (.bool false) w152)
     (K80 (F.upd (F.upd (F.upd (F.upd (F.upd (F.upd (F.upd (F.upd (F.upd (F.upd (F.upd (F.upd (F.upd (F.upd (F.upd (F.upd (F.upd (F.upd (F.upd (F.upd (F.upd (F.upd (F.upd (F.upd (F.upd (F.upd (F.upd (F.upd (F.upd (F.upd (F.upd (F.upd (F.upd (F.upd (F.upd (F.upd (F.upd (F.upd (F.upd (F.upd (F.upd (F.upd (F.upd (F.upd (F.upd (F.upd (F.upd (F.upd (F.upd (F.upd (F.upd (F.upd (F.upd (F.upd (F.upd (F.upd (F.upd (F.upd (F.upd (F.upd (F.upd (F.upd (F.upd (F.upd (F.upd (F.upd (F.upd (F.upd (F.upd (F.upd (F.upd (F.upd (F.upd (F.upd (F.upd (F.upd (F.upd (F.upd (F.upd (F.upd (F.upd (F.upd (F.upd (F.upd (F.upd (F.upd (F.upd (F.upd (F.upd (F.upd (F.upd (F.upd (F.upd (F.upd (F.upd (F.upd (F.upd (F.upd (F.upd (F.upd (F.upd (F.upd (F.upd (F.upd (F.upd (F.upd (F.upd (F.upd (F.upd (F.upd (F.upd (F.upd (F.upd (F.upd (F.upd (F.upd (F.upd (F.upd (F.upd (F.upd (F.upd (F.upd (F.upd (F.upd (F.upd (F.upd (F.upd (F.upd (F.upd (F.upd (zp_ [v0, v1]) 4 (.bool false)) 51 v0) 52 v1) 53 t1) 55 v0) 56 t3) 54 t3) 57 t5) 58 t6) 5 t7) 6 t6) 60 t10) 61 t11) 59 t11) 62 t13) 63 t14) 7 t15) 8 t14) 65 t18) 66 t19) 64 t19) 67 t21) 68 t22) 9 t23) 10 t22) 70 t26) 71 t6) 72 t27) 69 t27) 73 t29) 74 t30) 11 t29) 12 t30) 75 t14) 76 t22) 77 t33) 78 t33) 79 t34) 80 t36) 81 t38) 82 t40) 83 t42) 84 t42) 85 t43) 87 t45) 86 t47) 88 t49) 89 t51) 90 t53) 91 t53) 92 t54) 93 t56) 95 t58) 96 t60) 94 t62) 97 t64) 98 t66) 99 t68) 100 t68) 101 t69) 102 t71) 103 t73) 104 t75) 105 t77) 106 t79) 107 t30) 109 t85) 110 t6) 111 t86) 112 t88) 108 t88) 113 t90) 114 t91) 13 t90) 14 t91) 116 t92) 117 t93) 115 t93) 118 t95) 119 t96) 15 t97) 16 t96) 121 t100) 122 t101) 120 t101) 123 t103) 124 t104) 17 t103) 18 t104) 126 t105) 127 t106) 125 t106) 128 t108) 129 t109) 19 t108) 20 t109) 130 t14) 131 t110) 132 t110) 133 t111) 134 t113) 135 t115) 136 t115) 137 t116) 138 t118) 139 t120) 140 t122) 141 t122) 142 t123) 143 t125) 144 t127) 145 t127) 146 t128) 147 t130) 148 t132) 149 t134) 150 t136) 151 t136) 152 t137) 153 t139) 154 t141) 155 t141) 156 t142) 157 t144) 158 t146) 159 t146) 160 t147) 161 t149) 162 t151) 163 t153) w152)) w150) w148) w145) w143) w140) w138) w135) w133) w131) w129) w126) w124) w121) w119) w117) w114) w112) w107) w102) w99) w98) w94) w89) w87) w78.drew)
    (K80 (F.upd (F.upd (F.upd (F.upd (F.upd (F.upd (F.upd (F.upd (F.upd (F.upd (F.upd (F.upd (F.upd (F.upd (F.upd (F.upd (F.upd (F.upd (F.upd (F.upd (F.upd (F.upd (F.upd (F.upd (F.upd (F.upd (F.upd (F.upd (F.upd (F.upd (F.upd (F.upd (F.upd (F.upd (F.upd (F.upd (F.upd (F.upd (F.upd (F.upd (F.upd (F.upd (F.upd (F.upd (F.upd (F.upd (F.upd (F.upd (F.upd (F.upd (F.upd (F.upd (F.upd (F.upd (F.upd (F.upd (F.upd (F.upd (F.upd (F.upd (F.upd (F.upd (F.upd (F.upd (F.upd (F.upd (zp_ [v0, v1]) 4 (.bool false)) 51 v0) 52 v1) 53 t1) 55 v0) 56 t3) 54 t3) 57 t5) 58 t6) 5 t7) 6 t6) 60 t10) 61 t11) 59 t11) 62 t13) 63 t14) 7 t15) 8 t14) 65 t18) 66 t19) 64 t19) 67 t21) 68 t22) 9 t23) 10 t22) 70 t26) 71 t6) 72 t27) 69 t27) 73 t29) 74 t30) 11 t29) 12 t30) 75 t14) 76 t22) 77 t33) 78 t33) 79 t34) 80 t36) 81 t38) 82 t40) 83 t42) 84 t42) 85 t43) 87 t45) 86 t47) 88 t49) 89 t51) 90 t53) 91 t53) 92 t54) 93 t56) 95 t58) 96 t60) 94 t62) 97 t64) 98 t66) 99 t68) 100 t68) 101 t69) 102 t71) 103 t73) 104 t75) 105 t77) 106 t79) 107 t30) w78)) (fun f81 w82 =>
   CallK Try.prog 132 [(f81 1)] (fun t154 w155 =>
   Rd Try.prog (WS.at w155) (zbb_ t154 0) fun t156 =>
   Rd Try.prog (WS.at w155) (zbb_ t154 1) fun t157 =>
   Do Try.prog (zw_ 26) (fun t158 w159 =>
   Do Try.prog (zi_ 26 t158 t156) (fun _ w160 =>
   Rd Try.prog (WS.at w160) (zc_ 26 t158) fun t161 =>
   CallK Try.prog 133 [t161, t157] (fun t162 w163 =>
   Rd Try.prog (WS.at w163) (zbb_ t162 0) fun t164 =>
   Rd Try.prog (WS.at w163) (zbb_ t162 1) fun t165 =>
   Do Try.prog (zw_ 26) (fun t166 w167 =>
   Do Try.prog (zi_ 26 t166 t164) (fun _ w168 =>
   Rd Try.prog (WS.at w168) (zc_ 26 t158) fun t169 =>
   CallK Try.prog 134 [t169, t157] (fun t170 w171 =>
   Rd Try.prog (WS.at w171) (zbb_ t170 0) fun t172 =>
   Rd Try.prog (WS.at w171) (zbb_ t170 1) fun t173 =>
   Do Try.prog (zw_ 26) (fun t174 w175 =>
   Do Try.prog (zi_ 26 t174 t172) (fun _ w176 =>
   Rd Try.prog (WS.at w176) (sBin .neq 4 false t165 t173) fun t177 =>
   zb_ t177 false (fun k w' => Rd Try.prog (WS.at w176) (zc_ 26 t166) fun v => k v w') (fun t178 w179 =>
   zb_ t177 false (fun k w' => Rd Try.prog (WS.at w179) (zc_ 26 t174) fun v => k v w') (fun t180 w181 =>
   zb_ t177 false (fun k w' => CallK Try.prog 41 [t178, t180] k w') (fun t182 w183 =>
   zb_ t177 false (fun k w' => Rd Try.prog (WS.at w183) (sUn .not t182) fun v => k v w') (fun t184 w185 =>
   Rd Try.prog (WS.at w185) (zeb_ t177 (.bool true) t184) fun t186 =>
   zm_ t186
    (k (.bool false) w185)
    (Join (fun K187 =>
    zm_ t165
     (Do Try.prog (zh_ 27 2 [(0, (.int .i64 0)), (1, (.int .i64 0))]) (fun t190 w191 =>
     Rd Try.prog (WS.at w191) (zc_ 26 t158) fun t192 =>
     CallK Try.prog 26 [t192, t190] (fun t193 w194 =>
     Rd Try.prog (WS.at w194) (zbb_ t193 0) fun t195 =>
     Rd Try.prog (WS.at w194) (zbb_ t193 1) fun t196 =>
     Rd Try.prog (WS.at w194) (zc_ 26 t166) fun t197 =>
     CallK Try.prog 26 [t197, t190] (fun t198 w199 =>
     Rd Try.prog (WS.at w199) (zbb_ t198 0) fun t200 =>
     Rd Try.prog (WS.at w199) (zbb_ t198 1) fun t201 =>
     Rd Try.prog (WS.at w199) (sUn .not t196) fun t202 =>
     zb_ t202 false (fun k w' => k t201 w') (fun t203 w204 =>
     zb_ t202 false (fun k w' => Rd Try.prog (WS.at w204) (sUn .not t203) fun v => k v w') (fun t205 w206 =>
     Rd Try.prog (WS.at w206) (zeb_ t202 (.bool true) t205) fun t207 =>
     zb_ t207 false (fun k w' => k t195 w') (fun t208 w209 =>
     zb_ t207 false (fun k w' => k t200 w') (fun t210 w211 =>
     zb_ t207 false (fun k w' => Rd Try.prog (WS.at w211) (sBin .neq 4 false t208 t210) fun v => k v w') (fun t212 w213 =>
     Rd Try.prog (WS.at w213) (zeb_ t207 (.bool true) t212) fun t214 =>
     zm_ t214
      (k (.bool false) w213)
      (K187 (F.upd (F.upd (F.upd (F.upd (F.upd (F.upd (F.upd (F.upd (F.upd (F.upd (F.upd (F.upd (F.upd (F.upd (F.upd (F.upd (F.upd (F.upd (F.upd (F.upd (F.upd (F.upd (F.upd (F.upd (F.upd (F.upd (F.upd (F.upd (F.upd (F.upd (F.upd (F.upd (F.upd (F.upd (F.upd (F.upd (F.upd (F.upd (F.upd (F.upd (F.upd (F.upd (F.upd (F.upd (F.upd (F.upd (F.upd (F.upd (F.upd (F.upd (F.upd (F.upd (F.upd (F.upd (F.upd (F.upd (F.upd (F.upd (F.upd (F.upd (F.upd (F.upd f81 165 (f81 1)) 166 t154) 164 t154) 167 t156) 168 t157) 21 t158) 22 t157) 170 t161) 171 t157) 172 t162) 169 t162) 173 t164) 174 t165) 23 t166) 24 t165) 176 t169) 177 t157) 178 t170) 175 t170) 179 t172) 180 t173) 25 t174) 26 t173) 181 t165) 182 t173) 183 t177) 184 t177) 185 t178) 186 t180) 187 t182) 188 t184) 189 t186) 190 t165) 191 t190) 27 t190) 193 t192) 194 t190) 195 t193) 192 t193) 196 t195) 197 t196) 28 t195) 29 t196) 199 t197) 200 t190) 201 t198) 198 t198) 202 t200) 203 t201) 30 t200) 31 t201) 204 t196) 205 t202) 206 t202) 207 t203) 208 t205) 209 t207) 210 t207) 211 t208) 212 t210) 213 t212) 214 t214) w213)) w211) w209) w206) w204) w199) w194) w191) w185)
     (K187 (F.upd (F.upd (F.upd (F.upd (F.upd (F.upd (F.upd (F.upd (F.upd (F.upd (F.upd (F.upd (F.upd (F.upd (F.upd (F.upd (F.upd (F.upd (F.upd (F.upd (F.upd (F.upd (F.upd (F.upd (F.upd (F.upd (F.upd (F.upd (F.upd (F.upd (F.upd (F.upd (F.upd f81 165 (f81 1)) 166 t154) 164 t154) 167 t156) 168 t157) 21 t158) 22 t157) 170 t161) 171 t157) 172 t162) 169 t162) 173 t164) 174 t165) 23 t166) 24 t165) 176 t169) 177 t157) 178 t170) 175 t170) 179 t172) 180 t173) 25 t174) 26 t173) 181 t165) 182 t173) 183 t177) 184 t177) 185 t178) 186 t180) 187 t182) 188 t184) 189 t186) 190 t165) w185)) (fun f188 w189 =>
    CallK Try.prog 135 [(f188 1)] (fun t215 w216 =>
    Rd Try.prog (WS.at w216) (zbb_ t215 0) fun t217 =>
    Rd Try.prog (WS.at w216) (zbb_ t215 1) fun t218 =>
    Do Try.prog (zw_ 26) (fun t219 w220 =>
    Do Try.prog (zw_ 26) (fun t221 w222 =>
    Do Try.prog (zi_ 26 t219 t217) (fun _ w223 =>
    Do Try.prog (zi_ 26 t221 t218) (fun _ w224 =>
    CallK Try.prog 136 [(f188 1)] (fun t225 w226 =>
    Do Try.prog (zw_ 26) (fun t227 w228 =>
    Do Try.prog (zi_ 26 t227 t225) (fun _ w229 =>
    Rd Try.prog (WS.at w229) (zc_ 26 t227) fun t230 =>
    CallK Try.prog 130 [t230] (fun t231 w232 =>
    Rd Try.prog (WS.at w232) (zbb_ t231 0) fun t233 =>
    Rd Try.prog (WS.at w232) (zbb_ t231 1) fun t234 =>
    Rd Try.prog (WS.at w232) (zc_ 26 t227) fun t235 =>
    CallK Try.prog 137 [t235] (fun t236 w237 =>
    Rd Try.prog (WS.at w237) (zbb_ t236 0) fun t238 =>
    Rd Try.prog (WS.at w237) (zbb_ t236 1) fun t239 =>
    CallK Try.prog 138 [(f188 1)] (fun t240 w241 =>
    Rd Try.prog (WS.at w241) (zbb_ t240 0) fun t242 =>
    Rd Try.prog (WS.at w241) (zbb_ t240 1) fun t243 =>
    Do Try.prog (zw_ 26) (fun t244 w245 =>
    Do Try.prog (zi_ 26 t244 t242) (fun _ w246 =>
    Rd Try.prog (WS.at w246) (zc_ 26 t244) fun t247 =>
    CallK Try.prog 139 [t247, t243] (fun t248 w249 =>
    Rd Try.prog (WS.at w249) (zbb_ t248 0) fun t250 =>
    Rd Try.prog (WS.at w249) (zbb_ t248 1) fun t251 =>
    Rd Try.prog (WS.at w249) (zc_ 26 t244) fun t252 =>
    CallK Try.prog 140 [t252, t243] (fun t253 w254 =>
    Rd Try.prog (WS.at w254) (zbb_ t253 0) fun t255 =>
    Rd Try.prog (WS.at w254) (zbb_ t253 1) fun t256 =>
    CallK Try.prog 141 [(f188 1)] (fun t257 w258 =>
    Rd Try.prog (WS.at w258) (zbb_ t257 0) fun t259 =>
    Rd Try.prog (WS.at w258) (zbb_ t257 1) fun t260 =>
    Do Try.prog (zw_ 26) (fun t261 w262 =>
    Do Try.prog (zi_ 26 t261 t259) (fun _ w263 =>
    Rd Try.prog (WS.at w263) (zc_ 26 t261) fun t264 =>
    CallK Try.prog 142 [t264, t260] (fun t265 w266 =>
    Rd Try.prog (WS.at w266) (zbb_ t265 0) fun t267 =>
    Rd Try.prog (WS.at w266) (zbb_ t265 1) fun t268 =>
    Do Try.prog (zw_ 26) (fun t269 w270 =>
    Do Try.prog (zi_ 26 t269 t267) (fun _ w271 =>
    Rd Try.prog (WS.at w271) (zc_ 26 t261) fun t272 =>
    CallK Try.prog 143 [t272, t260] (fun t273 w274 =>
    Rd Try.prog (WS.at w274) (zbb_ t273 0) fun t275 =>
    Rd Try.prog (WS.at w274) (zbb_ t273 1) fun t276 =>
    Do Try.prog (zw_ 26) (fun t277 w278 =>
    Do Try.prog (zi_ 26 t277 t275) (fun _ w279 =>
    ∃ U280 : World → Prop, ∃ h281 : U280 w279.drew,
    Rd Try.prog ⟨U280, w279.drew, h281⟩ (zc_ 26 t219) fun t282 =>
    Rd Try.prog ⟨U280, w279.drew, h281⟩ (zc_ 26 t221) fun t283 =>
    Rd Try.prog ⟨U280, w279.drew, h281⟩ (zc_ 26 t219) fun t284 =>
    Rd Try.prog ⟨U280, w279.drew, h281⟩ (zc_ 26 t221) fun t285 =>
    CallK Try.prog 131 [t282, t283] (fun t286 w287 =>
    U280 w287 ∧ CallK Try.prog 144 [t284, t285] (fun t288 w289 =>
    U280 w289 ∧ Rd Try.prog WS.any (sBin .eql 4 false t286 t288) fun t290 =>
    zb_ t290 true (fun k w' => Rd Try.prog ⟨U280, w279.drew, h281⟩ (zc_ 26 t219) fun v => k v w') (fun t291 w292 =>
    zb_ t290 true (fun k w' => Rd Try.prog ⟨U280, w279.drew, h281⟩ (zc_ 26 t221) fun v => k v w') (fun t293 w294 =>
    zb_ t290 true (fun k w' => Rd Try.prog ⟨U280, w279.drew, h281⟩ (zc_ 26 t219) fun v => k v w') (fun t295 w296 =>
    zb_ t290 true (fun k w' => Rd Try.prog ⟨U280, w279.drew, h281⟩ (zc_ 26 t221) fun v => k v w') (fun t297 w298 =>
    zb_ t290 true (fun k w' => CallK Try.prog 131 [t291, t293] k w') (fun t299 w300 =>
    U280 w300 ∧ zb_ t290 true (fun k w' => CallK Try.prog 41 [t295, t297] k w') (fun t301 w302 =>
    U280 w302 ∧ zb_ t290 true (fun k w' => Rd Try.prog WS.any (sBin .eql 4 false t299 t301) fun v => k v w') (fun t303 w304 =>
    Rd Try.prog WS.any (zeb_ t290 t303 (.bool false)) fun t305 =>
    zb_ t305 true (fun k w' => k t234 w') (fun t306 w307 =>
    zb_ t305 true (fun k w' => k t239 w') (fun t308 w309 =>
    zb_ t305 true (fun k w' => Rd Try.prog WS.any (sBin .eql 4 false t306 t308) fun v => k v w') (fun t310 w311 =>
    Rd Try.prog WS.any (zeb_ t305 t310 (.bool false)) fun t312 =>
    zb_ t312 true (fun k w' => k t233 w') (fun t313 w314 =>
    zb_ t312 true (fun k w' => k t238 w') (fun t315 w316 =>
    zb_ t312 true (fun k w' => Rd Try.prog WS.any (sBin .eql 3 false t313 t315) fun v => k v w') (fun t317 w318 =>
    Rd Try.prog WS.any (zeb_ t312 t317 (.bool false)) fun t319 =>
    zb_ t319 true (fun k w' => k t251 w') (fun t320 w321 =>
    zb_ t319 true (fun k w' => k t256 w') (fun t322 w323 =>
    zb_ t319 true (fun k w' => Rd Try.prog WS.any (sBin .eql 4 false t320 t322) fun v => k v w') (fun t324 w325 =>
    Rd Try.prog WS.any (zeb_ t319 t324 (.bool false)) fun t326 =>
    zb_ t326 true (fun k w' => k t250 w') (fun t327 w328 =>
    zb_ t326 true (fun k w' => k t255 w') (fun t329 w330 =>
    zb_ t326 true (fun k w' => CallK Try.prog 34 [t327, t329] k w') (fun t331 w332 =>
    U280 w332 ∧ Rd Try.prog WS.any (zeb_ t326 t331 (.bool false)) fun t333 =>
    zb_ t333 true (fun k w' => k t268 w') (fun t334 w335 =>
    zb_ t333 true (fun k w' => k t276 w') (fun t336 w337 =>
    zb_ t333 true (fun k w' => Rd Try.prog WS.any (sBin .eql 4 false t334 t336) fun v => k v w') (fun t338 w339 =>
    Rd Try.prog WS.any (zeb_ t333 t338 (.bool false)) fun t340 =>
    zb_ t340 true (fun k w' => Rd Try.prog ⟨U280, w279.drew, h281⟩ (zc_ 26 t269) fun v => k v w') (fun t341 w342 =>
    zb_ t340 true (fun k w' => Rd Try.prog ⟨U280, w279.drew, h281⟩ (zc_ 26 t277) fun v => k v w') (fun t343 w344 =>
    zb_ t340 true (fun k w' => CallK Try.prog 41 [t341, t343] k w') (fun t345 w346 =>
    Rd Try.prog WS.any (zeb_ t340 t345 (.bool false)) fun t347 =>
    k t347 w346) w344) w342) w339) w337) w335) w332) w330) w328) w325) w323) w321) w318) w316) w314) w311) w309) w307) w304) w302) w300) w298) w296) w294) w292) w289) w287) w279.drew) w278) w274) w271) w270) w266) w263) w262) w258) w254) w249) w246) w245) w241) w237) w232) w229) w228) w226) w224) w223) w222) w220) w216) w189))) w183) w181) w179) w176) w175) w171) w168) w167) w163) w160) w159) w155) w82))) w76) w74) w72) w70) w67) w65) w63) w61) w59) w57) w55) w52) w50) w48) w46) w44) w41) w39) w37) w35) w28.drew) w25) w24) w20) w17) w16) w12) w9) w8) w4) w2)) w
theorem body14 : Try.f14.body = some (zg_ Try.f14) := by kernel_rfl
theorem same14 (v0 v1 : Value) (k : Value → World → Prop) (w : World) : wpF Try.prog pl14 (zg_ Try.f14) (zr_ Try.prog Try.f14.results.toList k) (zp_ [v0, v1]) w = S14 v0 v1 k w := by kernel_rfl
noncomputable def o14_2 : Array Oper := (regAt (zg_ Try.f14) 2).2
noncomputable def q14_2_47 : Go.Sh.Steps := .nil
noncomputable def q14_2_46 : Go.Sh.Steps := .step 46 .any q14_2_47
noncomputable def q14_2_45 : Go.Sh.Steps := .step 45 .any q14_2_46
noncomputable def q14_2_44 : Go.Sh.Steps := .step 44 .last q14_2_45
noncomputable def q14_2_43 : Go.Sh.Steps := .step 43 .held q14_2_44
noncomputable def q14_2_42 : Go.Sh.Steps := .step 42 .held q14_2_43
noncomputable def q14_2_41 : Go.Sh.Steps := .step 41 .any q14_2_42
noncomputable def q14_2_40 : Go.Sh.Steps := .step 40 .any q14_2_41
noncomputable def q14_2_39 : Go.Sh.Steps := .step 39 .any q14_2_40
noncomputable def q14_2_38 : Go.Sh.Steps := .step 38 .any q14_2_39
noncomputable def q14_2_37 : Go.Sh.Steps := .step 37 .any q14_2_38
noncomputable def q14_2_36 : Go.Sh.Steps := .step 36 .any q14_2_37
noncomputable def q14_2_35 : Go.Sh.Steps := .step 35 .any q14_2_36
noncomputable def q14_2_34 : Go.Sh.Steps := .step 34 .one q14_2_35
noncomputable def q14_2_33 : Go.Sh.Steps := .step 33 .any q14_2_34
noncomputable def q14_2_32 : Go.Sh.Steps := .step 32 .any q14_2_33
noncomputable def q14_2_31 : Go.Sh.Steps := .step 31 .any q14_2_32
noncomputable def q14_2_30 : Go.Sh.Steps := .step 30 .any q14_2_31
noncomputable def q14_2_29 : Go.Sh.Steps := .step 29 .any q14_2_30
noncomputable def q14_2_28 : Go.Sh.Steps := .step 28 .any q14_2_29
noncomputable def q14_2_27 : Go.Sh.Steps := .step 27 .any q14_2_28
noncomputable def q14_2_26 : Go.Sh.Steps := .step 26 .any q14_2_27
noncomputable def q14_2_25 : Go.Sh.Steps := .step 25 .any q14_2_26
noncomputable def q14_2_24 : Go.Sh.Steps := .step 24 .any q14_2_25
noncomputable def q14_2_23 : Go.Sh.Steps := .step 23 .any q14_2_24
noncomputable def q14_2_22 : Go.Sh.Steps := .step 22 .any q14_2_23
noncomputable def q14_2_21 : Go.Sh.Steps := .step 21 .any q14_2_22
noncomputable def q14_2_20 : Go.Sh.Steps := .step 20 .any q14_2_21
noncomputable def q14_2_19 : Go.Sh.Steps := .step 19 .any q14_2_20
noncomputable def q14_2_18 : Go.Sh.Steps := .step 18 .any q14_2_19
noncomputable def q14_2_17 : Go.Sh.Steps := .step 17 .any q14_2_18
noncomputable def q14_2_16 : Go.Sh.Steps := .step 16 .any q14_2_17
noncomputable def q14_2_15 : Go.Sh.Steps := .step 15 .any q14_2_16
noncomputable def q14_2_14 : Go.Sh.Steps := .step 14 .any q14_2_15
noncomputable def q14_2_13 : Go.Sh.Steps := .step 13 .one q14_2_14
noncomputable def q14_2_12 : Go.Sh.Steps := .step 10 .one q14_2_13
noncomputable def q14_2_11 : Go.Sh.Steps := .step 12 .held q14_2_12
noncomputable def q14_2_10 : Go.Sh.Steps := .step 11 .held q14_2_11
noncomputable def q14_2_9 : Go.Sh.Steps := .step 9 .held q14_2_10
noncomputable def q14_2_8 : Go.Sh.Steps := .step 8 .held q14_2_9
noncomputable def q14_2_7 : Go.Sh.Steps := .step 7 .any q14_2_8
noncomputable def q14_2_6 : Go.Sh.Steps := .step 6 .any q14_2_7
noncomputable def q14_2_5 : Go.Sh.Steps := .step 5 .one q14_2_6
noncomputable def q14_2_4 : Go.Sh.Steps := .step 2 .one q14_2_5
noncomputable def q14_2_3 : Go.Sh.Steps := .step 4 .held q14_2_4
noncomputable def q14_2_2 : Go.Sh.Steps := .step 3 .held q14_2_3
noncomputable def q14_2_1 : Go.Sh.Steps := .step 1 .held q14_2_2
noncomputable def q14_2_0 : Go.Sh.Steps := .step 0 .held q14_2_1
theorem z14_2_47 : stepsOK o14_2 [44] q14_2_47 0 #[true, true, true, true, true, true, true, true, true, true, true, true, true, true, true, true, true, true, true, true, true, true, true, true, true, true, true, true, true, true, true, true, true, true, true, true, true, true, true, true, true, true, true, true, true, true, true] false = true := ok_nil (by kernel_rfl)
theorem z14_2_46 : stepsOK o14_2 [44] q14_2_46 1 #[true, true, true, true, true, true, true, true, true, true, true, true, true, true, true, true, true, true, true, true, true, true, true, true, true, true, true, true, true, true, true, true, true, true, true, true, true, true, true, true, true, true, true, true, true, true, false] false = true := zac_ (by kernel_rfl) (by kernel_rfl) z14_2_47
theorem z14_2_45 : stepsOK o14_2 [44] q14_2_45 2 #[true, true, true, true, true, true, true, true, true, true, true, true, true, true, true, true, true, true, true, true, true, true, true, true, true, true, true, true, true, true, true, true, true, true, true, true, true, true, true, true, true, true, true, true, true, false, false] false = true := zac_ (by kernel_rfl) (by kernel_rfl) z14_2_46
theorem z14_2_44 : stepsOK o14_2 [44] q14_2_44 3 #[true, true, true, true, true, true, true, true, true, true, true, true, true, true, true, true, true, true, true, true, true, true, true, true, true, true, true, true, true, true, true, true, true, true, true, true, true, true, true, true, true, true, true, true, false, false, false] true = true := ok_last (by kernel_rfl) (by kernel_rfl) z14_2_45
theorem z14_2_43 : stepsOK o14_2 [44] q14_2_43 4 #[true, true, true, true, true, true, true, true, true, true, true, true, true, true, true, true, true, true, true, true, true, true, true, true, true, true, true, true, true, true, true, true, true, true, true, true, true, true, true, true, true, true, true, false, false, false, false] true = true := zme_ [[]] (by kernel_rfl) (by kernel_rfl) (by kernel_rfl) z14_2_44
theorem z14_2_42 : stepsOK o14_2 [44] q14_2_42 5 #[true, true, true, true, true, true, true, true, true, true, true, true, true, true, true, true, true, true, true, true, true, true, true, true, true, true, true, true, true, true, true, true, true, true, true, true, true, true, true, true, true, true, false, false, false, false, false] true = true := zme_ [[]] (by kernel_rfl) (by kernel_rfl) (by kernel_rfl) z14_2_43
theorem z14_2_41 : stepsOK o14_2 [44] q14_2_41 6 #[true, true, true, true, true, true, true, true, true, true, true, true, true, true, true, true, true, true, true, true, true, true, true, true, true, true, true, true, true, true, true, true, true, true, true, true, true, true, true, true, true, false, false, false, false, false, false] true = true := zac_ (by kernel_rfl) (by kernel_rfl) z14_2_42
theorem z14_2_40 : stepsOK o14_2 [44] q14_2_40 7 #[true, true, true, true, true, true, true, true, true, true, true, true, true, true, true, true, true, true, true, true, true, true, true, true, true, true, true, true, true, true, true, true, true, true, true, true, true, true, true, true, false, false, false, false, false, false, false] true = true := zac_ (by kernel_rfl) (by kernel_rfl) z14_2_41
theorem z14_2_39 : stepsOK o14_2 [44] q14_2_39 8 #[true, true, true, true, true, true, true, true, true, true, true, true, true, true, true, true, true, true, true, true, true, true, true, true, true, true, true, true, true, true, true, true, true, true, true, true, true, true, true, false, false, false, false, false, false, false, false] true = true := zac_ (by kernel_rfl) (by kernel_rfl) z14_2_40
theorem z14_2_38 : stepsOK o14_2 [44] q14_2_38 9 #[true, true, true, true, true, true, true, true, true, true, true, true, true, true, true, true, true, true, true, true, true, true, true, true, true, true, true, true, true, true, true, true, true, true, true, true, true, true, false, false, false, false, false, false, false, false, false] true = true := zac_ (by kernel_rfl) (by kernel_rfl) z14_2_39
theorem z14_2_37 : stepsOK o14_2 [44] q14_2_37 10 #[true, true, true, true, true, true, true, true, true, true, true, true, true, true, true, true, true, true, true, true, true, true, true, true, true, true, true, true, true, true, true, true, true, true, true, true, true, false, false, false, false, false, false, false, false, false, false] true = true := zac_ (by kernel_rfl) (by kernel_rfl) z14_2_38
theorem z14_2_36 : stepsOK o14_2 [44] q14_2_36 11 #[true, true, true, true, true, true, true, true, true, true, true, true, true, true, true, true, true, true, true, true, true, true, true, true, true, true, true, true, true, true, true, true, true, true, true, true, false, false, false, false, false, false, false, false, false, false, false] true = true := zac_ (by kernel_rfl) (by kernel_rfl) z14_2_37
theorem z14_2_35 : stepsOK o14_2 [44] q14_2_35 12 #[true, true, true, true, true, true, true, true, true, true, true, true, true, true, true, true, true, true, true, true, true, true, true, true, true, true, true, true, true, true, true, true, true, true, true, false, false, false, false, false, false, false, false, false, false, false, false] true = true := zac_ (by kernel_rfl) (by kernel_rfl) z14_2_36
theorem z14_2_34 : stepsOK o14_2 [44] q14_2_34 13 #[true, true, true, true, true, true, true, true, true, true, true, true, true, true, true, true, true, true, true, true, true, true, true, true, true, true, true, true, true, true, true, true, true, true, false, false, false, false, false, false, false, false, false, false, false, false, false] true = true := ok_one (by kernel_rfl) (by kernel_rfl) z14_2_35
theorem z14_2_33 : stepsOK o14_2 [44] q14_2_33 14 #[true, true, true, true, true, true, true, true, true, true, true, true, true, true, true, true, true, true, true, true, true, true, true, true, true, true, true, true, true, true, true, true, true, false, false, false, false, false, false, false, false, false, false, false, false, false, false] true = true := zac_ (by kernel_rfl) (by kernel_rfl) z14_2_34
theorem z14_2_32 : stepsOK o14_2 [44] q14_2_32 15 #[true, true, true, true, true, true, true, true, true, true, true, true, true, true, true, true, true, true, true, true, true, true, true, true, true, true, true, true, true, true, true, true, false, false, false, false, false, false, false, false, false, false, false, false, false, false, false] true = true := zac_ (by kernel_rfl) (by kernel_rfl) z14_2_33
theorem z14_2_31 : stepsOK o14_2 [44] q14_2_31 16 #[true, true, true, true, true, true, true, true, true, true, true, true, true, true, true, true, true, true, true, true, true, true, true, true, true, true, true, true, true, true, true, false, false, false, false, false, false, false, false, false, false, false, false, false, false, false, false] true = true := zac_ (by kernel_rfl) (by kernel_rfl) z14_2_32
theorem z14_2_30 : stepsOK o14_2 [44] q14_2_30 17 #[true, true, true, true, true, true, true, true, true, true, true, true, true, true, true, true, true, true, true, true, true, true, true, true, true, true, true, true, true, true, false, false, false, false, false, false, false, false, false, false, false, false, false, false, false, false, false] true = true := zac_ (by kernel_rfl) (by kernel_rfl) z14_2_31
theorem z14_2_29 : stepsOK o14_2 [44] q14_2_29 18 #[true, true, true, true, true, true, true, true, true, true, true, true, true, true, true, true, true, true, true, true, true, true, true, true, true, true, true, true, true, false, false, false, false, false, false, false, false, false, false, false, false, false, false, false, false, false, false] true = true := zac_ (by kernel_rfl) (by kernel_rfl) z14_2_30
theorem z14_2_28 : stepsOK o14_2 [44] q14_2_28 19 #[true, true, true, true, true, true, true, true, true, true, true, true, true, true, true, true, true, true, true, true, true, true, true, true, true, true, true, true, false, false, false, false, false, false, false, false, false, false, false, false, false, false, false, false, false, false, false] true = true := zac_ (by kernel_rfl) (by kernel_rfl) z14_2_29
theorem z14_2_27 : stepsOK o14_2 [44] q14_2_27 20 #[true, true, true, true, true, true, true, true, true, true, true, true, true, true, true, true, true, true, true, true, true, true, true, true, true, true, true, false, false, false, false, false, false, false, false, false, false, false, false, false, false, false, false, false, false, false, false] true = true := zac_ (by kernel_rfl) (by kernel_rfl) z14_2_28
theorem z14_2_26 : stepsOK o14_2 [44] q14_2_26 21 #[true, true, true, true, true, true, true, true, true, true, true, true, true, true, true, true, true, true, true, true, true, true, true, true, true, true, false, false, false, false, false, false, false, false, false, false, false, false, false, false, false, false, false, false, false, false, false] true = true := zac_ (by kernel_rfl) (by kernel_rfl) z14_2_27
theorem z14_2_25 : stepsOK o14_2 [44] q14_2_25 22 #[true, true, true, true, true, true, true, true, true, true, true, true, true, true, true, true, true, true, true, true, true, true, true, true, true, false, false, false, false, false, false, false, false, false, false, false, false, false, false, false, false, false, false, false, false, false, false] true = true := zac_ (by kernel_rfl) (by kernel_rfl) z14_2_26
theorem z14_2_24 : stepsOK o14_2 [44] q14_2_24 23 #[true, true, true, true, true, true, true, true, true, true, true, true, true, true, true, true, true, true, true, true, true, true, true, true, false, false, false, false, false, false, false, false, false, false, false, false, false, false, false, false, false, false, false, false, false, false, false] true = true := zac_ (by kernel_rfl) (by kernel_rfl) z14_2_25
theorem z14_2_23 : stepsOK o14_2 [44] q14_2_23 24 #[true, true, true, true, true, true, true, true, true, true, true, true, true, true, true, true, true, true, true, true, true, true, true, false, false, false, false, false, false, false, false, false, false, false, false, false, false, false, false, false, false, false, false, false, false, false, false] true = true := zac_ (by kernel_rfl) (by kernel_rfl) z14_2_24
theorem z14_2_22 : stepsOK o14_2 [44] q14_2_22 25 #[true, true, true, true, true, true, true, true, true, true, true, true, true, true, true, true, true, true, true, true, true, true, false, false, false, false, false, false, false, false, false, false, false, false, false, false, false, false, false, false, false, false, false, false, false, false, false] true = true := zac_ (by kernel_rfl) (by kernel_rfl) z14_2_23
theorem z14_2_21 : stepsOK o14_2 [44] q14_2_21 26 #[true, true, true, true, true, true, true, true, true, true, true, true, true, true, true, true, true, true, true, true, true, false, false, false, false, false, false, false, false, false, false, false, false, false, false, false, false, false, false, false, false, false, false, false, false, false, false] true = true := zac_ (by kernel_rfl) (by kernel_rfl) z14_2_22
theorem z14_2_20 : stepsOK o14_2 [44] q14_2_20 27 #[true, true, true, true, true, true, true, true, true, true, true, true, true, true, true, true, true, true, true, true, false, false, false, false, false, false, false, false, false, false, false, false, false, false, false, false, false, false, false, false, false, false, false, false, false, false, false] true = true := zac_ (by kernel_rfl) (by kernel_rfl) z14_2_21
theorem z14_2_19 : stepsOK o14_2 [44] q14_2_19 28 #[true, true, true, true, true, true, true, true, true, true, true, true, true, true, true, true, true, true, true, false, false, false, false, false, false, false, false, false, false, false, false, false, false, false, false, false, false, false, false, false, false, false, false, false, false, false, false] true = true := zac_ (by kernel_rfl) (by kernel_rfl) z14_2_20
theorem z14_2_18 : stepsOK o14_2 [44] q14_2_18 29 #[true, true, true, true, true, true, true, true, true, true, true, true, true, true, true, true, true, true, false, false, false, false, false, false, false, false, false, false, false, false, false, false, false, false, false, false, false, false, false, false, false, false, false, false, false, false, false] true = true := zac_ (by kernel_rfl) (by kernel_rfl) z14_2_19
theorem z14_2_17 : stepsOK o14_2 [44] q14_2_17 30 #[true, true, true, true, true, true, true, true, true, true, true, true, true, true, true, true, true, false, false, false, false, false, false, false, false, false, false, false, false, false, false, false, false, false, false, false, false, false, false, false, false, false, false, false, false, false, false] true = true := zac_ (by kernel_rfl) (by kernel_rfl) z14_2_18
theorem z14_2_16 : stepsOK o14_2 [44] q14_2_16 31 #[true, true, true, true, true, true, true, true, true, true, true, true, true, true, true, true, false, false, false, false, false, false, false, false, false, false, false, false, false, false, false, false, false, false, false, false, false, false, false, false, false, false, false, false, false, false, false] true = true := zac_ (by kernel_rfl) (by kernel_rfl) z14_2_17
theorem z14_2_15 : stepsOK o14_2 [44] q14_2_15 32 #[true, true, true, true, true, true, true, true, true, true, true, true, true, true, true, false, false, false, false, false, false, false, false, false, false, false, false, false, false, false, false, false, false, false, false, false, false, false, false, false, false, false, false, false, false, false, false] true = true := zac_ (by kernel_rfl) (by kernel_rfl) z14_2_16
theorem z14_2_14 : stepsOK o14_2 [44] q14_2_14 33 #[true, true, true, true, true, true, true, true, true, true, true, true, true, true, false, false, false, false, false, false, false, false, false, false, false, false, false, false, false, false, false, false, false, false, false, false, false, false, false, false, false, false, false, false, false, false, false] true = true := zac_ (by kernel_rfl) (by kernel_rfl) z14_2_15
theorem z14_2_13 : stepsOK o14_2 [44] q14_2_13 34 #[true, true, true, true, true, true, true, true, true, true, true, true, true, false, false, false, false, false, false, false, false, false, false, false, false, false, false, false, false, false, false, false, false, false, false, false, false, false, false, false, false, false, false, false, false, false, false] true = true := ok_one (by kernel_rfl) (by kernel_rfl) z14_2_14
theorem z14_2_12 : stepsOK o14_2 [44] q14_2_12 35 #[true, true, true, true, true, true, true, true, true, true, false, true, true, false, false, false, false, false, false, false, false, false, false, false, false, false, false, false, false, false, false, false, false, false, false, false, false, false, false, false, false, false, false, false, false, false, false] true = true := ok_one (by kernel_rfl) (by kernel_rfl) z14_2_13
theorem z14_2_11 : stepsOK o14_2 [44] q14_2_11 36 #[true, true, true, true, true, true, true, true, true, true, false, true, false, false, false, false, false, false, false, false, false, false, false, false, false, false, false, false, false, false, false, false, false, false, false, false, false, false, false, false, false, false, false, false, false, false, false] true = true := zme_ [[41, 36, 35, 31, 26, 21, 16, 13]] (by kernel_rfl) (by kernel_rfl) (by kernel_rfl) z14_2_12
theorem z14_2_10 : stepsOK o14_2 [44] q14_2_10 37 #[true, true, true, true, true, true, true, true, true, true, false, false, false, false, false, false, false, false, false, false, false, false, false, false, false, false, false, false, false, false, false, false, false, false, false, false, false, false, false, false, false, false, false, false, false, false, false] true = true := zme_ [[41, 36, 35, 31, 26, 21, 16, 13]] (by kernel_rfl) (by kernel_rfl) (by kernel_rfl) z14_2_11
theorem z14_2_9 : stepsOK o14_2 [44] q14_2_9 38 #[true, true, true, true, true, true, true, true, true, false, false, false, false, false, false, false, false, false, false, false, false, false, false, false, false, false, false, false, false, false, false, false, false, false, false, false, false, false, false, false, false, false, false, false, false, false, false] true = true := zme_ [[41, 36, 35, 31, 26, 21, 16, 13, 10]] (by kernel_rfl) (by kernel_rfl) (by kernel_rfl) z14_2_10
theorem z14_2_8 : stepsOK o14_2 [44] q14_2_8 39 #[true, true, true, true, true, true, true, true, false, false, false, false, false, false, false, false, false, false, false, false, false, false, false, false, false, false, false, false, false, false, false, false, false, false, false, false, false, false, false, false, false, false, false, false, false, false, false] true = true := zme_ [[41, 36, 35, 31, 26, 21, 16, 13, 10]] (by kernel_rfl) (by kernel_rfl) (by kernel_rfl) z14_2_9
theorem z14_2_7 : stepsOK o14_2 [44] q14_2_7 40 #[true, true, true, true, true, true, true, false, false, false, false, false, false, false, false, false, false, false, false, false, false, false, false, false, false, false, false, false, false, false, false, false, false, false, false, false, false, false, false, false, false, false, false, false, false, false, false] true = true := zac_ (by kernel_rfl) (by kernel_rfl) z14_2_8
theorem z14_2_6 : stepsOK o14_2 [44] q14_2_6 41 #[true, true, true, true, true, true, false, false, false, false, false, false, false, false, false, false, false, false, false, false, false, false, false, false, false, false, false, false, false, false, false, false, false, false, false, false, false, false, false, false, false, false, false, false, false, false, false] true = true := zac_ (by kernel_rfl) (by kernel_rfl) z14_2_7
theorem z14_2_5 : stepsOK o14_2 [44] q14_2_5 42 #[true, true, true, true, true, false, false, false, false, false, false, false, false, false, false, false, false, false, false, false, false, false, false, false, false, false, false, false, false, false, false, false, false, false, false, false, false, false, false, false, false, false, false, false, false, false, false] true = true := ok_one (by kernel_rfl) (by kernel_rfl) z14_2_6
theorem z14_2_4 : stepsOK o14_2 [44] q14_2_4 43 #[true, true, false, true, true, false, false, false, false, false, false, false, false, false, false, false, false, false, false, false, false, false, false, false, false, false, false, false, false, false, false, false, false, false, false, false, false, false, false, false, false, false, false, false, false, false, false] true = true := ok_one (by kernel_rfl) (by kernel_rfl) z14_2_5
theorem z14_2_3 : stepsOK o14_2 [44] q14_2_3 44 #[true, true, false, true, false, false, false, false, false, false, false, false, false, false, false, false, false, false, false, false, false, false, false, false, false, false, false, false, false, false, false, false, false, false, false, false, false, false, false, false, false, false, false, false, false, false, false] true = true := zme_ [[41, 36, 35, 31, 26, 21, 16, 15, 7, 5]] (by kernel_rfl) (by kernel_rfl) (by kernel_rfl) z14_2_4
theorem z14_2_2 : stepsOK o14_2 [44] q14_2_2 45 #[true, true, false, false, false, false, false, false, false, false, false, false, false, false, false, false, false, false, false, false, false, false, false, false, false, false, false, false, false, false, false, false, false, false, false, false, false, false, false, false, false, false, false, false, false, false, false] true = true := zme_ [[41, 36, 35, 31, 26, 21, 16, 15, 7, 5]] (by kernel_rfl) (by kernel_rfl) (by kernel_rfl) z14_2_3
theorem z14_2_1 : stepsOK o14_2 [44] q14_2_1 46 #[true, false, false, false, false, false, false, false, false, false, false, false, false, false, false, false, false, false, false, false, false, false, false, false, false, false, false, false, false, false, false, false, false, false, false, false, false, false, false, false, false, false, false, false, false, false, false] true = true := zme_ [[41, 36, 35, 31, 26, 21, 16, 15, 7, 6, 2]] (by kernel_rfl) (by kernel_rfl) (by kernel_rfl) z14_2_2
theorem z14_2_0 : stepsOK o14_2 [44] q14_2_0 47 #[false, false, false, false, false, false, false, false, false, false, false, false, false, false, false, false, false, false, false, false, false, false, false, false, false, false, false, false, false, false, false, false, false, false, false, false, false, false, false, false, false, false, false, false, false, false, false] true = true := zme_ [[41, 36, 35, 31, 26, 21, 16, 15, 7, 6, 2]] (by kernel_rfl) (by kernel_rfl) (by kernel_rfl) z14_2_1
theorem y14_2 : planOK (regAt (zg_ Try.f14) 2).2 (pl14 (regAt (zg_ Try.f14) 2).1) = stepsOK o14_2 [44] q14_2_0 47 #[false, false, false, false, false, false, false, false, false, false, false, false, false, false, false, false, false, false, false, false, false, false, false, false, false, false, false, false, false, false, false, false, false, false, false, false, false, false, false, false, false, false, false, false, false, false, false] true := by kernel_rfl
theorem plans14 : plansOK pl14 (zg_ Try.f14) = true := plansOK_at (n := 3) (by kernel_rfl) fun i hi => match i, hi with
  | 0, _ => by kernel_rfl
  | 1, _ => by kernel_rfl
  | 2, _ => y14_2.trans z14_2_0
  | i + 3, hi => absurd hi (by omega)
theorem enter14 {v0 v1 : Value} {k : Value → World → Prop} {w : World} (h : S14 v0 v1 k w) : CallK Try.prog 14 [v0, v1] k w :=
  call_of_wpF (pl := pl14) mixed Try.func14 body14 (by kernel_rfl) (of_decide_eq_true (by kernel_rfl)) (by kernel_rfl) plans14 (Eq.mpr (same14 v0 v1 k w) h)

open Go Go.Sh Go.RowKit
section
variable {w : World} {k : Value → World → Prop} {Y X Z : Option Addr} {cy cx cz n : Nat} {gm r : Gram} {ws to l : List Int} {b is : Bool} {non x : Int}
theorem zyp_ (e : zud_ gm = (r, b)) (hG : kG Y cy gm.rules w) (hk : ∀ w' U d, Gr w w' → kG U d r.rules w' → k (.tuple #[grv r U d, .bool b]) w') :
    CallK Try.prog 125 [grv gm Y cy] k w := by
  refine zap_ (gvK hG) fun w' U d g o => ?_
  rw [e] at o ⊢
  exact hk w' U d g o
theorem specRev_n (e : zud_ gm = (r, b)) (hG : kG Y cy gm.rules w) (hk : ∀ w' U d, Gr w w' → kG U d r.rules w' → k (.tuple #[grv r U d, .bool b]) w') :
    CallK Try.prog 126 [grv gm Y cy] k w := by
  refine zcp_ hG fun w' U d g o => ?_
  rw [e] at o ⊢
  exact hk w' U d g o
theorem implRen_n (e : renV gm to = (r, b)) (hG : kG Y cy gm.rules w) (hX : kI X to cx w) (hl : to.length ≤ 1000) (hk : ∀ w' U d, Gr w w' → kG U d r.rules w' → k (.tuple #[grv r U d, .bool b]) w') :
    CallK Try.prog 133 [grv gm Y cy, .slice X to.length cx] k w := by
  refine zvk_ hG hX.1 hl fun w' U d g o => ?_
  rw [e] at o ⊢
  exact hk w' U d g o
theorem specRen_n (e : renV gm to = (r, b)) (hG : kG Y cy gm.rules w) (hX : kI X to cx w) (hl : to.length ≤ 1000) (hk : ∀ w' U d, Gr w w' → kG U d r.rules w' → k (.tuple #[grv r U d, .bool b]) w') :
    CallK Try.prog 134 [grv gm Y cy, .slice X to.length cx] k w := by
  refine zwk_ hG hX.1 hl hX.2 fun w' U d g o => ?_
  rw [e] at o ⊢
  exact hk w' U d g o
theorem implWo_n (e : zgd_ gm non = (r, b)) (hG : kG Y cy gm.rules w) (hk : ∀ w' U d, Gr w w' → kG U d r.rules w' → k (.tuple #[grv r U d, .bool b]) w') :
    CallK Try.prog 142 [grv gm Y cy, .int .i64 non] k w := by
  refine zhj_ hG fun w' U d g o => ?_
  rw [e] at o ⊢
  exact hk w' U d g o
theorem specWo_n (e : zgd_ gm non = (r, b)) (hG : kG Y cy gm.rules w) (hk : ∀ w' U d, Gr w w' → kG U d r.rules w' → k (.tuple #[grv r U d, .bool b]) w') :
    CallK Try.prog 143 [grv gm Y cy, .int .i64 non] k w := by
  refine zij_ hG fun w' U d g o => ?_
  rw [e] at o ⊢
  exact hk w' U d g o
theorem zyk_ (e : zre_ gm = (x, b)) (hG : kG Y cy gm.rules w) (hk : ∀ w', Gr w w' → k (.tuple #[.int .i64 x, .bool b]) w') :
    CallK Try.prog 130 [grv gm Y cy] k w := by
  refine zyr_ hG fun w' g => ?_
  rw [e]
  exact hk w' g
theorem specSz_n (e : zre_ gm = (x, b)) (hG : kG Y cy gm.rules w) (hk : ∀ w', Gr w w' → k (.tuple #[.int .i64 x, .bool b]) w') :
    CallK Try.prog 137 [grv gm Y cy] k w := by
  refine zat_ hG fun w' g => ?_
  rw [e]
  exact hk w' g
theorem implRu_n (e : zee_ gm non = (l, b)) (hG : kG Y cy gm.rules w) (hk : ∀ w' U d, Gr w w' → Ints w' U l → k (.tuple #[.slice U l.length d, .bool b]) w') :
    CallK Try.prog 139 [grv gm Y cy, .int .i64 non] k w := by
  refine zir_ hG fun w' U d g o => ?_
  rw [e] at o ⊢
  exact hk w' U d g o
theorem specRu_n (e : zee_ gm non = (l, b)) (hG : kG Y cy gm.rules w) (hk : ∀ w' U d, Gr w w' → Ints w' U l → k (.tuple #[.slice U l.length d, .bool b]) w') :
    CallK Try.prog 140 [grv gm Y cy, .int .i64 non] k w := by
  refine zhr_ hG fun w' U d g o => ?_
  rw [e] at o ⊢
  exact hk w' U d g o
theorem zji_ (e : inLV gm ws = (is, b)) (hG : kG Y cy gm.rules w) (hX : kI X ws cx w) (hk : ∀ w', Gr w w' → k (.tuple #[.bool is, .bool b]) w') :
    CallK Try.prog 26 [grv gm Y cy, .slice X ws.length cx] k w := by
  refine zjk_ hG hX fun w' g => ?_
  rw [e]
  exact hk w' g
end
end Go.Proofs.Ytegcjkhebecgbaa
