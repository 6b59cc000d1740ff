/- Contracts of what PumpWord reaches, third part. -/
import Derived.Test.YtiohaeckagjebaaShC2
set_option linter.unusedVariables false
set_option linter.unusedSimpArgs false
set_option maxRecDepth 100000
namespace Go.Sh
open Go
theorem inB_iff {n lo hi : Int} : inB n lo hi = true ↔ lo ≤ n ∧ n ≤ hi := by simp [inB]
end Go.Sh
namespace Go.Proofs.Ytiohaeckagjebaa
open Go Go.Sh Go.RowKit

theorem pumpWord1_p {w : World} : Pred 4 (.func (.func 130) [].toArray [].toArray) (fun x => !inB x 0 1000000) w :=
  fun w1 g1 x k hk => callV0 (pumpWord1_c (hk w1 (Gr.refl w1)))
theorem implPumpWord_c {w : World} {X Y : Option Addr} {c d : Nat} {xs cs : List Int} {many : Int} (hx : Ints w X xs) (hc : xs.length ≤ c) (hy : Ints w Y cs) {k : Value → World → Prop}
    (hk : ∀ X' c' w', Gr w w' → match pumpW xs cs many with
      | some l => Own 3 w' w.heap.size X' c' l → k (.tuple #[.slice X' l.length c', .bool true]) w'
      | none => k (.tuple #[.slice none 0 0, .bool false]) w') :
    CallK Try.prog 79 [.slice X xs.length c, .slice Y cs.length d, .int .i64 many] k w := by
  refine enter79 ?_
  unfold S79
  have hno : ∀ w', Gr w w' → pumpW xs cs many = none → k (.tuple #[.slice none 0 0, .bool false]) w' := fun w' g e => by
    have := hk none 0 w' g
    rwa [e] at this
  simp only [go_sem, Nat.reduceEqDiff]
  by_cases h60 : (60 : Int) < xs.length
  · simp only [h60, decide_true, go_sem, Nat.reduceEqDiff]
    exact hno w (Gr.refl w) (if_neg fun h => by omega)
  simp only [h60, decide_false, go_sem, Nat.reduceEqDiff]
  by_cases h4' : cs.length = 4
  rotate_left
  · have h4 : ¬ (cs.length : Int) = 4 := by omega
    simp only [h4, decide_false, Bool.not_false, go_sem, Nat.reduceEqDiff]
    exact hno w (Gr.refl w) (if_neg fun h => h4' h.2.2.1.len)
  have h4 : (cs.length : Int) = 4 := by omega
  simp only [h4, decide_true, Bool.not_true, go_sem, Nat.reduceEqDiff]
  refine in_c ?_
  simp only [go_sem, Nat.reduceEqDiff]
  cases hm : inB many 0 4
  · simp only [Bool.not_false, go_sem, Nat.reduceEqDiff]
    exact hno w (Gr.refl w) (if_neg fun h => by rw [hm] at h; exact absurd h.2.2.2 (by decide))
  simp only [Bool.not_true, go_sem, Nat.reduceEqDiff]
  refine containsFunc_c (p := fun x => !inB x 0 1000000) hx pumpWord1_p fun w1 g1 => ?_
  have hany : xs.any (fun x => !inB x 0 1000000) = !allB xs 0 1000000 := by
    unfold allB
    rw [List.not_all_eq_any_not]
  rw [hany]
  cases ha : allB xs 0 1000000
  · simp only [Bool.not_false, go_sem, Nat.reduceEqDiff]
    exact hno w1 g1 (if_neg fun h => by rw [ha] at h; exact absurd h.2.1 (by decide))
  simp only [Bool.not_true, go_sem, Nat.reduceEqDiff]
  refine ⟨fun f w' => ∃ i : Nat, i ≤ 4 ∧ f 31 = .int .i64 i ∧ f 8 = .int .i64 (if i = 0 then 0 else cs.getD (i - 1) 0) ∧ Gr w w' ∧ (∀ j, j < i → (if j = 0 then 0 else cs.getD (j - 1) 0) ≤ cs.getD j 0 ∧ cs.getD j 0 ≤ xs.length), fun f _ => 4 - (intOf (f 31)).toNat,
    ⟨0, by omega, rfl, rfl, g1, fun j hj => absurd hj (Nat.not_lt_zero j)⟩, ?_⟩
  rintro f w2 hag ⟨i, hi, h31, h8, g2, hpre⟩
  have f0 : f 0 = .slice X xs.length c := hag 0 (by decide)
  have f1 : f 1 = .slice Y cs.length d := hag 1 (by decide)
  have f2 : f 2 = .int .i64 many := hag 2 (by decide)
  have f29 : f 29 = .slice Y cs.length d := hag 29 (by decide)
  have f30 : f 30 = .int .i64 4 := hag 30 (by decide)
  simp only [f0, f1, f2, f29, f30, h31, h8, go_sem, Nat.reduceEqDiff]
  by_cases hlt : i < 4
  · have hlt' : (i : Int) < 4 := by omega
    simp only [hlt', decide_true, go_sem, Nat.reduceEqDiff]
    rw [ixn22 hy.ptr (by omega), ld3 ((hy.gr g2).cell i (by omega))]
    refine in_c ?_
    simp only [go_sem, Nat.reduceEqDiff]
    cases hb : inB (cs.getD i 0) (if i = 0 then 0 else cs.getD (i - 1) 0) xs.length
    · simp only [Bool.not_false, go_sem, Nat.reduceEqDiff]
      refine hno w2 g2 (if_neg fun h => ?_)
      obtain ⟨_, c0, c1, c2, c3, c4⟩ := h.2.2.1
      have : inB (cs.getD i 0) (if i = 0 then 0 else cs.getD (i - 1) 0) xs.length = true := inB_iff.2 (by
        rcases (show i = 0 ∨ i = 1 ∨ i = 2 ∨ i = 3 by omega) with rfl | rfl | rfl | rfl
        · exact ⟨c0, by omega⟩
        · exact ⟨c1, by omega⟩
        · exact ⟨c2, by omega⟩
        · exact ⟨c3, by omega⟩)
      rw [hb] at this
      cases this
    · simp only [Bool.not_true, go_sem, Nat.reduceEqDiff]
      rw [i64_of (by omega) (by omega)]
      have hb' := inB_iff.1 hb
      refine ⟨⟨i + 1, hlt, rfl, by rw [if_neg (by omega)]; rfl, g2, fun j hj => ?_⟩, ?_⟩
      · rcases Nat.lt_succ_iff_lt_or_eq.1 hj with h | rfl
        · exact hpre j h
        · exact hb'
      · simp only [intOf]
        omega
  have hi4 : i = 4 := by omega
  subst hi4
  have e0 := hpre 0 (by omega)
  have e1 := hpre 1 (by omega)
  have e2 := hpre 2 (by omega)
  have e3 := hpre 3 (by omega)
  simp only [if_true, Nat.one_ne_zero, if_false, show (2 : Nat) ≠ 0 by decide, show (3 : Nat) ≠ 0 by decide, Nat.sub_self, show (2 - 1 : Nat) = 1 from rfl, show (3 - 1 : Nat) = 2 from rfl] at e0 e1 e2 e3
  have hcs : Cuts cs xs.length := ⟨h4', e0.1, e1.1, e2.1, e3.1, e3.2⟩
  have hm' := inB_iff.1 hm
  obtain ⟨m, rfl⟩ := Int.eq_ofNat_of_zero_le hm'.1
  have e : pumpW xs cs m = if (pumpL xs cs m).length ≤ 60 then some (pumpL xs cs m) else none := if_pos ⟨by omega, ha, hcs, hm⟩
  obtain ⟨_, c0, c1, c2, c3, c4⟩ := hcs
  simp only [show ¬ ((4 : Nat) : Int) < 4 by decide, decide_false, go_sem, Nat.reduceEqDiff]
  obtain ⟨p0, l0⟩ := Ints_seg hx hc (Int.le_refl 0) c0 (by omega)
  obtain ⟨p1, l1⟩ := Ints_seg hx hc c0 c1 (by omega)
  obtain ⟨p2, l2⟩ := Ints_seg hx hc (by omega) c2 (by omega)
  obtain ⟨p3, l3⟩ := Ints_seg hx hc (by omega) c3 (by omega)
  obtain ⟨p4, l4⟩ := Ints_seg hx hc (a := cs.getD 3 0) (b := xs.length) (by omega) c4 (Int.le_refl _)
  refine bs22 [] (by decide) (by simp [Instr.fill, madeCells]) rfl fun b w3 hb1 hb2 g3 hbox hrow => ?_
  have g3' := gr_trans g2 g3
  rw [ix22_0 hy.ptr (by omega), ld3 ((hy.gr g3').cell 0 (by omega)), slh22 c0 (by omega)]
  refine apI (xs := []) (hrow w.heap.size g2.size) (p0.gr g3') rfl (by rw [l0]; simp) (by rw [l0, List.length_nil]; omega) g3'.size fun X1 d1 w4 o1 g4 => ?_
  rw [List.nil_append] at o1
  have g4' := gr_mod g3' g4 fun q hq => by simp [blk] at hq; have := g2.size; omega
  have hl : xs.length ≤ 100 := by omega
  have hm4 : m ≤ 4 := by omega
  clear hag hpre e0 e1 e2 e3 h31 h8 f29 f30 hno
  have hb1 : (seg xs 0 (cs.getD 0 0)).length ≤ 100 := by omega
  refine ⟨fun f w' => ∃ (i : Nat) (X' : Option Addr) (c' : Nat), i ≤ m ∧ f 51 = .int .i64 i ∧ f 11 = .slice X' (seg xs 0 (cs.getD 0 0) ++ rep i (seg xs (cs.getD 0 0) (cs.getD 1 0))).length c' ∧ Gr w w' ∧ Own 3 w' w.heap.size X' c' (seg xs 0 (cs.getD 0 0) ++ rep i (seg xs (cs.getD 0 0) (cs.getD 1 0))), fun f _ => m - (intOf (f 51)).toNat,
    ⟨0, X1, d1, Nat.zero_le _, rfl, by simp [rep]; rfl, g4', by simpa [rep] using o1⟩, ?_⟩
  rintro f w2 hag ⟨i, X2, d2, him, h8, h7, g2, o2⟩
  have f0 : f 0 = .slice X xs.length c := (hag 0 (by decide)).trans f0
  have f1 : f 1 = .slice Y cs.length d := (hag 1 (by decide)).trans f1
  have f50 : f 50 = .int .i64 m := (hag 50 (by decide)).trans (by simp only [upd_at, Nat.reduceEqDiff, ite_T, ite_F, f2])
  have f2 : f 2 = .int .i64 m := (hag 2 (by decide)).trans f2
  simp only [f0, f1, f2, f50, h7, h8, go_sem, Nat.reduceEqDiff]
  by_cases hlt : i < m
  · have hlt' : (i : Int) < m := by omega
    have gd := gr_trans g2 (gr_drew w2)
    simp only [hlt', decide_true, go_sem, Nat.reduceEqDiff]
    rw [ix22_0 hy.ptr (by omega), ld3 ((hy.gr gd).cell 0 (by omega)), ix22_1 hy.ptr (by omega), ld3 ((hy.gr gd).cell 1 (by omega)), sl22 c0 c1 (by omega)]
    have hlen : (seg xs 0 (cs.getD 0 0) ++ rep i (seg xs (cs.getD 0 0) (cs.getD 1 0))).length ≤ 100 + 4 * 100 := by
      rw [List.length_append, rep_length]
      have := Nat.mul_le_mul (show i ≤ 4 by omega) (show (seg xs (cs.getD 0 0) (cs.getD 1 0)).length ≤ 100 by omega)
      omega
    refine apI (o2.gr (gr_drew w2)) (p1.gr gd) rfl (by rw [l1]) (by omega) gd.size fun X3 d3 w3 o3 g3 => ?_
    rw [i64_of (by omega) (by omega)]
    have g3' := gr_mod gd g3 fun q hq => (Row.ge o2 hq).1
    rw [List.append_assoc, ← rep_succ] at o3
    refine ⟨⟨i + 1, X3, d3, hlt, rfl, by rw [List.append_assoc, ← rep_succ], g3', o3⟩, ?_⟩
    simp only [intOf]
    omega
  · have him' : i = m := by omega
    subst him'
    simp only [show ¬ (i : Int) < i from by omega, decide_false, go_sem, Nat.reduceEqDiff]
    have gd := gr_trans g2 (gr_drew w2)
    rw [ix22_1 hy.ptr (by omega), ld3 ((hy.gr gd).cell 1 (by omega)), ix22_2 hy.ptr (by omega), ld3 ((hy.gr gd).cell 2 (by omega)), sl22 (by omega) c2 (by omega)]
    have hlen : (seg xs 0 (cs.getD 0 0) ++ rep i (seg xs (cs.getD 0 0) (cs.getD 1 0))).length ≤ 100 + 4 * 100 := by
      rw [List.length_append, rep_length]
      have := Nat.mul_le_mul (show i ≤ 4 by omega) (show (seg xs (cs.getD 0 0) (cs.getD 1 0)).length ≤ 100 by omega)
      omega
    refine apI (o2.gr (gr_drew w2)) (p2.gr gd) rfl (by rw [l2]) (by omega) gd.size fun X3 d3 w3 o3 g3 => ?_
    have g3' := gr_mod gd g3 fun q hq => (Row.ge o2 hq).1
    have hlen3 : (seg xs 0 (cs.getD 0 0) ++ rep i (seg xs (cs.getD 0 0) (cs.getD 1 0)) ++ seg xs (cs.getD 1 0) (cs.getD 2 0)).length ≤ 600 := by
      rw [List.length_append]
      omega
    refine ⟨fun f w' => ∃ (j : Nat) (X' : Option Addr) (c' : Nat), j ≤ i ∧ f 75 = .int .i64 j ∧ f 11 = .slice X' (seg xs 0 (cs.getD 0 0) ++ rep i (seg xs (cs.getD 0 0) (cs.getD 1 0)) ++ seg xs (cs.getD 1 0) (cs.getD 2 0) ++ rep j (seg xs (cs.getD 2 0) (cs.getD 3 0))).length c' ∧ Gr w w' ∧ Own 3 w' w.heap.size X' c' (seg xs 0 (cs.getD 0 0) ++ rep i (seg xs (cs.getD 0 0) (cs.getD 1 0)) ++ seg xs (cs.getD 1 0) (cs.getD 2 0) ++ rep j (seg xs (cs.getD 2 0) (cs.getD 3 0))), fun f _ => i - (intOf (f 75)).toNat,
      ⟨0, X3, d3, Nat.zero_le _, rfl, by simp [rep]; rfl, g3', by simpa [rep] using o3⟩, ?_⟩
    rintro f' w4 hag' ⟨j, X4, d4, hji, h9, h7', g4, o4⟩
    have f0' : f' 0 = .slice X xs.length c := (hag' 0 (by decide)).trans f0
    have f1' : f' 1 = .slice Y cs.length d := (hag' 1 (by decide)).trans f1
    have f74' : f' 74 = .int .i64 i := (hag' 74 (by decide)).trans (by simp only [upd_at, Nat.reduceEqDiff, ite_T, ite_F, f2])
    simp only [f0', f1', f74', h7', h9, go_sem, Nat.reduceEqDiff]
    have hlen4 : (seg xs 0 (cs.getD 0 0) ++ rep i (seg xs (cs.getD 0 0) (cs.getD 1 0)) ++ seg xs (cs.getD 1 0) (cs.getD 2 0) ++ rep j (seg xs (cs.getD 2 0) (cs.getD 3 0))).length ≤ 600 + 4 * 100 := by
      rw [List.length_append, rep_length j]
      have := Nat.mul_le_mul (show j ≤ 4 by omega) (show (seg xs (cs.getD 2 0) (cs.getD 3 0)).length ≤ 100 by omega)
      omega
    by_cases hlt2 : j < i
    · have hlt' : (j : Int) < i := by omega
      have gd4 := gr_trans g4 (gr_drew w4)
      simp only [hlt', decide_true, go_sem, Nat.reduceEqDiff]
      rw [ix22_2 hy.ptr (by omega), ld3 ((hy.gr gd4).cell 2 (by omega)), ix22_3 hy.ptr (by omega), ld3 ((hy.gr gd4).cell 3 (by omega)), sl22 (by omega) c3 (by omega)]
      refine apI (o4.gr (gr_drew w4)) (p3.gr gd4) rfl (by rw [l3]) (by omega) gd4.size fun X5 d5 w5 o5 g5 => ?_
      rw [i64_of (by omega) (by omega)]
      have g5' := gr_mod gd4 g5 fun q hq => (Row.ge o4 hq).1
      rw [List.append_assoc, ← rep_succ] at o5
      refine ⟨⟨j + 1, X5, d5, hlt2, rfl, by rw [List.append_assoc, ← rep_succ], g5', o5⟩, ?_⟩
      simp only [intOf]
      omega
    · have hji' : j = i := by omega
      subst hji'
      simp only [show ¬ (j : Int) < j from by omega, decide_false, go_sem, Nat.reduceEqDiff]
      rw [ix22_3 hy.ptr (by omega), ld3 ((hy.gr g4).cell 3 (by omega)), sll22 (by omega) c4]
      refine apI o4 (p4.gr g4) rfl (by rw [l4]; simp) (by omega) g4.size fun X5 d5 w5 o5 g5 => ?_
      have g5' := gr_mod g4 g5 fun q hq => (Row.ge o4 hq).1
      have hk' := hk X5 d5 w5 g5'
      rw [e] at hk'
      simp only [go_sem, Nat.reduceEqDiff]
      change CondK (.bool (decide ((60 : Int) < (pumpL xs cs j).length))) (k (.tuple #[.slice none 0 0, .bool false]) w5) (k (.tuple #[.slice X5 (pumpL xs cs j).length d5, .bool true]) w5)
      by_cases hl' : (pumpL xs cs j).length ≤ 60
      · simp only [show (Int.ofNat j).toNat = j from rfl, hl', if_true] at hk'
        have := hk' o5
        simp only [show ¬ (60 : Int) < (pumpL xs cs j).length by omega, decide_false, go_sem, Nat.reduceEqDiff]
        exact this
      · rw [if_neg hl'] at hk'
        simp only [show (60 : Int) < (pumpL xs cs j).length by omega, decide_true, go_sem, Nat.reduceEqDiff]
        exact hk'

theorem ImplPumpWord_c {w : World} {X Y : Option Addr} {c d : Nat} {xs cs : List Int} {many : Int} (hx : Ints w X xs) (hc : xs.length ≤ c) (hy : Ints w Y cs) {k : Value → World → Prop}
    (hk : ∀ X' c' w', Gr w w' → match pumpW xs cs many with
      | some l => Own 3 w' w.heap.size X' c' l → k (.tuple #[.slice X' l.length c', .bool true]) w'
      | none => k (.tuple #[.slice none 0 0, .bool false]) w') :
    CallK Try.prog 25 [.slice X xs.length c, .slice Y cs.length d, .int .i64 many] k w := by
  refine enter25 ?_
  unfold S25
  refine implPumpWord_c hx hc hy fun X' c' w' g => ?_
  have := hk X' c' w' g
  cases e : pumpW xs cs many with
  | none =>
    rw [e] at this
    simp only [go_sem, Nat.reduceEqDiff]
    exact this
  | some l =>
    rw [e] at this
    simp only [go_sem, Nat.reduceEqDiff]
    exact this
end Go.Proofs.Ytiohaeckagjebaa
