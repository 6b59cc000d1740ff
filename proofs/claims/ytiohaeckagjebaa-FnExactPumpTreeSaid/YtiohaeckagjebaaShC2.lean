/- Contracts of what PumpWord reaches, second part. -/
import Derived.Test.YtiohaeckagjebaaShC1
set_option linter.unusedVariables false
set_option linter.unusedSimpArgs false
set_option maxRecDepth 100000
namespace Go.Sh
open Go
theorem all4 {cs : List Int} {n : Int} (h4 : cs.length = 4) : allB cs 0 n = true ↔ ∀ j, j < 4 → 0 ≤ cs.getD j 0 ∧ cs.getD j 0 ≤ n := by
  constructor
  · intro h j hj
    have := List.all_eq_true.1 h _ (getD_mem (xs := cs) (i := j) (by omega))
    simpa [inB] using this
  · intro h
    refine all_of fun j hj => ?_
    have := h j (by omega)
    simp [inB]
    simpa using this
def pumpW (xs cs : List Int) (many : Int) : Option (List Int) :=
  if xs.length ≤ 60 ∧ allB xs 0 1000000 = true ∧ Cuts cs xs.length ∧ inB many 0 4 = true then
    (if (pumpL xs cs many.toNat).length ≤ 60 then some (pumpL xs cs many.toNat) else none)
  else none
end Go.Sh
namespace Go.Proofs.Ytiohaeckagjebaa
open Go Go.Sh Go.RowKit

theorem l18Cuts_c {w : World} {Y : Option Addr} {d n : Nat} {cs : List Int} (hy : Ints w Y cs) {k : Value → World → Prop} (hk : ∀ w', Gr w w' → k (.bool (decide (Cuts cs n))) w') :
    CallK Try.prog 76 [.slice Y cs.length d, .int .i64 n] k w := by
  refine enter76 ?_
  unfold S76
  simp only [go_sem, Nat.reduceEqDiff]
  by_cases h4 : cs.length = 4
  · simp only [h4, decide_true, Bool.not_true, go_sem, Nat.reduceEqDiff, show ((4 : Nat) : Int) = 4 from rfl]
    rw [← h4]
    refine l1All_c hy fun w1 g1 => ?_
    simp only [go_sem, Nat.reduceEqDiff]
    cases hb : allB cs 0 n
    · simp only [Bool.not_false, go_sem, Nat.reduceEqDiff]
      have := hk w1 g1
      rwa [decide_eq_false] at this
      intro hc
      have : allB cs 0 n = true := (all4 h4).2 fun j hj => by
        obtain ⟨_, c0, c1, c2, c3, c4⟩ := hc
        rcases (show j = 0 ∨ j = 1 ∨ j = 2 ∨ j = 3 by omega) with rfl | rfl | rfl | rfl <;> omega
      rw [this] at hb
      cases hb
    · simp only [Bool.not_true, go_sem, Nat.reduceEqDiff]
      have ha := (all4 h4).1 hb
      have gd := gr_trans g1 (gr_drew w1)
      have hy' := hy.gr gd
      rw [ix22_0 hy.ptr (by omega), ld3 (hy'.cell 0 (by omega)), ix22_1 hy.ptr (by omega), ld3 (hy'.cell 1 (by omega))]
      simp only [go_sem, Nat.reduceEqDiff]
      have hk' := hk _ gd
      by_cases h01 : cs.getD 0 0 ≤ cs.getD 1 0
      · simp only [h01, decide_true, go_sem, Nat.reduceEqDiff]
        rw [ix22_1 hy.ptr (by omega), ld3 (hy'.cell 1 (by omega)), ix22_2 hy.ptr (by omega), ld3 (hy'.cell 2 (by omega))]
        simp only [go_sem, Nat.reduceEqDiff]
        by_cases h12 : cs.getD 1 0 ≤ cs.getD 2 0
        · simp only [h12, decide_true, go_sem, Nat.reduceEqDiff]
          rw [ix22_2 hy.ptr (by omega), ld3 (hy'.cell 2 (by omega)), ix22_3 hy.ptr (by omega), ld3 (hy'.cell 3 (by omega))]
          simp only [go_sem, Nat.reduceEqDiff]
          have h0 := ha 0 (by omega)
          have h3 := ha 3 (by omega)
          rwa [show decide (Cuts cs n) = decide (cs.getD 2 0 ≤ cs.getD 3 0) from decide_eq_decide.2 ⟨fun h => h.h23, fun h => ⟨h4, h0.1, h01, h12, h, h3.2⟩⟩] at hk'
        · simp only [h12, decide_false, go_sem, Nat.reduceEqDiff]
          rwa [decide_eq_false (fun h => h12 h.h12)] at hk'
      · simp only [h01, decide_false, go_sem, Nat.reduceEqDiff]
        rwa [decide_eq_false (fun h => h01 h.h01)] at hk'
  · have h4' : ¬ ((cs.length : Int) = 4) := by omega
    simp only [h4', decide_false, Bool.not_false, go_sem, Nat.reduceEqDiff]
    have := hk w (Gr.refl w)
    rwa [decide_eq_false (fun h => h4 h.len)] at this

theorem specPumpWord_c {w : World} {X Y : Option Addr} {c d : Nat} {xs cs : List Int} {many : Int} (hx : Ints w X xs) (hc : xs.length ≤ c) (hy : Ints w Y cs) {k : Value → World → Prop}
    (hk : ∀ X' c' w', Gr w w' → match pumpW xs cs many with
      | some l => Own 3 w' w.heap.size X' c' l → k (.tuple #[.slice X' l.length c', .bool true]) w'
      | none => k (.tuple #[.slice none 0 0, .bool false]) w') :
    CallK Try.prog 23 [.slice X xs.length c, .slice Y cs.length d, .int .i64 many] k w := by
  refine enter23 ?_
  unfold S23
  simp only [go_sem, Nat.reduceEqDiff]
  by_cases h60 : (60 : Int) < xs.length
  · simp only [h60, decide_true, go_sem, Nat.reduceEqDiff]
    have := hk none 0 w (Gr.refl w)
    rwa [show pumpW xs cs many = none from if_neg (fun h => by omega)] at this
  simp only [h60, decide_false, go_sem, Nat.reduceEqDiff]
  refine l1All_c hx fun w1 g1 => ?_
  simp only [go_sem, Nat.reduceEqDiff]
  cases ha : allB xs 0 1000000
  · simp only [Bool.not_false, go_sem, Nat.reduceEqDiff]
    have := hk none 0 w1 g1
    rwa [show pumpW xs cs many = none from if_neg (fun h => by rw [ha] at h; exact absurd h.2.1 (by decide))] at this
  simp only [Bool.not_true, go_sem, Nat.reduceEqDiff]
  refine l18Cuts_c (hy.gr g1) fun w2 g2 => ?_
  have g2' := gr_trans g1 g2
  simp only [go_sem, Nat.reduceEqDiff]
  by_cases hcs : Cuts cs xs.length
  rotate_left
  · simp only [hcs, decide_false, Bool.not_false, go_sem, Nat.reduceEqDiff]
    have := hk none 0 w2 g2'
    rwa [show pumpW xs cs many = none from if_neg (fun h => hcs h.2.2.1)] at this
  simp only [hcs, decide_true, Bool.not_true, go_sem, Nat.reduceEqDiff]
  refine l1In_c ?_
  simp only [go_sem, Nat.reduceEqDiff]
  cases hm : inB many 0 4
  · simp only [Bool.not_false, go_sem, Nat.reduceEqDiff]
    have := hk none 0 w2 g2'
    rwa [show pumpW xs cs many = none from if_neg (fun h => by rw [hm] at h; exact absurd h.2.2.2 (by decide))] at this
  simp only [Bool.not_true, go_sem, Nat.reduceEqDiff]
  have hm' : 0 ≤ many ∧ many ≤ 4 := by simpa [inB] using hm
  obtain ⟨m, rfl⟩ := Int.eq_ofNat_of_zero_le hm'.1
  refine l18Word_c (hx.gr g2') hc (hy.gr g2') hcs (by omega) (by omega) fun X' c' w3 g3 o3 => ?_
  have e : pumpW xs cs m = if (pumpL xs cs m).length ≤ 60 then some (pumpL xs cs m) else none := if_pos ⟨by omega, ha, hcs, hm⟩
  have hk' := hk X' c' w3 (gr_trans g2' g3)
  rw [e] at hk'
  simp only [go_sem, Nat.reduceEqDiff]
  by_cases hl : (pumpL xs cs m).length ≤ 60
  · simp only [show ¬ (60 : Int) < (pumpL xs cs m).length by omega, decide_false, go_sem, Nat.reduceEqDiff]
    rw [if_pos hl] at hk'
    exact hk' (Row.mono o3 g2'.size)
  · simp only [show (60 : Int) < (pumpL xs cs m).length by omega, decide_true, go_sem, Nat.reduceEqDiff]
    rw [if_neg hl] at hk'
    exact hk'

/-- A function value that tells of a number, in whatever world has grown. -/
def Pred (t : Nat) (fv : Value) (p : Int → Bool) (w : World) : Prop := ∀ w1, Gr w w1 → ∀ (x : Int) (k : Value → World → Prop), (∀ w2, Gr w1 w2 → k (.bool (p x)) w2) → Do Try.prog (sCallV fv [.int .i64 x] t) k w1
theorem indexFunc_c {w : World} {X : Option Addr} {c : Nat} {xs : List Int} {fv : Value} {p : Int → Bool} (hx : Ints w X xs) (hp : Pred 4 fv p w) {k : Value → World → Prop}
    (hk : ∀ (r : Int) w', Gr w w' → decide (0 ≤ r) = xs.any p → (0 ≤ r → r < xs.length ∧ p (xs.getD r.toNat 0) = true ∧ ∀ j : Nat, j < r → p (xs.getD j 0) = false) → k (.int .i64 r) w') :
    CallK Try.prog 171 [.slice X xs.length c, fv] k w := by
  refine enter171 ?_
  unfold S171
  simp only [go_sem, Nat.reduceEqDiff]
  refine ⟨fun f w' => ∃ i : Nat, i ≤ xs.length ∧ f 8 = .int .i64 i ∧ Gr w w' ∧ ∀ j, j < i → p (xs.getD j 0) = false, fun f _ => xs.length - (intOf (f 8)).toNat, ⟨0, Nat.zero_le _, rfl, Gr.refl w, fun j hj => absurd hj (Nat.not_lt_zero j)⟩, ?_⟩
  rintro f w1 hag ⟨i, hi, h8, hg, hpre⟩
  have f0 : f 0 = .slice X xs.length c := hag 0 (by decide)
  have f1 : f 1 = fv := hag 1 (by decide)
  have f7 : f 7 = .int .i64 xs.length := hag 7 (by decide)
  simp only [f0, f1, f7, h8, go_sem, Nat.reduceEqDiff]
  by_cases hlt : i < xs.length
  · have hlt' : (i : Int) < xs.length := by omega
    have := hx.le
    simp only [hlt', decide_true, go_sem, Nat.reduceEqDiff]
    rw [ixn22 hx.ptr hlt, ld3 ((hx.gr hg).cell i hlt)]
    refine hp w1 hg _ _ fun w2 g2 => ?_
    have g2' := gr_trans hg g2
    cases hb : p (xs.getD i 0)
    · simp only [go_sem, Nat.reduceEqDiff]
      rw [i64_of (by omega) (by omega)]
      refine ⟨⟨i + 1, hlt, rfl, g2', fun j hj => ?_⟩, ?_⟩
      · rcases Nat.lt_succ_iff_lt_or_eq.1 hj with h | rfl
        · exact hpre j h
        · exact hb
      · simp only [intOf]
        omega
    · simp only [go_sem, Nat.reduceEqDiff]
      refine hk i w2 g2' ?_ fun _ => ⟨hlt', hb, fun j hj => hpre j (by omega)⟩
      rw [decide_eq_true (by omega), eq_comm, List.any_eq_true]
      exact ⟨_, getD_mem hlt, hb⟩
  · simp only [show ¬ (i : Int) < xs.length from by omega, decide_false, go_sem, Nat.reduceEqDiff]
    refine hk (-1) w1 hg ?_ fun h => absurd h (by decide)
    rw [decide_eq_false (by decide), eq_comm, List.any_eq_false]
    intro x hx'
    obtain ⟨j, hj, rfl⟩ := List.getElem_of_mem hx'
    have := hpre j (by omega)
    rw [List.getD_eq_getElem?_getD, List.getElem?_eq_getElem hj] at this
    simpa using this
theorem containsFunc_c {w : World} {X : Option Addr} {c : Nat} {xs : List Int} {fv : Value} {p : Int → Bool} (hx : Ints w X xs) (hp : Pred 4 fv p w) {k : Value → World → Prop}
    (hk : ∀ w', Gr w w' → k (.bool (xs.any p)) w') : CallK Try.prog 129 [.slice X xs.length c, fv] k w := by
  refine enter129 ?_
  unfold S129
  refine indexFunc_c hx hp fun r w' g h _ => ?_
  simp only [go_sem, Nat.reduceEqDiff]
  rw [h]
  exact hk w' g
theorem pumpWord1_c {x : Int} {w : World} {k : Value → World → Prop} (hk : k (.bool (!inB x 0 1000000)) w) : CallK Try.prog 130 [.int .i64 x] k w := by
  refine enter130 ?_
  unfold S130
  refine in_c ?_
  simp only [go_sem, Nat.reduceEqDiff]
  exact hk
end Go.Proofs.Ytiohaeckagjebaa
