/- Contracts: what the laws do with slices of ints: copies, marks, looks. -/
import Derived.Test.YtiohaeckagjebaaShC0
set_option linter.unusedVariables false
set_option linter.unusedSimpArgs false
set_option maxRecDepth 100000
namespace Go.Sh
open Go
/-- The marks k, k + 1, .. -/
def marks (k : Int) (n : Nat) : List Int := (List.range n).map fun (j : Nat) => k + (j : Int)
theorem marks_length (k : Int) (n : Nat) : (marks k n).length = n := by simp [marks]
theorem marks_at {k : Int} {n j : Nat} (h : j < n) : (marks k n).getD j 0 = k + j := by simp [marks, List.getD_eq_getElem?_getD, h]
theorem set_take_drop {xs ys : List Int} {i : Nat} (h : i < ys.length) (hl : xs.length = ys.length) : (xs.take i ++ ys.drop i).set i (xs.getD i 0) = xs.take (i + 1) ++ ys.drop (i + 1) := by
  rw [take_snoc (by omega), List.set_append_right _ _ (by simp; omega)]
  have hi : i - (xs.take i).length = 0 := by simp; omega
  rw [hi, List.drop_eq_getElem_cons h, List.set_cons_zero]
  simp
theorem ints_set (xs : List Int) (i : Nat) (x : Int) : (ints xs).set i (.int .i64 x) = ints (xs.set i x) := by simp [ints, List.map_set]
theorem zeros_ints (n : Nat) : (madeCells (Value.cells (.int .i64 0)) (n * 1)).toList = ints (List.replicate n 0) := by
  rw [Nat.mul_one]
  simp [madeCells, Value.cells, ints]
  apply List.ext_getElem
  · simp
  · intro i h1 h2
    simp [Nat.mod_one]
/-- Two rows, the one younger than the other: what is written into the one doesn't touch the other. -/
theorem apart {w w' : World} {B e sz n c B' e' sz' n' c' : Nat} {X Y : Option Addr} {cs cs' : List Value} (h : Row w B e sz X n c cs) (h' : Row w' B' e' sz' Y n' c' cs') (hb : w.heap.size ≤ B') : blk X = none ∨ blk X ≠ blk Y := by
  cases hq : blk X with
  | none => exact .inl rfl
  | some q =>
    refine .inr fun e => ?_
    have := (h.ge hq).2
    have := (h'.ge e.symm).1
    omega
theorem apart' {w w' : World} {B e sz n c B' e' sz' n' c' : Nat} {X Y : Option Addr} {cs cs' : List Value} (h : Row w B e sz X n c cs) (h' : Row w' B' e' sz' Y n' c' cs') (hb : w.heap.size ≤ B') : blk Y = none ∨ blk Y ≠ blk X := by
  cases hq : blk Y with
  | none => exact .inl rfl
  | some q =>
    refine .inr fun e => ?_
    have := (h.ge e.symm).2
    have := (h'.ge hq).1
    omega
theorem Ints.kept {w w' : World} {X : Option Addr} {xs : List Int} {r : Option Nat} (h : Ints w X xs) (g : w.grownBy w' r) (hr : blk X = none ∨ blk X ≠ r) : Ints w' X xs := by
  refine ⟨h.le, h.ptr, fun j hj => ?_⟩
  have hp := h.ptr (by omega)
  refine g.cell (h.cell j hj) ?_
  rw [hp] at hr
  simp only [blk, Option.map_some] at hr
  have : ((ad X).add j).block = (ad X).block := by
    unfold Addr.add
    split <;> rfl
  rw [this]
  rcases hr with h | h
  · cases h
  · exact h
end Go.Sh
namespace Go.Proofs.Ytiohaeckagjebaa
open Go Go.Sh Go.RowKit

theorem toIntS_c {w : World} {X : Option Addr} {c n : Nat} {xs : List Int} (hx : Ints w X xs) (hn : n = xs.length) (hb : xs.length * 8 ≤ 281474976710656) {k : Value → World → Prop}
    (hk : ∀ X' c' w', Gr w w' → Own 3 w' w.heap.size X' c' xs → k (.slice X' xs.length c') w') : CallK Try.prog 24 [.slice X n c] k w := by
  subst hn
  refine enter24 ?_
  unfold S24
  simp only [go_sem, Nat.reduceEqDiff]
  refine mk22 hb fun b w1 hb1 hb2 g1 hrow => ?_
  have o1 := hrow _ (Nat.le_refl _)
  rw [zeros_ints] at o1
  refine ⟨fun f w' => ∃ i : Nat, i ≤ xs.length ∧ f 4 = .int .i64 i ∧ Gr w w' ∧ Row w' w.heap.size 3 1 (some ⟨b, 0, none⟩) xs.length xs.length (ints (xs.take i ++ (List.replicate xs.length (0 : Int)).drop i)), fun f _ => xs.length - (intOf (f 4)).toNat,
    ⟨0, Nat.zero_le _, rfl, g1, by simpa using o1⟩, ?_⟩
  rintro f w2 hag ⟨i, hi, h4, g2, o2⟩
  have f0 : f 0 = .slice X xs.length c := hag 0 (by decide)
  have f3 : f 3 = .slice (some ⟨b, 0, none⟩) xs.length xs.length := hag 3 (by decide)
  simp only [f0, f3, h4, go_sem, Nat.reduceEqDiff]
  by_cases hlt : i < xs.length
  · have hlt' : (i : Int) < xs.length := by omega
    have := hx.le
    simp only [hlt', decide_true, go_sem, Nat.reduceEqDiff]
    rw [ixn22 hx.ptr hlt, ld3 ((hx.gr g2).cell i hlt), ixn22 (X := some ⟨b, 0, none⟩) (fun _ => rfl) hlt]
    refine do_store_row sz3 rfl rfl o2 (by rw [Nat.mul_one]; exact hlt) fun w3 g3 hs3 o3 => ?_
    rw [ints_set, set_take_drop (by simpa using hlt) (by simp)] at o3
    rw [i64_of (by omega) (by omega)]
    refine ⟨⟨i + 1, hlt, rfl, gr_mod g2 g3 (fun q hq => (Row.ge o2 hq).1), o3⟩, ?_⟩
    simp only [intOf]
    omega
  · have hi' : i = xs.length := by omega
    subst hi'
    simp only [Int.lt_irrefl, decide_false, go_sem, Nat.reduceEqDiff]
    refine hk _ _ w2 g2 ?_
    simpa using o2

/-- What markIntS leaves; k must not wrap. -/
theorem markIntS_c {w : World} {B c n : Nat} {X : Option Addr} {xs : List Int} {m : Int} (hx : Own 3 w B X c xs) (hn : n = xs.length) (h0 : 0 ≤ m) (h1 : m + xs.length ≤ 9223372036854775807) {k : Value → World → Prop}
    (hk : ∀ w', w.grownBy w' (blk X) → Own 3 w' B X c (marks m xs.length) → k (.int .i64 (m + xs.length)) w') : CallK Try.prog 27 [.slice X n c, .int .i64 m] k w := by
  subst hn
  refine enter27 ?_
  unfold S27
  refine ⟨fun f w' => ∃ i : Nat, i ≤ xs.length ∧ f 5 = .int .i64 i ∧ f 1 = .int .i64 (m + i) ∧ w.grownBy w' (blk X) ∧ Row w' B 3 1 X xs.length c (ints ((marks m xs.length).take i ++ xs.drop i)), fun f _ => xs.length - (intOf (f 5)).toNat,
    ⟨0, Nat.zero_le _, rfl, by simp; rfl, gr_any (Gr.refl w) _, by simpa using hx⟩, ?_⟩
  rintro f w2 hag ⟨i, hi, h5, hf1, g2, o2⟩
  have f0 : f 0 = .slice X xs.length c := hag 0 (by decide)
  simp only [f0, hf1, h5, go_sem, Nat.reduceEqDiff]
  by_cases hlt : i < xs.length
  · have hlt' : (i : Int) < xs.length := by omega
    simp only [hlt', decide_true, go_sem, Nat.reduceEqDiff]
    rw [ixn22 (fun h => Row.ptr hx h) hlt]
    refine do_store_row sz3 rfl rfl o2 (by rw [Nat.mul_one]; exact hlt) fun w3 g3 hs3 o3 => ?_
    have e := marks_at (k := m) hlt
    rw [ints_set, ← e, set_take_drop hlt (marks_length _ _)] at o3
    rw [i64_of (by omega) (by omega), i64_of (by omega) (by omega)]
    refine ⟨⟨i + 1, hlt, rfl, by rw [Int.natCast_succ, Int.add_assoc], grownBy_trans g2 g3, o3⟩, ?_⟩
    simp only [intOf]
    omega
  · have hi' : i = xs.length := by omega
    subst hi'
    simp only [Int.lt_irrefl, decide_false, go_sem, Nat.reduceEqDiff]
    refine hk w2 g2 ?_
    have e : (marks m xs.length).take xs.length ++ xs.drop xs.length = marks m xs.length := by
      rw [List.take_of_length_le (by rw [marks_length]; exact Nat.le_refl _)]
      simp
    rw [e] at o2
    show Row _ _ _ _ _ (marks m xs.length).length _ _
    rw [marks_length]
    exact o2

theorem heldIntS_c {w : World} {X : Option Addr} {c n l : Nat} {m : Int} (hx : Ints w X (marks m l)) (hn : n = l) (h0 : 0 ≤ m) (h1 : m + l ≤ 9223372036854775807) {k : Value → World → Prop}
    (hk : ∀ w', Gr w w' → k (.int .i64 (m + l)) w') : CallK Try.prog 28 [.slice X n c, .int .i64 m] k w := by
  subst hn
  refine enter28 ?_
  unfold S28
  refine ⟨fun f w' => ∃ i : Nat, i ≤ n ∧ f 5 = .int .i64 i ∧ f 1 = .int .i64 (m + i) ∧ Gr w w', fun f _ => n - (intOf (f 5)).toNat, ⟨0, Nat.zero_le _, rfl, by simp; rfl, Gr.refl w⟩, ?_⟩
  rintro f w2 hag ⟨i, hi, h5, hf1, g2⟩
  have f0 : f 0 = .slice X n c := hag 0 (by decide)
  simp only [f0, hf1, h5, go_sem, Nat.reduceEqDiff]
  by_cases hlt : i < n
  · have hlt' : (i : Int) < n := by omega
    simp only [hlt', decide_true, go_sem, Nat.reduceEqDiff]
    have hm := (hx.gr g2).cell i (by rw [marks_length]; exact hlt)
    rw [marks_at hlt] at hm
    rw [ixn22 (fun h => hx.ptr (by rw [marks_length]; exact h)) hlt, ld3 hm]
    simp only [decide_true, Bool.not_true, go_sem, Nat.reduceEqDiff]
    rw [i64_of (by omega) (by omega), i64_of (by omega) (by omega)]
    refine ⟨⟨i + 1, hlt, rfl, by rw [Int.natCast_succ, Int.add_assoc], g2⟩, ?_⟩
    simp only [intOf]
    omega
  · have hi' : i = n := by omega
    subst hi'
    simp only [Int.lt_irrefl, decide_false, go_sem, Nat.reduceEqDiff]
    exact hk w2 g2
end Go.Proofs.Ytiohaeckagjebaa
