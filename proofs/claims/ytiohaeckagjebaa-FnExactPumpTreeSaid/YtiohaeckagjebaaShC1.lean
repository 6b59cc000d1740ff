/- Contracts of what PumpWord reaches. -/
import Derived.Test.YtiohaeckagjebaaShC0
set_option linter.unusedVariables false
set_option linter.unusedSimpArgs false
set_option maxRecDepth 100000
namespace Go.Sh
open Go
def seg (xs : List Int) (a b : Int) : List Int := (xs.drop a.toNat).take (b.toNat - a.toNat)
def rep (m : Nat) (l : List Int) : List Int := (List.replicate m l).flatten
theorem rep_succ (m : Nat) (l : List Int) : rep (m + 1) l = rep m l ++ l := by
  unfold rep
  rw [List.replicate_succ', List.flatten_append]
  simp
theorem rep_length (m : Nat) (l : List Int) : (rep m l).length = m * l.length := by
  induction m with
  | zero => simp [rep]
  | succ m ih => rw [rep_succ, List.length_append, ih, Nat.succ_mul]
structure Cuts (cs : List Int) (n : Nat) : Prop where
  len : cs.length = 4
  lo : 0 ≤ cs.getD 0 0
  h01 : cs.getD 0 0 ≤ cs.getD 1 0
  h12 : cs.getD 1 0 ≤ cs.getD 2 0
  h23 : cs.getD 2 0 ≤ cs.getD 3 0
  hi : cs.getD 3 0 ≤ n
instance (cs : List Int) (n : Nat) : Decidable (Cuts cs n) :=
  decidable_of_iff (cs.length = 4 ∧ 0 ≤ cs.getD 0 0 ∧ cs.getD 0 0 ≤ cs.getD 1 0 ∧ cs.getD 1 0 ≤ cs.getD 2 0 ∧ cs.getD 2 0 ≤ cs.getD 3 0 ∧ cs.getD 3 0 ≤ n)
    ⟨fun ⟨a, b, c, d, e, f⟩ => ⟨a, b, c, d, e, f⟩, fun h => ⟨h.len, h.lo, h.h01, h.h12, h.h23, h.hi⟩⟩
def pumpL (xs cs : List Int) (m : Nat) : List Int :=
  seg xs 0 (cs.getD 0 0) ++ rep m (seg xs (cs.getD 0 0) (cs.getD 1 0)) ++ seg xs (cs.getD 1 0) (cs.getD 2 0) ++ rep m (seg xs (cs.getD 2 0) (cs.getD 3 0)) ++ seg xs (cs.getD 3 0) xs.length
theorem seg_length (xs : List Int) (a b : Int) : (seg xs a b).length ≤ xs.length := by
  unfold seg
  simp
  omega
theorem pumpL_length (xs cs : List Int) (m : Nat) : (pumpL xs cs m).length ≤ 3 * xs.length + 2 * (m * xs.length) := by
  unfold pumpL
  simp only [List.length_append, rep_length]
  have h1 := seg_length xs 0 (cs.getD 0 0)
  have h2 := Nat.mul_le_mul_left m (seg_length xs (cs.getD 0 0) (cs.getD 1 0))
  have h3 := seg_length xs (cs.getD 1 0) (cs.getD 2 0)
  have h4 := Nat.mul_le_mul_left m (seg_length xs (cs.getD 2 0) (cs.getD 3 0))
  have h5 := seg_length xs (cs.getD 3 0) xs.length
  omega
end Go.Sh
namespace Go.Proofs.Ytiohaeckagjebaa
open Go Go.Sh Go.RowKit

theorem l1Own_c {w : World} {X : Option Addr} {c n : Nat} {xs : List Int} (hx : Ints w X xs) (hn : n = xs.length) (hb : xs.length * 8 ≤ 140737488355328) {k : Value → World → Prop}
    (hk : ∀ X' c' w', Gr w w' → Own 3 w' w.heap.size X' c' xs → k (.slice X' xs.length c') w') : CallK Try.prog 116 [.slice X n c] k w := by
  subst hn
  refine enter116 ?_
  unfold S116
  refine bs22 [] (by decide) (by simp [Instr.fill, madeCells]) rfl fun b w1 hb1 hb2 hg hbox hrow => ?_
  refine ap22 (hrow _ (Nat.le_refl _)) (hx.gr hg).src (by rw [ints_length, Nat.mul_one]) (ints_one xs) (by omega) hg.size fun X' c' w2 hr hg2 => ?_
  rw [Nat.zero_add] at hr ⊢
  exact hk X' c' w2 (gr_mod hg hg2 fun q hq => by simp [blk] at hq; omega) hr

/-- append to a row of ints. -/
theorem apI {u : TypeId} {cs : List Bool} {w : World} {k : Value → World → Prop} {B c d n m : Nat} {X Y : Option Addr} {xs ys : List Int} (hO : Own 3 w B X c xs) (hY : Ints w Y ys) (hn : n = xs.length) (hm : m = ys.length) (hb : (xs.length + ys.length) * 8 ≤ 140737488355328) (hB : B ≤ w.heap.size)
    (h : ∀ X' c' w', Own 3 w' B X' c' (xs ++ ys) → w.grownBy w' (blk X) → k (.slice X' (xs ++ ys).length c') w') : Do Try.prog (sBuiltin .append #[22, 22] u cs [.slice X n c, .slice Y m d]) k w := by
  subst hn
  subst hm
  refine ap22 hO hY.src (by rw [ints_length, Nat.mul_one]) (ints_one ys) hb hB fun X' c' w' hr hg => ?_
  rw [← ints_append, ← List.length_append] at hr
  rw [← List.length_append]
  exact h X' c' w' hr hg

theorem Ints_seg {w : World} {X : Option Addr} {xs : List Int} {c : Nat} (h : Ints w X xs) (hc : xs.length ≤ c) {a b : Int} (h0 : 0 ≤ a) (h1 : a ≤ b) (h2 : b ≤ xs.length) : Ints w (sub X a.toNat c 1) (seg xs a b) ∧ (seg xs a b).length = b.toNat - a.toNat := by
  refine ⟨h.sub (by omega) hc _, ?_⟩
  unfold seg
  simp
  omega

theorem l18Word_c {w : World} {X Y : Option Addr} {c d : Nat} {xs cs : List Int} {m : Nat} (hx : Ints w X xs) (hc : xs.length ≤ c) (hy : Ints w Y cs) (hcs : Cuts cs xs.length) (hl : xs.length ≤ 100) (hm : m ≤ 4) {k : Value → World → Prop}
    (hk : ∀ X' c' w', Gr w w' → Own 3 w' w.heap.size X' c' (pumpL xs cs m) → k (.slice X' (pumpL xs cs m).length c') w') : CallK Try.prog 78 [.slice X xs.length c, .slice Y cs.length d, .int .i64 m] k w := by
  obtain ⟨h4, c0, c1, c2, c3, c4⟩ := hcs
  refine enter78 ?_
  unfold S78
  rw [ix22_0 hy.ptr (by omega), ld3 (hy.cell 0 (by omega)), slh22 c0 (by omega)]
  obtain ⟨p0, l0⟩ := Ints_seg hx hc (Int.le_refl 0) c0 (by omega)
  refine l1Own_c p0 (by rw [l0]; simp) (by rw [l0]; omega) fun X1 d1 w1 g1 o1 => ?_
  have hb1 : (seg xs 0 (cs.getD 0 0)).length ≤ 100 := by omega
  obtain ⟨p1, l1⟩ := Ints_seg hx hc c0 c1 (by omega)
  obtain ⟨p2, l2⟩ := Ints_seg hx hc (by omega) c2 (by omega)
  obtain ⟨p3, l3⟩ := Ints_seg hx hc (by omega) c3 (by omega)
  obtain ⟨p4, l4⟩ := Ints_seg hx hc (a := cs.getD 3 0) (b := xs.length) (by omega) c4 (Int.le_refl _)
  refine ⟨fun f w' => ∃ (i : Nat) (X' : Option Addr) (c' : Nat), i ≤ m ∧ f 8 = .int .i64 i ∧ f 7 = .slice X' (seg xs 0 (cs.getD 0 0) ++ rep i (seg xs (cs.getD 0 0) (cs.getD 1 0))).length c' ∧ Gr w w' ∧ Own 3 w' w.heap.size X' c' (seg xs 0 (cs.getD 0 0) ++ rep i (seg xs (cs.getD 0 0) (cs.getD 1 0))), fun f _ => m - (intOf (f 8)).toNat,
    ⟨0, X1, d1, Nat.zero_le _, rfl, by simp [rep]; rfl, g1, by simpa [rep] using o1⟩, ?_⟩
  rintro f w2 hag ⟨i, X2, d2, him, h8, h7, g2, o2⟩
  have f0 : f 0 = .slice X xs.length c := hag 0 (by decide)
  have f1 : f 1 = .slice Y cs.length d := hag 1 (by decide)
  have f2 : f 2 = .int .i64 m := hag 2 (by decide)
  simp only [f0, f1, f2, h7, h8, go_sem, Nat.reduceEqDiff]
  by_cases hlt : i < m
  · have hlt' : (i : Int) < m := by omega
    have gd := gr_trans g2 (gr_drew w2)
    simp only [hlt', decide_true, go_sem, Nat.reduceEqDiff]
    rw [ix22_0 hy.ptr (by omega), ld3 ((hy.gr gd).cell 0 (by omega)), ix22_1 hy.ptr (by omega), ld3 ((hy.gr gd).cell 1 (by omega)), sl22 c0 c1 (by omega)]
    have hlen : (seg xs 0 (cs.getD 0 0) ++ rep i (seg xs (cs.getD 0 0) (cs.getD 1 0))).length ≤ 100 + 4 * 100 := by
      rw [List.length_append, rep_length]
      have := Nat.mul_le_mul (show i ≤ 4 by omega) (show (seg xs (cs.getD 0 0) (cs.getD 1 0)).length ≤ 100 by omega)
      omega
    refine apI (o2.gr (gr_drew w2)) (p1.gr gd) rfl (by rw [l1]) (by omega) gd.size fun X3 d3 w3 o3 g3 => ?_
    rw [i64_of (by omega) (by omega)]
    have g3' := gr_mod gd g3 fun q hq => (Row.ge o2 hq).1
    rw [List.append_assoc, ← rep_succ] at o3
    refine ⟨⟨i + 1, X3, d3, hlt, rfl, by rw [List.append_assoc, ← rep_succ], g3', o3⟩, ?_⟩
    simp only [intOf]
    omega
  · have him' : i = m := by omega
    subst him'
    simp only [show ¬ (i : Int) < i from by omega, decide_false, go_sem, Nat.reduceEqDiff]
    have gd := gr_trans g2 (gr_drew w2)
    rw [ix22_1 hy.ptr (by omega), ld3 ((hy.gr gd).cell 1 (by omega)), ix22_2 hy.ptr (by omega), ld3 ((hy.gr gd).cell 2 (by omega)), sl22 (by omega) c2 (by omega)]
    have hlen : (seg xs 0 (cs.getD 0 0) ++ rep i (seg xs (cs.getD 0 0) (cs.getD 1 0))).length ≤ 100 + 4 * 100 := by
      rw [List.length_append, rep_length]
      have := Nat.mul_le_mul (show i ≤ 4 by omega) (show (seg xs (cs.getD 0 0) (cs.getD 1 0)).length ≤ 100 by omega)
      omega
    refine apI (o2.gr (gr_drew w2)) (p2.gr gd) rfl (by rw [l2]) (by omega) gd.size fun X3 d3 w3 o3 g3 => ?_
    have g3' := gr_mod gd g3 fun q hq => (Row.ge o2 hq).1
    have hlen3 : (seg xs 0 (cs.getD 0 0) ++ rep i (seg xs (cs.getD 0 0) (cs.getD 1 0)) ++ seg xs (cs.getD 1 0) (cs.getD 2 0)).length ≤ 600 := by
      rw [List.length_append]
      omega
    refine ⟨fun f w' => ∃ (j : Nat) (X' : Option Addr) (c' : Nat), j ≤ i ∧ f 9 = .int .i64 j ∧ f 7 = .slice X' (seg xs 0 (cs.getD 0 0) ++ rep i (seg xs (cs.getD 0 0) (cs.getD 1 0)) ++ seg xs (cs.getD 1 0) (cs.getD 2 0) ++ rep j (seg xs (cs.getD 2 0) (cs.getD 3 0))).length c' ∧ Gr w w' ∧ Own 3 w' w.heap.size X' c' (seg xs 0 (cs.getD 0 0) ++ rep i (seg xs (cs.getD 0 0) (cs.getD 1 0)) ++ seg xs (cs.getD 1 0) (cs.getD 2 0) ++ rep j (seg xs (cs.getD 2 0) (cs.getD 3 0))), fun f _ => i - (intOf (f 9)).toNat,
      ⟨0, X3, d3, Nat.zero_le _, rfl, by simp [rep]; rfl, g3', by simpa [rep] using o3⟩, ?_⟩
    rintro f' w4 hag' ⟨j, X4, d4, hji, h9, h7', g4, o4⟩
    have f0' : f' 0 = .slice X xs.length c := (hag' 0 (by decide)).trans f0
    have f1' : f' 1 = .slice Y cs.length d := (hag' 1 (by decide)).trans f1
    have f2' : f' 2 = .int .i64 i := (hag' 2 (by decide)).trans f2
    simp only [f0', f1', f2', h7', h9, go_sem, Nat.reduceEqDiff]
    have hlen4 : (seg xs 0 (cs.getD 0 0) ++ rep i (seg xs (cs.getD 0 0) (cs.getD 1 0)) ++ seg xs (cs.getD 1 0) (cs.getD 2 0) ++ rep j (seg xs (cs.getD 2 0) (cs.getD 3 0))).length ≤ 600 + 4 * 100 := by
      rw [List.length_append, rep_length j]
      have := Nat.mul_le_mul (show j ≤ 4 by omega) (show (seg xs (cs.getD 2 0) (cs.getD 3 0)).length ≤ 100 by omega)
      omega
    by_cases hlt2 : j < i
    · have hlt' : (j : Int) < i := by omega
      have gd4 := gr_trans g4 (gr_drew w4)
      simp only [hlt', decide_true, go_sem, Nat.reduceEqDiff]
      rw [ix22_2 hy.ptr (by omega), ld3 ((hy.gr gd4).cell 2 (by omega)), ix22_3 hy.ptr (by omega), ld3 ((hy.gr gd4).cell 3 (by omega)), sl22 (by omega) c3 (by omega)]
      refine apI (o4.gr (gr_drew w4)) (p3.gr gd4) rfl (by rw [l3]) (by omega) gd4.size fun X5 d5 w5 o5 g5 => ?_
      rw [i64_of (by omega) (by omega)]
      have g5' := gr_mod gd4 g5 fun q hq => (Row.ge o4 hq).1
      rw [List.append_assoc, ← rep_succ] at o5
      refine ⟨⟨j + 1, X5, d5, hlt2, rfl, by rw [List.append_assoc, ← rep_succ], g5', o5⟩, ?_⟩
      simp only [intOf]
      omega
    · have hji' : j = i := by omega
      subst hji'
      simp only [show ¬ (j : Int) < j from by omega, decide_false, go_sem, Nat.reduceEqDiff]
      rw [ix22_3 hy.ptr (by omega), ld3 ((hy.gr g4).cell 3 (by omega)), sll22 (by omega) c4]
      refine apI o4 (p4.gr g4) rfl (by rw [l4]; simp) (by omega) g4.size fun X5 d5 w5 o5 g5 => ?_
      exact hk X5 d5 w5 (gr_mod g4 g5 fun q hq => (Row.ge o4 hq).1) o5
end Go.Proofs.Ytiohaeckagjebaa
