/- Contract: the first two parts that can be pumped, by the program. -/
import Derived.Test.YtiohaeckagjebaaShQ6
set_option linter.unusedVariables false
set_option linter.unusedSimpArgs false
set_option maxRecDepth 100000
namespace Go.Proofs.Ytiohaeckagjebaa
open Go Go.Sh Go.RowKit

theorem pump_c {gm : Gram} {tree : List Int} {p : PT} {ws : List Int} (hW : Whole gm tree p ws) {F : Nat → Prop} {w : World} {b : Nat} (hF : ∀ q, F q → q < w.heap.size) (hp : PartAt F w p b) {k : Value → World → Prop}
    (hk0 : pumpV p.parts = none → ∀ w', Gr w w' → k (.tuple #[.pointer none, .pointer none]) w')
    (hk1 : ∀ i j, pumpV p.parts = some (i, j) → ∀ w' b1 b2, Gr w w' → PartAt F w' (ptn p.parts i) b1 → PartAt F w' (ptn p.parts j) b2 → k (.tuple #[ptrv b1, ptrv b2]) w') :
    CallK Try.prog 94 [ptrv b] k w := by
  have hlen := hW.len
  have h60 := hW.le
  have hlaid := hW.laid
  refine enter94 ?_
  unfold S94
  have H := Apt.nil w
  refine parts_c p.parts.length (Nat.le_refl _) (by omega) hF hp fun w1 U d bs g1 r1 a1 => ?_
  have H := H.addRow g1 r1
  generalize hP : p.parts = P at *
  have hbl := a1.1
  simp only [go_sem, Nat.reduceEqDiff]
  refine loop_to P.length 0 (fun i f w' => i ≤ P.length ∧ f 11 = .int .i64 i ∧ (∀ p', p' < i → Dry P p' (ptn P p').fin) ∧ Apt w w' [rwi 86 1 U bs.length d (bs.map ptrv)]) ⟨Nat.zero_le _, rfl, fun p' h => absurd h (Nat.not_lt_zero _), H⟩ ?_
  have g1' := g1
  rintro i f w3 N hag ⟨hi, h11, hdry, H⟩ hN
  have f9 : f 9 = .slice U bs.length d := hag 9 (by decide)
  have f10 : f 10 = .int .i64 bs.length := hag 10 (by decide)
  simp only [f9, f10, h11, go_sem, Nat.reduceEqDiff]
  by_cases hlt : i < P.length
  case neg =>
    simp only [show ¬ (i : Int) < bs.length from by omega, decide_false, go_sem, Nat.reduceEqDiff]
    obtain rfl : i = P.length := by omega
    exact hk0 (pumpV_none hdry) _ H.gr
  simp only [show (i : Int) < bs.length from by omega, decide_true, go_sem, Nat.reduceEqDiff]
  obtain ⟨l1, l2, l3, l4⟩ := hlaid i hlt
  rw [← ptn_eq hlt] at l1 l2 l3 l4
  have hpi := (a1.2 i hlt).across hF g1 H.gr
  have G3 := H.gr
  rw [ixn91 (Row.ptr (H.row 0 rfl)) (by omega), ld86 ((H.row 0 rfl).src.cell i _ (ptrs_at (by omega)))]
  have hF3 : ∀ q, F q → q < w3.heap.size := fun q hq => Nat.lt_of_lt_of_le (hF q hq) H.gr.size
  have hni : (ptn P i).parts.length = (ptn P i).fin - i := by
    rw [l4, List.length_take, List.length_drop]
    omega
  refine parts_c (ptn P i).parts.length (Nat.le_refl _) (by omega) hF3 hpi fun w4 V e cs g4 r4 a4 => ?_
  have g34 := gr_trans H.gr g4
  have H := H.addRow g4 r4
  have hcl := a4.1
  rw [sll91 (by decide) (by omega)]
  simp only [go_sem, Nat.reduceEqDiff]
  refine loop_to (cs.length - 1) 0 (fun j f' w' => j ≤ cs.length - 1 ∧ f' 19 = .int .i64 j ∧ Dry P i (i + 1 + j) ∧ Apt w w' [rwi 86 1 U bs.length d (bs.map ptrv), rwi 86 1 V cs.length e (cs.map ptrv)]) ⟨Nat.zero_le _, rfl, fun q' h1 h2 => by omega, H⟩ ?_
  rintro j f' w5 N' hag' ⟨hj1, h19, hd, H⟩ hN'
  have f17 : f' 17 = .slice (sub V (Int.toNat 1) e 1) (cs.length - Int.toNat 1) (e - Int.toNat 1) := hag' 17 (by decide)
  have f18 : f' 18 = .int .i64 ((cs.length - Int.toNat 1 : Nat) : Int) := hag' 18 (by decide)
  have f5 : f' 5 = ptrv (bs.getD i 0) := hag' 5 (by decide)
  have f11 : f' 11 = .int .i64 i := (hag' 11 (by decide)).trans h11
  simp only [f17, f18, f5, f11, h19, go_sem, Nat.reduceEqDiff]
  rw [show (1 : Int).toNat = 1 from rfl] at *
  by_cases hltj : j < cs.length - 1
  case neg =>
    simp only [show ¬ (j : Int) < (cs.length - 1 : Nat) from by omega, decide_false, go_sem, Nat.reduceEqDiff]
    rw [i64_of (by omega) (by omega)]
    refine hN _ _ hlt ⟨hlt, rfl, fun p' hp' => ?_, H.take 1⟩
    by_cases e : p' = i
    · rw [e]
      rw [show (ptn P i).fin = i + 1 + j from by omega]
      exact hd
    · exact hdry p' (by omega)
  simp only [show (j : Int) < (cs.length - 1 : Nat) from by omega, decide_true, go_sem, Nat.reduceEqDiff]
  have hsrc := (Row.src (H.row 1 rfl)).sub (l := 1) (c := e) (sz := 1) (by simp; omega) (by have := (H.row 1 rfl).cap; simp; omega) cs.length
  have hcell : (((cs.map ptrv).drop (1 * 1)).take cs.length)[j]? = some (ptrv (cs.getD (1 + j) 0)) := by
    rw [List.getElem?_take_of_lt (by omega), List.getElem?_drop, Nat.one_mul]
    exact ptrs_at (by omega)
  have hyi := a4.2 (1 + j) (by omega)
  have hq : ptn (ptn P i).parts (1 + j) = ptn P (i + 1 + j) := by
    rw [l4, ptn_drop (by omega)]
    congr 1
    omega
  rw [hq] at hyi
  have Hd := H.drew
  have hx5 : PartAt F w5.drew (ptn P i) (bs.getD i 0) := hpi.across hF G3 Hd.gr
  have hy5 : PartAt F w5.drew (ptn P (i + 1 + j)) (cs.getD (1 + j) 0) := hyi.across hF g34 Hd.gr
  obtain ⟨Xx, cx, bx, _, _, _⟩ := hx5.box
  obtain ⟨Xy, cy, by_, _, _, _⟩ := hy5.box
  have hj9 : i + 1 + j < (ptn P i).fin := by omega
  have found : pairT (ptn P i) (ptn P (i + 1 + j)) = true → k (.tuple #[ptrv (bs.getD i 0), ptrv (cs.getD (1 + j) 0)]) w5.drew := fun hp =>
    hk1 i (i + 1 + j) (pumpV_some hlt (by omega) hj9 hp hd hdry) _ _ _ Hd.gr hx5 hy5
  have next : pairT (ptn P i) (ptn P (i + 1 + j)) = false → Dry P i (i + 1 + (j + 1)) := fun hp => dry_next hd hp
  rw [ixn91 (fun _ => hsrc.ptr (by
    intro e0
    rw [e0] at hcell
    simp at hcell)) hltj, ld86 (hsrc.cell j _ hcell)]
  simp only [go_sem, Nat.reduceEqDiff]
  rw [ldB3 bx rfl, ldB3 by_ rfl]
  simp only [go_sem, Nat.reduceEqDiff]
  by_cases hnon : (ptn P i).non = (ptn P (i + 1 + j)).non
  case neg =>
    simp only [hnon, decide_false, go_sem, Nat.reduceEqDiff]
    rw [i64_of (by omega) (by omega)]
    exact hN' _ _ hltj ⟨hltj, rfl, next (by simp [pairT, hnon]), Hd⟩
  simp only [hnon, decide_true, go_sem, Nat.reduceEqDiff]
  rw [ldB3 bx rfl, ldB3 by_ rfl]
  simp only [Int.natCast_inj, go_sem, Nat.reduceEqDiff]
  by_cases hfr : (ptn P i).fr = (ptn P (i + 1 + j)).fr
  case neg =>
    simp only [hfr, decide_false, Bool.not_false, go_sem, Nat.reduceEqDiff]
    exact found (by simp [pairT, hnon, hfr])
  simp only [hfr, decide_true, Bool.not_true, go_sem, Nat.reduceEqDiff]
  rw [ldB3 bx rfl, ldB3 by_ rfl]
  simp only [Int.natCast_inj, go_sem, Nat.reduceEqDiff]
  by_cases hto : (ptn P i).to = (ptn P (i + 1 + j)).to
  case pos =>
    simp only [hto, decide_true, Bool.not_true, go_sem, Nat.reduceEqDiff]
    rw [i64_of (by omega) (by omega)]
    exact hN' _ _ hltj ⟨hltj, rfl, next (by simp [pairT, hfr, hto]), Hd⟩
  simp only [hto, decide_false, Bool.not_false, go_sem, Nat.reduceEqDiff]
  exact found (by simp [pairT, hnon, hto])
end Go.Proofs.Ytiohaeckagjebaa
