/- Contracts: how long a word must be, by the reference and by the program. -/
import Derived.Test.YtiohaeckagjebaaShG6
set_option linter.unusedVariables false
set_option linter.unusedSimpArgs false
set_option maxRecDepth 100000
namespace Go.Sh
open Go
def mostN (rs : List RuleL) : Nat → Int
  | 0 => 2
  | i + 1 => if mostN rs i < (rul rs i).2.length then (rul rs i).2.length else mostN rs i
def powN (m : Int) : Nat → Int
  | 0 => 1
  | j + 1 => IntKind.i64.wrap (powN m j * m)
def longV (g : Gram) : Value :=
  if goodG g = true then
    if 1000 < IntKind.i64.wrap (powN (mostN g.rules g.rules.length) g.nons.toNat + 1) then .tuple #[.int .i64 0, .bool false]
    else .tuple #[.int .i64 (IntKind.i64.wrap (powN (mostN g.rules g.rules.length) g.nons.toNat + 1)), .bool true]
  else .tuple #[.int .i64 0, .bool false]
end Go.Sh
namespace Go.Proofs.Ytiohaeckagjebaa
open Go Go.Sh Go.RowKit

theorem l1Most_c {x y : Int} {w : World} {k : Value → World → Prop} (hk : k (.int .i64 (if x < y then y else x)) w) : CallK Try.prog 82 [.int .i64 x, .int .i64 y] k w := by
  refine enter82 ?_
  unfold S82
  simp only [go_sem, Nat.reduceEqDiff]
  by_cases h : y < x
  · simp only [h, decide_true, go_sem, Nat.reduceEqDiff]
    rwa [if_neg (by omega)] at hk
  · simp only [h, decide_false, go_sem, Nat.reduceEqDiff]
    by_cases h2 : x < y
    · rwa [if_pos h2] at hk
    · rw [if_neg h2] at hk
      have : x = y := by omega
      rwa [this] at hk
theorem specLongEnough_c {F : Nat → Prop} {w : World} {v : Value} {gm : Gram} (hv : GramV F w v gm) {k : Value → World → Prop} (hk : ∀ w', Gr w w' → k (longV gm) w') :
    CallK Try.prog 30 [v] k w := by
  have hv0 := hv
  obtain ⟨Y, c, rfl, hc, hy⟩ := hv
  refine enter30 ?_
  unfold S30
  refine do_box fun b w1 g1 hb1 hB => ?_
  rw [ldB_agg agg37 sz37 rfl hB]
  refine goodGrammar_c (gm := gm) ⟨Y, c, rfl, hc, hy.gr g1⟩ fun w2 g2 => ?_
  have g := gr_trans g1 g2
  cases hg : goodG gm
  · simp only [Bool.not_false, go_sem, Nat.reduceEqDiff]
    have := hk _ g
    rwa [show longV gm = .tuple #[.int .i64 0, .bool false] from by simp only [longV, hg]; rfl] at this
  simp only [Bool.not_true, go_sem, Nat.reduceEqDiff]
  have hB := hB.gr g2
  rw [ldB35 hB rfl]
  simp only [go_sem, Nat.reduceEqDiff]
  have hle := hy.le
  have hn : 0 ≤ gm.nons ∧ gm.nons ≤ 6 := by
    have h : inB gm.nons 1 6 = true := by
      simp only [goodG, Bool.and_eq_true] at hg
      exact hg.1.1.1
    have : 1 ≤ gm.nons ∧ gm.nons ≤ 6 := by simpa [inB] using h
    omega
  refine ⟨fun f w' => ∃ i : Nat, i ≤ gm.rules.length ∧ f 15 = .int .i64 i ∧ f 4 = .int .i64 (mostN gm.rules i) ∧ Gr w2 w', fun f _ => gm.rules.length - (intOf (f 15)).toNat, ⟨0, Nat.zero_le _, rfl, rfl, Gr.refl w2⟩, ?_⟩
  rintro f w3 hag ⟨i, hi, hsi, h4, g3⟩
  have f1 : f 1 = .pointer (some ⟨b, 0, none⟩) := hag 1 (by decide)
  have fs : f 13 = .slice Y gm.rules.length c := hag 13 (by decide)
  have fl : f 14 = .int .i64 gm.rules.length := hag 14 (by decide)
  simp only [f1, fs, fl, hsi, h4, go_sem, Nat.reduceEqDiff]
  have g' := gr_trans g g3
  by_cases hlt : i < gm.rules.length
  · have hlt' : (i : Int) < gm.rules.length := by omega
    simp only [hlt', decide_true, go_sem, Nat.reduceEqDiff]
    rw [ixn35 hy.ptr hlt]
    refine ld_rule agg77 sz77 (hy.gr g') hlt fun v hv => ?_
    obtain ⟨Z, d, rfl, hd, hz⟩ := hv
    refine do_alloc_of inf77 fun b3 w4 g4 hb3 h3 => ?_
    refine do_store sz77 rfl (by intro u hu; simp [Value.cells] at hu; rcases hu with rfl | rfl <;> rfl) h3 (by simp [Value.cells]) fun w5 g5 s5 h5 => ?_
    simp only [go_sem, Nat.reduceEqDiff]
    rw [ldB22 h5 rfl]
    simp only [go_sem, Nat.reduceEqDiff]
    refine l1Most_c ?_
    rw [i64_of (by omega) (by omega)]
    refine ⟨⟨i + 1, hlt, rfl, rfl, gr_put (gr_trans g3 g4) g5 (Nat.le_trans g3.size hb3)⟩, ?_⟩
    simp only [intOf]
    omega
  simp only [show ¬ (i : Int) < gm.rules.length from by omega, decide_false, go_sem, Nat.reduceEqDiff]
  obtain rfl : i = gm.rules.length := by omega
  obtain ⟨n, hnn⟩ := Int.eq_ofNat_of_zero_le hn.1
  refine ⟨fun f w' => ∃ j : Nat, j ≤ n ∧ f 8 = .int .i64 j ∧ f 7 = .int .i64 (powN (mostN gm.rules gm.rules.length) j) ∧ Gr w3 w', fun f _ => n - (intOf (f 8)).toNat, ⟨0, Nat.zero_le _, rfl, rfl, Gr.refl w3⟩, ?_⟩
  rintro f2 w4 hag2 ⟨j, hj, h8, h7, g4⟩
  have e1 : f2 1 = .pointer (some ⟨b, 0, none⟩) := (hag2 1 (by decide)).trans f1
  have e4 : f2 4 = .int .i64 (mostN gm.rules gm.rules.length) := (hag2 4 (by decide)).trans h4
  simp only [e1, e4, h7, h8, go_sem, Nat.reduceEqDiff]
  rw [ldB3 (hB.gr (gr_trans g3 g4)) rfl]
  simp only [go_sem, Nat.reduceEqDiff]
  rw [hnn]
  by_cases hlt : j < n
  · have hlt' : (j : Int) < ((n : Nat) : Int) := by omega
    simp only [hlt', decide_true, go_sem, Nat.reduceEqDiff]
    rw [i64_of (n := (j : Int) + 1) (by omega) (by omega)]
    refine ⟨⟨j + 1, hlt, rfl, rfl, g4⟩, ?_⟩
    simp only [intOf]
    omega
  simp only [show ¬ (j : Int) < ((n : Nat) : Int) from by omega, decide_false, go_sem, Nat.reduceEqDiff]
  obtain rfl : j = n := by omega
  have := hk _ (gr_trans g' g4)
  by_cases h9 : 1000 < IntKind.i64.wrap (powN (mostN gm.rules gm.rules.length) j + 1)
  · simp only [h9, decide_true, go_sem, Nat.reduceEqDiff]
    rwa [show longV gm = .tuple #[.int .i64 0, .bool false] from by simp only [longV, hg, hnn, Int.toNat_natCast, h9, if_true]] at this
  · simp only [h9, decide_false, go_sem, Nat.reduceEqDiff]
    rwa [show longV gm = .tuple #[.int .i64 (IntKind.i64.wrap (powN (mostN gm.rules gm.rules.length) j + 1)), .bool true] from by simp only [longV, hg, hnn, Int.toNat_natCast, h9, if_true, if_false]] at this
theorem implLongEnough_c {F : Nat → Prop} {w : World} {v : Value} {gm : Gram} (hv : GramV F w v gm) {k : Value → World → Prop} (hk : ∀ w', Gr w w' → k (longV gm) w') :
    CallK Try.prog 32 [v] k w := by
  have hv0 := hv
  obtain ⟨Y, c, rfl, hc, hy⟩ := hv
  refine enter32 ?_
  unfold S32
  refine do_box fun b w1 g1 hb1 hB => ?_
  rw [ldB_agg agg37 sz37 rfl hB]
  refine isGrammar_c (gm := gm) ⟨Y, c, rfl, hc, hy.gr g1⟩ fun w2 g2 => ?_
  have g := gr_trans g1 g2
  cases hg : goodG gm
  · simp only [Bool.not_false, go_sem, Nat.reduceEqDiff]
    have := hk _ g
    rwa [show longV gm = .tuple #[.int .i64 0, .bool false] from by simp only [longV, hg]; rfl] at this
  simp only [Bool.not_true, go_sem, Nat.reduceEqDiff]
  have hB := hB.gr g2
  rw [ldB35 hB rfl]
  simp only [go_sem, Nat.reduceEqDiff]
  have hle := hy.le
  have hn : 0 ≤ gm.nons ∧ gm.nons ≤ 6 := by
    have h : inB gm.nons 1 6 = true := by
      simp only [goodG, Bool.and_eq_true] at hg
      exact hg.1.1.1
    have : 1 ≤ gm.nons ∧ gm.nons ≤ 6 := by simpa [inB] using h
    omega
  refine ⟨fun f w' => ∃ i : Nat, i ≤ gm.rules.length ∧ f 14 = .int .i64 i ∧ f 4 = .int .i64 (mostN gm.rules i) ∧ Gr w2 w', fun f _ => gm.rules.length - (intOf (f 14)).toNat, ⟨0, Nat.zero_le _, rfl, rfl, Gr.refl w2⟩, ?_⟩
  rintro f w3 hag ⟨i, hi, hsi, h4, g3⟩
  have f1 : f 1 = .pointer (some ⟨b, 0, none⟩) := hag 1 (by decide)
  have fs : f 12 = .slice Y gm.rules.length c := hag 12 (by decide)
  have fl : f 13 = .int .i64 gm.rules.length := hag 13 (by decide)
  simp only [f1, fs, fl, hsi, h4, go_sem, Nat.reduceEqDiff]
  have g' := gr_trans g g3
  by_cases hlt : i < gm.rules.length
  · have hlt' : (i : Int) < gm.rules.length := by omega
    simp only [hlt', decide_true, go_sem, Nat.reduceEqDiff]
    rw [ixn35 hy.ptr hlt]
    refine ld_rule agg77 sz77 (hy.gr g') hlt fun v hv => ?_
    obtain ⟨Z, d, rfl, hd, hz⟩ := hv
    refine do_alloc_of inf77 fun b3 w4 g4 hb3 h3 => ?_
    refine do_store sz77 rfl (by intro u hu; simp [Value.cells] at hu; rcases hu with rfl | rfl <;> rfl) h3 (by simp [Value.cells]) fun w5 g5 s5 h5 => ?_
    simp only [go_sem, Nat.reduceEqDiff]
    rw [ldB22 h5 rfl]
    simp only [go_sem, Nat.reduceEqDiff]
    rw [max_int]
    rw [i64_of (by omega) (by omega)]
    refine ⟨⟨i + 1, hlt, rfl, rfl, gr_put (gr_trans g3 g4) g5 (Nat.le_trans g3.size hb3)⟩, ?_⟩
    simp only [intOf]
    omega
  simp only [show ¬ (i : Int) < gm.rules.length from by omega, decide_false, go_sem, Nat.reduceEqDiff]
  obtain rfl : i = gm.rules.length := by omega
  rw [ldB3 (hB.gr g3) rfl]
  obtain ⟨n, hnn⟩ := Int.eq_ofNat_of_zero_le hn.1
  rw [hnn]
  refine ⟨fun f w' => ∃ j : Nat, j ≤ n ∧ f 26 = .int .i64 j ∧ f 7 = .int .i64 (powN (mostN gm.rules gm.rules.length) j) ∧ Gr w3 w', fun f _ => n - (intOf (f 26)).toNat, ⟨0, Nat.zero_le _, rfl, rfl, Gr.refl w3⟩, ?_⟩
  rintro f2 w4 hag2 ⟨j, hj, h8, h7, g4⟩
  have e4 : f2 4 = .int .i64 (mostN gm.rules gm.rules.length) := (hag2 4 (by decide)).trans h4
  have e25 : f2 25 = .int .i64 ((n : Nat) : Int) := hag2 25 (by decide)
  simp only [e4, e25, h7, h8, go_sem, Nat.reduceEqDiff]
  by_cases hlt : j < n
  · have hlt' : (j : Int) < ((n : Nat) : Int) := by omega
    simp only [hlt', decide_true, go_sem, Nat.reduceEqDiff]
    rw [i64_of (n := (j : Int) + 1) (by omega) (by omega)]
    refine ⟨⟨j + 1, hlt, rfl, rfl, g4⟩, ?_⟩
    simp only [intOf]
    omega
  simp only [show ¬ (j : Int) < ((n : Nat) : Int) from by omega, decide_false, go_sem, Nat.reduceEqDiff]
  obtain rfl : j = n := by omega
  have := hk _ (gr_trans g' g4)
  by_cases h9 : 1000 < IntKind.i64.wrap (powN (mostN gm.rules gm.rules.length) j + 1)
  · simp only [h9, decide_true, go_sem, Nat.reduceEqDiff]
    rwa [show longV gm = .tuple #[.int .i64 0, .bool false] from by simp only [longV, hg, hnn, Int.toNat_natCast, h9, if_true]] at this
  · simp only [h9, decide_false, go_sem, Nat.reduceEqDiff]
    rwa [show longV gm = .tuple #[.int .i64 (IntKind.i64.wrap (powN (mostN gm.rules gm.rules.length) j + 1)), .bool true] from by simp only [longV, hg, hnn, Int.toNat_natCast, h9, if_true, if_false]] at this
end Go.Proofs.Ytiohaeckagjebaa
