/- Contract: what comes again and again, by the program. -/
import Derived.Test.YtiohaeckagjebaaShH5
set_option linter.unusedVariables false
set_option linter.unusedSimpArgs false
set_option maxRecDepth 100000
namespace Go.Proofs.Ytiohaeckagjebaa
open Go Go.Sh Go.RowKit

theorem implStarOf_c {F : Nat → Prop} {w : World} {v : Value} {gm : Gram} (hv : GramV F w v gm) {k : Value → World → Prop}
    (hk : ∀ v w', Gr w w' → GramR w' w.heap.size v (starV gm) → k (.tuple #[v, .bool (starV gm).isSome]) w') :
    CallK Try.prog 35 [v] k w := by
  obtain ⟨Y, c, rfl, hc, hy⟩ := hv
  refine enter35 ?_
  unfold S35
  refine do_box fun b1 w1 g1 hb1 h1 => ?_
  refine do_alloc_of inf37 fun b3 w2 g2 hb3 h3 => ?_
  have n3 := h1.ne hb3
  have h1 := h1.gr g2
  have q3 := Nat.le_trans g1.size hb3
  rw [ldB_agg agg37 sz37 rfl h1]
  have g := gr_trans g1 g2
  refine isGrammar_c (gm := gm) ⟨Y, c, rfl, hc, hy.gr g⟩ fun w4 g4 => ?_
  have g := gr_trans g g4
  have h1 := h1.gr g4
  have h3 := h3.gr g4
  cases hg : goodG gm
  · simp only [Bool.not_false, go_sem, Nat.reduceEqDiff]
    rw [bd37 (cells := #[.int .i64 0, .int .i64 0, .slice none 0 0]) rfl]
    refine do_store sz37 rfl (by intro u hu; simp [Value.cells] at hu; rcases hu with rfl | rfl | rfl <;> rfl) h3 (by simp [Value.cells]) fun w5 g5 s5 h5 => ?_
    rw [rd_loadVar, ldB_agg agg37 sz37 rfl h5]
    have := hk zeroGram w5 (gr_put g g5 q3)
    simp only [starV, hg] at this
    exact this rfl
  simp only [Bool.not_true, go_sem, Nat.reduceEqDiff]
  refine bs22 [] (by decide) (by simp [Instr.fill, madeCells]) rfl fun b5 w5 hb5 hb5' g5 hbox5 hrow5 => ?_
  refine bs22 [.int .i64 1, .int .i64 0] (by decide) (by simp [Instr.fill, madeCells, Value.cells, rng2]) rfl fun b6 w6 hb6 hb6' g6 hbox6 hrow6 => ?_
  refine bs48 [.slice (some ⟨b5, 0, none⟩) 0 0, .slice (some ⟨b6, 0, none⟩) 2 2] (by decide) (by simp [Instr.fill, madeCells, Value.cells, rng2]) rfl fun b7 w7 hb7 hb7' g7 hbox7 hrow7 => ?_
  have h1 := h1.gr (gr_trans g5 (gr_trans g6 g7))
  rw [ldB_agg agg37 sz37 rfl h1]
  refine bs154 [.int .i64 gm.nons, .int .i64 gm.toks, .slice Y gm.rules.length c] (by decide) (by simp [Instr.fill, madeCells, Value.cells, rng3]) rfl fun b8 w8 hb8 hb8' g8 hbox8 hrow8 => ?_
  have g58 := gr_trans g5 (gr_trans g6 (gr_trans g7 g8))
  have g0 := gr_trans g g58
  have i5 : Ints w8 (some ⟨b5, 0, none⟩) [] := (Own.ints (show Own 3 w5 w4.heap.size (some ⟨b5, 0, none⟩) 0 [] from hrow5 _ (Nat.le_refl _))).gr (gr_trans g6 (gr_trans g7 g8))
  have i6 : Ints w8 (some ⟨b6, 0, none⟩) [1, 0] := (Own.ints (show Own 3 w6 w5.heap.size (some ⟨b6, 0, none⟩) 2 [1, 0] from hrow6 _ (Nat.le_refl _))).gr (gr_trans g7 g8)
  have hrs : Intss w8 (some ⟨b7, 0, none⟩) [[], [1, 0]] := by
    refine ⟨by simp, fun _ => rfl, fun j hj => ?_⟩
    match j, hj with
    | 0, _ => exact ⟨_, 0, (hbox7.gr g8).cell 0, Nat.le_refl _, i5⟩
    | 1, _ => exact ⟨_, 2, (hbox7.gr g8).cell 1, Nat.le_refl _, i6⟩
  have hgs : GramsF (fun _ => True) w8 (some ⟨b8, 0, none⟩) [gm] := by
    refine ⟨by simp, fun _ => rfl, fun _ => trivial, fun j hj => ?_⟩
    obtain rfl : j = 0 := by simpa using hj
    exact ⟨Y, c, hbox8.cell 0, hbox8.cell 1, hbox8.cell 2, hc, (hy.gr g0).mono fun _ _ => trivial⟩
  refine beside_c (rl := [[], [1, 0]]) (gs := [gm]) hrs (by simp) (fun j hj => by
    match j, hj with
    | 0, _ => simp [rgt]
    | 1, _ => simp [rgt]) hgs (by simp) (by simp) (fun j hj => by
    obtain rfl : j = 0 := by simpa using hj
    exact hg) fun v w9 g9 hres => ?_
  have he : madeV (firsts [[], [1, 0]]) (nextN [gm] [gm].length) (gmn [gm] 0).toks [gm] = starV gm := by
    unfold starV
    rw [if_pos hg]
    rfl
  rw [he] at hres ⊢
  have h38 := h3.gr (gr_trans g58 g9)
  obtain ⟨x, y, z, rfl, hx1, hy1, hz1⟩ := hres.three
  simp only [go_sem, Nat.reduceEqDiff]
  refine do_store sz37 rfl (by intro u hu; simp [Value.cells] at hu; rcases hu with rfl | rfl | rfl <;> assumption) h38 (by simp [Value.cells]) fun w10 g10 s10 h10 => ?_
  rw [rd_loadVar, ldB_agg agg37 sz37 rfl h10]
  refine hk _ w10 (gr_put (gr_trans g0 g9) g10 q3) ?_
  have := hres.put h38 (by decide) (by decide) g10
  cases hs : starV gm with
  | none => rw [hs] at this; exact this
  | some m =>
    rw [hs] at this
    exact GramO.mono this g0.size
end Go.Proofs.Ytiohaeckagjebaa
