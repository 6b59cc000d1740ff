/- Contracts: joined and united grammars, by the reference and by the program. -/
import Derived.Test.YtiohaeckagjebaaShJ0
import Derived.Test.YtiohaeckagjebaaShK2
set_option linter.unusedVariables false
set_option linter.unusedSimpArgs false
set_option maxRecDepth 100000
namespace Go.Sh
theorem rng6 : Array.range 6 = #[0, 1, 2, 3, 4, 5] := by decide
end Go.Sh
namespace Go.Proofs.Ytiohaeckagjebaa
open Go Go.Sh Go.RowKit

theorem specJoinOf_c {F E : Nat → Prop} {w : World} {v u : Value} {a b : Gram} (hv : GramV F w v a) (hu : GramV E w u b) (hF : ∀ q, F q → q < w.heap.size) (hE : ∀ q, E q → q < w.heap.size) {k : Value → World → Prop}
    (hk : ∀ v w', Gr w w' → GramR w' w.heap.size v (joinV a b) → k (.tuple #[v, .bool (joinV a b).isSome]) w') :
    CallK Try.prog 38 [v, u] k w := by
  obtain ⟨Y, c, rfl, hc, hy⟩ := hv
  obtain ⟨Z, d, rfl, hd, hz⟩ := hu
  refine enter38 ?_
  unfold S38
  have H := Apt.nil w
  refine boxH H fun b1 w1 H => ?_
  refine boxH H fun b2 w2 H => ?_
  refine allocH H inf37 fun b3 w3 H => ?_
  rw [ldB_agg agg37 sz37 rfl (H.box 0 rfl), ldB_agg agg37 sz37 rfl (H.box 1 rfl)]
  refine l20Two_c (a := a) (b := b) ⟨Y, c, rfl, hc, hy.gr H.gr⟩ ⟨Z, d, rfl, hd, hz.gr H.gr⟩ fun w4 g4 => ?_
  have H := H.step g4
  cases hg : twoB a b
  · simp only [Bool.not_false, go_sem, Nat.reduceEqDiff]
    rw [bd37 (cells := #[.int .i64 0, .int .i64 0, .slice none 0 0]) rfl]
    refine storeH H 2 rfl sz37 rfl rfl rfl fun w5 H => ?_
    rw [rd_loadVar, ldB_agg agg37 sz37 rfl (H.box 2 rfl)]
    have := hk zeroGram w5 H.gr
    simp only [joinV, hg] at this
    exact this rfl
  simp only [Bool.not_true, go_sem, Nat.reduceEqDiff]
  rw [ldB3 (H.box 0 rfl) rfl]
  simp only [go_sem, Nat.reduceEqDiff]
  rw [ldB3 (H.box 1 rfl) rfl]
  simp only [go_sem, Nat.reduceEqDiff]
  rw [ldB3 (H.box 0 rfl) rfl]
  rw [ldB3 (H.box 0 rfl) rfl]
  simp only [go_sem, Nat.reduceEqDiff]
  refine buildH H u22 inf3 [.int .i64 1, .int .i64 (IntKind.i64.wrap (1 + a.nons))] (by decide) (by decide) (by simp [Instr.fill, madeCells, Value.cells, rng2]) rfl fun b5 w5 H => ?_
  rw [bd77 (cells := #[.int .i64 0, .slice (some ⟨b5, 0, none⟩) 2 2]) rfl]
  refine buildH H u35 inf77 [.int .i64 0, .slice (some ⟨b5, 0, none⟩) 2 2] (by decide) (by decide) (by simp [Instr.fill, madeCells, Value.cells, rng2]) rfl fun b7 w7 H => ?_
  rw [ldB_agg agg37 sz37 rfl (H.box 0 rfl), ldB_agg agg37 sz37 rfl (H.box 1 rfl)]
  refine buildH H u154 inf37 [.int .i64 a.nons, .int .i64 a.toks, .slice Y a.rules.length c, .int .i64 b.nons, .int .i64 b.toks, .slice Z b.rules.length d] (by decide) (by decide) (by simp [Instr.fill, madeCells, Value.cells, rng6]) rfl fun b8 w8 H => ?_
  have hfirst : OwnR 77 3 w8 w.heap.size (some ⟨b7, 0, none⟩) 1 (joinFirst a) (fun _ => (some ⟨b5, 0, none⟩, 2)) := by
    refine ⟨⟨_, H.row 4 rfl, fun j hj => ?_⟩, fun j hj => ?_, fun i j hi hj hij => ?_⟩
    · match j, hj with
      | 0, _ => exact ⟨rfl, rfl⟩
    · match j, hj with
      | 0, _ => exact H.row 3 rfl
    · match i, j, hi, hj, hij with
      | 0, 0, _, _, h => exact absurd rfl h
  have hlt7 : w.heap.size ≤ b7 := (H.ok 4 _ rfl).lo b7 rfl
  have hgs : GramsF (fun q => q ≠ b7) w8 (some ⟨b8, 0, none⟩) [a, b] := by
    have hs := (H.row 5 rfl).src
    refine ⟨by simp, fun _ => rfl, fun _ e => H.two 5 4 _ _ (by decide) rfl rfl b8 rfl (by rw [show b8 = b7 from e]; rfl), fun j hj => ?_⟩
    match j, hj with
    | 0, _ => exact ⟨Y, c, hs.cell 0 _ rfl, hs.cell 1 _ rfl, hs.cell 2 _ rfl, hc, (hy.gr H.gr).mono fun q hq e => by have := hF q hq; omega⟩
    | 1, _ => exact ⟨Z, d, hs.cell 3 _ rfl, hs.cell 4 _ rfl, hs.cell 5 _ rfl, hd, (hz.gr H.gr).mono fun q hq e => by have := hE q hq; omega⟩
  have hab : goodG a = true ∧ goodG b = true := by
    simp only [twoB, Bool.and_eq_true] at hg
    exact hg.1
  refine l20Made_c (gs := [a, b]) hfirst rfl (Nat.le_of_ble_eq_true rfl) hgs (by simp) (fun j hj => by
    match j, hj with
    | 0, _ => exact hab.1
    | 1, _ => exact hab.2) (fun q hq e => hq (by simpa [blk] using e.symm)) H.gr.size fun v w9 g9 hres => ?_
  have H := H.set (it' := emp) (i := 4) rfl g9 (fun q hq => hq.elim) (fun q hq => hq.elim) (fun _ _ => trivial)
  have hres' : GramR w9 w.heap.size v (joinV a b) ∧ goodG ⟨IntKind.i64.wrap (IntKind.i64.wrap (1 + a.nons) + b.nons), a.toks, moreN (joinFirst a) [a, b] [a, b].length⟩ = (joinV a b).isSome := by
    unfold joinV madeV
    rw [if_pos hg]
    split at hres
    · rename_i hh
      rw [if_pos hh, hh]
      exact ⟨hres, rfl⟩
    · rename_i hh
      rw [if_neg hh]
      exact ⟨hres, by simpa using hh⟩
  rw [hres'.2]
  obtain ⟨x, y, z, rfl, hx1, hy1, hz1⟩ := hres'.1.three
  simp only [go_sem, Nat.reduceEqDiff]
  refine do_store sz37 rfl (by intro u hu; simp [Value.cells] at hu; rcases hu with rfl | rfl | rfl <;> assumption) (H.box 2 rfl) (by decide) fun w10 g10 s10 h10 => ?_
  rw [rd_loadVar, ldB_agg agg37 sz37 rfl h10]
  exact hk _ w10 (gr_put H.gr g10 ((H.ok 2 _ rfl).lo b3 rfl)) (hres'.1.put (H.box 2 rfl) (by decide) (by decide) g10)
theorem specUnionOf_c {F E : Nat → Prop} {w : World} {v u : Value} {a b : Gram} (hv : GramV F w v a) (hu : GramV E w u b) (hF : ∀ q, F q → q < w.heap.size) (hE : ∀ q, E q → q < w.heap.size) {k : Value → World → Prop}
    (hk : ∀ v w', Gr w w' → GramR w' w.heap.size v (unionV a b) → k (.tuple #[v, .bool (unionV a b).isSome]) w') :
    CallK Try.prog 40 [v, u] k w := by
  obtain ⟨Y, c, rfl, hc, hy⟩ := hv
  obtain ⟨Z, d, rfl, hd, hz⟩ := hu
  refine enter40 ?_
  unfold S40
  have H := Apt.nil w
  refine boxH H fun b1 w1 H => ?_
  refine boxH H fun b2 w2 H => ?_
  refine allocH H inf37 fun b3 w3 H => ?_
  rw [ldB_agg agg37 sz37 rfl (H.box 0 rfl), ldB_agg agg37 sz37 rfl (H.box 1 rfl)]
  refine l20Two_c (a := a) (b := b) ⟨Y, c, rfl, hc, hy.gr H.gr⟩ ⟨Z, d, rfl, hd, hz.gr H.gr⟩ fun w4 g4 => ?_
  have H := H.step g4
  cases hg : twoB a b
  · simp only [Bool.not_false, go_sem, Nat.reduceEqDiff]
    rw [bd37 (cells := #[.int .i64 0, .int .i64 0, .slice none 0 0]) rfl]
    refine storeH H 2 rfl sz37 rfl rfl rfl fun w5 H => ?_
    rw [rd_loadVar, ldB_agg agg37 sz37 rfl (H.box 2 rfl)]
    have := hk zeroGram w5 H.gr
    simp only [unionV, hg] at this
    exact this rfl
  simp only [Bool.not_true, go_sem, Nat.reduceEqDiff]
  rw [ldB3 (H.box 0 rfl) rfl]
  simp only [go_sem, Nat.reduceEqDiff]
  rw [ldB3 (H.box 1 rfl) rfl]
  simp only [go_sem, Nat.reduceEqDiff]
  rw [ldB3 (H.box 0 rfl) rfl]
  refine buildH H u22 inf3 [.int .i64 1] (by decide) (by decide) (by simp [Instr.fill, madeCells, Value.cells, rng1]) rfl fun b5 w5 H => ?_
  rw [bd77 (cells := #[.int .i64 0, .slice (some ⟨b5, 0, none⟩) 1 1]) rfl]
  rw [ldB3 (H.box 0 rfl) rfl]
  simp only [go_sem, Nat.reduceEqDiff]
  refine buildH H u22 inf3 [.int .i64 (IntKind.i64.wrap (1 + a.nons))] (by decide) (by decide) (by simp [Instr.fill, madeCells, Value.cells, rng1]) rfl fun b6 w6 H => ?_
  rw [bd77 (cells := #[.int .i64 0, .slice (some ⟨b6, 0, none⟩) 1 1]) rfl]
  refine buildH H u35 inf77 [.int .i64 0, .slice (some ⟨b5, 0, none⟩) 1 1, .int .i64 0, .slice (some ⟨b6, 0, none⟩) 1 1] (by decide) (by decide) (by simp [Instr.fill, madeCells, Value.cells, rng4]) rfl fun b7 w7 H => ?_
  rw [ldB_agg agg37 sz37 rfl (H.box 0 rfl), ldB_agg agg37 sz37 rfl (H.box 1 rfl)]
  refine buildH H u154 inf37 [.int .i64 a.nons, .int .i64 a.toks, .slice Y a.rules.length c, .int .i64 b.nons, .int .i64 b.toks, .slice Z b.rules.length d] (by decide) (by decide) (by simp [Instr.fill, madeCells, Value.cells, rng6]) rfl fun b8 w8 H => ?_
  have hfirst : OwnR 77 3 w8 w.heap.size (some ⟨b7, 0, none⟩) 2 (unionFirst a) (fun j => if j = 0 then (some ⟨b5, 0, none⟩, 1) else (some ⟨b6, 0, none⟩, 1)) := by
    refine ⟨⟨_, H.row 5 rfl, fun j hj => ?_⟩, fun j hj => ?_, fun i j hi hj hij => ?_⟩
    · match j, hj with
      | 0, _ => exact ⟨rfl, rfl⟩
      | 1, _ => exact ⟨rfl, rfl⟩
    · match j, hj with
      | 0, _ => exact H.row 3 rfl
      | 1, _ => exact H.row 4 rfl
    · have hne : b5 ≠ b6 := fun e => H.two 3 4 _ _ (by decide) rfl rfl b5 rfl (by rw [e]; rfl)
      match i, j, hi, hj, hij with
      | 0, 1, _, _, _ => exact .inr (by simpa [blk] using hne)
      | 1, 0, _, _, _ => exact .inr (by simpa [blk] using fun e => hne e.symm)
      | 0, 0, _, _, h => exact absurd rfl h
      | 1, 1, _, _, h => exact absurd rfl h
  have hlt7 : w.heap.size ≤ b7 := (H.ok 5 _ rfl).lo b7 rfl
  have hgs : GramsF (fun q => q ≠ b7) w8 (some ⟨b8, 0, none⟩) [a, b] := by
    have hs := (H.row 6 rfl).src
    refine ⟨by simp, fun _ => rfl, fun _ e => H.two 6 5 _ _ (by decide) rfl rfl b8 rfl (by rw [show b8 = b7 from e]; rfl), fun j hj => ?_⟩
    match j, hj with
    | 0, _ => exact ⟨Y, c, hs.cell 0 _ rfl, hs.cell 1 _ rfl, hs.cell 2 _ rfl, hc, (hy.gr H.gr).mono fun q hq e => by have := hF q hq; omega⟩
    | 1, _ => exact ⟨Z, d, hs.cell 3 _ rfl, hs.cell 4 _ rfl, hs.cell 5 _ rfl, hd, (hz.gr H.gr).mono fun q hq e => by have := hE q hq; omega⟩
  have hab : goodG a = true ∧ goodG b = true := by
    simp only [twoB, Bool.and_eq_true] at hg
    exact hg.1
  refine l20Made_c (gs := [a, b]) hfirst rfl (Nat.le_of_ble_eq_true rfl) hgs (by simp) (fun j hj => by
    match j, hj with
    | 0, _ => exact hab.1
    | 1, _ => exact hab.2) (fun q hq e => hq (by simpa [blk] using e.symm)) H.gr.size fun v w9 g9 hres => ?_
  have H := H.set (it' := emp) (i := 5) rfl g9 (fun q hq => hq.elim) (fun q hq => hq.elim) (fun _ _ => trivial)
  have hres' : GramR w9 w.heap.size v (unionV a b) ∧ goodG ⟨IntKind.i64.wrap (IntKind.i64.wrap (1 + a.nons) + b.nons), a.toks, moreN (unionFirst a) [a, b] [a, b].length⟩ = (unionV a b).isSome := by
    unfold unionV madeV
    rw [if_pos hg]
    split at hres
    · rename_i hh
      rw [if_pos hh, hh]
      exact ⟨hres, rfl⟩
    · rename_i hh
      rw [if_neg hh]
      exact ⟨hres, by simpa using hh⟩
  rw [hres'.2]
  obtain ⟨x, y, z, rfl, hx1, hy1, hz1⟩ := hres'.1.three
  simp only [go_sem, Nat.reduceEqDiff]
  refine do_store sz37 rfl (by intro u hu; simp [Value.cells] at hu; rcases hu with rfl | rfl | rfl <;> assumption) (H.box 2 rfl) (by decide) fun w10 g10 s10 h10 => ?_
  rw [rd_loadVar, ldB_agg agg37 sz37 rfl h10]
  exact hk _ w10 (gr_put H.gr g10 ((H.ok 2 _ rfl).lo b3 rfl)) (hres'.1.put (H.box 2 rfl) (by decide) (by decide) g10)
theorem implJoinOf_c {F E : Nat → Prop} {w : World} {v u : Value} {a b : Gram} (hv : GramV F w v a) (hu : GramV E w u b) {k : Value → World → Prop}
    (hk : ∀ v w', Gr w w' → GramR w' w.heap.size v (joinV a b) → k (.tuple #[v, .bool (joinV a b).isSome]) w') :
    CallK Try.prog 39 [v, u] k w := by
  obtain ⟨Y, c, rfl, hc, hy⟩ := hv
  obtain ⟨Z, d, rfl, hd, hz⟩ := hu
  refine enter39 ?_
  unfold S39
  have H := Apt.nil w
  refine boxH H fun b1 w1 H => ?_
  refine boxH H fun b2 w2 H => ?_
  refine allocH H inf37 fun b3 w3 H => ?_
  rw [ldB_agg agg37 sz37 rfl (H.box 0 rfl)]
  refine isGrammar_c (gm := a) ⟨Y, c, rfl, hc, hy.gr H.gr⟩ fun w4 g4 => ?_
  have H := H.step g4
  cases ha : goodG a
  · simp only [Bool.not_false, go_sem, Nat.reduceEqDiff]
    have hg : twoB a b = false := by simp [twoB, ha]
    rw [bd37 (cells := #[.int .i64 0, .int .i64 0, .slice none 0 0]) rfl]
    refine storeH H 2 rfl sz37 rfl rfl rfl fun w5 H => ?_
    rw [rd_loadVar, ldB_agg agg37 sz37 rfl (H.box 2 rfl)]
    have := hk zeroGram w5 H.gr
    simp only [joinV, hg] at this
    exact this rfl
  simp only [Bool.not_true, go_sem, Nat.reduceEqDiff]
  rw [ldB_agg agg37 sz37 rfl (H.box 1 rfl)]
  refine isGrammar_c (gm := b) ⟨Z, d, rfl, hd, hz.gr H.gr⟩ fun w4 g4 => ?_
  have H := H.step g4
  cases hb : goodG b
  · simp only [Bool.not_false, go_sem, Nat.reduceEqDiff]
    have hg : twoB a b = false := by simp [twoB, hb]
    rw [bd37 (cells := #[.int .i64 0, .int .i64 0, .slice none 0 0]) rfl]
    refine storeH H 2 rfl sz37 rfl rfl rfl fun w5 H => ?_
    rw [rd_loadVar, ldB_agg agg37 sz37 rfl (H.box 2 rfl)]
    have := hk zeroGram w5 H.gr
    simp only [joinV, hg] at this
    exact this rfl
  simp only [Bool.not_true, go_sem, Nat.reduceEqDiff]
  rw [ldB3 (H.box 0 rfl) rfl]
  rw [ldB3 (H.box 1 rfl) rfl]
  simp only [go_sem, Nat.reduceEqDiff]
  by_cases ht : a.toks = b.toks
  case neg =>
    simp only [ht, decide_false, Bool.not_false, go_sem, Nat.reduceEqDiff]
    have hg : twoB a b = false := by simp [twoB, ht]
    rw [bd37 (cells := #[.int .i64 0, .int .i64 0, .slice none 0 0]) rfl]
    refine storeH H 2 rfl sz37 rfl rfl rfl fun w5 H => ?_
    rw [rd_loadVar, ldB_agg agg37 sz37 rfl (H.box 2 rfl)]
    have := hk zeroGram w5 H.gr
    simp only [joinV, hg] at this
    exact this rfl
  have hg : twoB a b = true := by simp [twoB, ha, hb, ht]
  simp only [ht, decide_true, Bool.not_true, go_sem, Nat.reduceEqDiff]
  rw [ldB3 (H.box 0 rfl) rfl]
  simp only [go_sem, Nat.reduceEqDiff]
  refine buildH H u22 inf3 [.int .i64 1, .int .i64 (IntKind.i64.wrap (1 + a.nons))] (by decide) (by decide) (by simp [Instr.fill, madeCells, Value.cells, rng2]) rfl fun b5 w5 H => ?_
  refine buildH H u48 inf22 [.slice (some ⟨b5, 0, none⟩) 2 2] (by decide) (by decide) (by simp [Instr.fill, madeCells, Value.cells, rng1]) rfl fun b7 w7 H => ?_
  rw [ldB_agg agg37 sz37 rfl (H.box 0 rfl), ldB_agg agg37 sz37 rfl (H.box 1 rfl)]
  refine buildH H u154 inf37 [.int .i64 a.nons, .int .i64 a.toks, .slice Y a.rules.length c, .int .i64 b.nons, .int .i64 b.toks, .slice Z b.rules.length d] (by decide) (by decide) (by simp [Instr.fill, madeCells, Value.cells, rng6]) rfl fun b8 w8 H => ?_
  have hrs : Intss w8 (some ⟨b7, 0, none⟩) [[1, IntKind.i64.wrap (1 + a.nons)]] := by
    have hs := (H.row 4 rfl).src
    refine ⟨by simp, fun _ => rfl, fun j hj => ?_⟩
    match j, hj with
    | 0, _ => exact ⟨_, 2, hs.cell 0 _ rfl, Nat.le_refl _, Own.ints (show Own 3 w8 w.heap.size (some ⟨b5, 0, none⟩) 2 [1, IntKind.i64.wrap (1 + a.nons)] from H.row 3 rfl)⟩
  have hgs : GramsF (fun _ => True) w8 (some ⟨b8, 0, none⟩) [a, b] := by
    have hs := (H.row 5 rfl).src
    refine ⟨by simp, fun _ => rfl, fun _ => trivial, fun j hj => ?_⟩
    match j, hj with
    | 0, _ => exact ⟨Y, c, hs.cell 0 _ rfl, hs.cell 1 _ rfl, hs.cell 2 _ rfl, hc, (hy.gr H.gr).mono fun _ _ => trivial⟩
    | 1, _ => exact ⟨Z, d, hs.cell 3 _ rfl, hs.cell 4 _ rfl, hs.cell 5 _ rfl, hd, (hz.gr H.gr).mono fun _ _ => trivial⟩
  refine beside_c (rl := [[1, IntKind.i64.wrap (1 + a.nons)]]) (gs := [a, b]) hrs (by simp) (fun j hj => by
    match j, hj with
    | 0, _ => simp [rgt]) hgs (by simp) (by simp) (fun j hj => by
    match j, hj with
    | 0, _ => exact ha
    | 1, _ => exact hb) fun v w9 g9 hres => ?_
  have he : madeV (firsts [[1, IntKind.i64.wrap (1 + a.nons)]]) (nextN [a, b] [a, b].length) (gmn [a, b] 0).toks [a, b] = joinV a b := by
    unfold joinV
    rw [if_pos hg]
    rfl
  rw [he] at hres ⊢
  have H' := H.step g9
  obtain ⟨x, y, z, rfl, hx1, hy1, hz1⟩ := hres.three
  simp only [go_sem, Nat.reduceEqDiff]
  refine do_store sz37 rfl (by intro u hu; simp [Value.cells] at hu; rcases hu with rfl | rfl | rfl <;> assumption) (H'.box 2 rfl) (by decide) fun w10 g10 s10 h10 => ?_
  rw [rd_loadVar, ldB_agg agg37 sz37 rfl h10]
  refine hk _ w10 (gr_put H'.gr g10 ((H.ok 2 _ rfl).lo b3 rfl)) ?_
  have := hres.put (H'.box 2 rfl) (by decide) (by decide) g10
  cases hs : joinV a b with
  | none => rw [hs] at this; exact this
  | some m =>
    rw [hs] at this
    exact GramO.mono this H.gr.size
theorem implUnionOf_c {F E : Nat → Prop} {w : World} {v u : Value} {a b : Gram} (hv : GramV F w v a) (hu : GramV E w u b) {k : Value → World → Prop}
    (hk : ∀ v w', Gr w w' → GramR w' w.heap.size v (unionV a b) → k (.tuple #[v, .bool (unionV a b).isSome]) w') :
    CallK Try.prog 41 [v, u] k w := by
  obtain ⟨Y, c, rfl, hc, hy⟩ := hv
  obtain ⟨Z, d, rfl, hd, hz⟩ := hu
  refine enter41 ?_
  unfold S41
  have H := Apt.nil w
  refine boxH H fun b1 w1 H => ?_
  refine boxH H fun b2 w2 H => ?_
  refine allocH H inf37 fun b3 w3 H => ?_
  rw [ldB_agg agg37 sz37 rfl (H.box 0 rfl)]
  refine isGrammar_c (gm := a) ⟨Y, c, rfl, hc, hy.gr H.gr⟩ fun w4 g4 => ?_
  have H := H.step g4
  cases ha : goodG a
  · simp only [Bool.not_false, go_sem, Nat.reduceEqDiff]
    have hg : twoB a b = false := by simp [twoB, ha]
    rw [bd37 (cells := #[.int .i64 0, .int .i64 0, .slice none 0 0]) rfl]
    refine storeH H 2 rfl sz37 rfl rfl rfl fun w5 H => ?_
    rw [rd_loadVar, ldB_agg agg37 sz37 rfl (H.box 2 rfl)]
    have := hk zeroGram w5 H.gr
    simp only [unionV, hg] at this
    exact this rfl
  simp only [Bool.not_true, go_sem, Nat.reduceEqDiff]
  rw [ldB_agg agg37 sz37 rfl (H.box 1 rfl)]
  refine isGrammar_c (gm := b) ⟨Z, d, rfl, hd, hz.gr H.gr⟩ fun w4 g4 => ?_
  have H := H.step g4
  cases hb : goodG b
  · simp only [Bool.not_false, go_sem, Nat.reduceEqDiff]
    have hg : twoB a b = false := by simp [twoB, hb]
    rw [bd37 (cells := #[.int .i64 0, .int .i64 0, .slice none 0 0]) rfl]
    refine storeH H 2 rfl sz37 rfl rfl rfl fun w5 H => ?_
    rw [rd_loadVar, ldB_agg agg37 sz37 rfl (H.box 2 rfl)]
    have := hk zeroGram w5 H.gr
    simp only [unionV, hg] at this
    exact this rfl
  simp only [Bool.not_true, go_sem, Nat.reduceEqDiff]
  rw [ldB3 (H.box 0 rfl) rfl]
  rw [ldB3 (H.box 1 rfl) rfl]
  simp only [go_sem, Nat.reduceEqDiff]
  by_cases ht : a.toks = b.toks
  case neg =>
    simp only [ht, decide_false, Bool.not_false, go_sem, Nat.reduceEqDiff]
    have hg : twoB a b = false := by simp [twoB, ht]
    rw [bd37 (cells := #[.int .i64 0, .int .i64 0, .slice none 0 0]) rfl]
    refine storeH H 2 rfl sz37 rfl rfl rfl fun w5 H => ?_
    rw [rd_loadVar, ldB_agg agg37 sz37 rfl (H.box 2 rfl)]
    have := hk zeroGram w5 H.gr
    simp only [unionV, hg] at this
    exact this rfl
  have hg : twoB a b = true := by simp [twoB, ha, hb, ht]
  simp only [ht, decide_true, Bool.not_true, go_sem, Nat.reduceEqDiff]
  refine buildH H u22 inf3 [.int .i64 1] (by decide) (by decide) (by simp [Instr.fill, madeCells, Value.cells, rng1]) rfl fun b5 w5 H => ?_
  rw [ldB3 (H.box 0 rfl) rfl]
  simp only [go_sem, Nat.reduceEqDiff]
  refine buildH H u22 inf3 [.int .i64 (IntKind.i64.wrap (1 + a.nons))] (by decide) (by decide) (by simp [Instr.fill, madeCells, Value.cells, rng1]) rfl fun b6 w6 H => ?_
  refine buildH H u48 inf22 [.slice (some ⟨b5, 0, none⟩) 1 1, .slice (some ⟨b6, 0, none⟩) 1 1] (by decide) (by decide) (by simp [Instr.fill, madeCells, Value.cells, rng2]) rfl fun b7 w7 H => ?_
  rw [ldB_agg agg37 sz37 rfl (H.box 0 rfl), ldB_agg agg37 sz37 rfl (H.box 1 rfl)]
  refine buildH H u154 inf37 [.int .i64 a.nons, .int .i64 a.toks, .slice Y a.rules.length c, .int .i64 b.nons, .int .i64 b.toks, .slice Z b.rules.length d] (by decide) (by decide) (by simp [Instr.fill, madeCells, Value.cells, rng6]) rfl fun b8 w8 H => ?_
  have hrs : Intss w8 (some ⟨b7, 0, none⟩) [[1], [IntKind.i64.wrap (1 + a.nons)]] := by
    have hs := (H.row 5 rfl).src
    refine ⟨by simp, fun _ => rfl, fun j hj => ?_⟩
    match j, hj with
    | 0, _ => exact ⟨_, 1, hs.cell 0 _ rfl, Nat.le_refl _, Own.ints (show Own 3 w8 w.heap.size (some ⟨b5, 0, none⟩) 1 [1] from H.row 3 rfl)⟩
    | 1, _ => exact ⟨_, 1, hs.cell 1 _ rfl, Nat.le_refl _, Own.ints (show Own 3 w8 w.heap.size (some ⟨b6, 0, none⟩) 1 [IntKind.i64.wrap (1 + a.nons)] from H.row 4 rfl)⟩
  have hgs : GramsF (fun _ => True) w8 (some ⟨b8, 0, none⟩) [a, b] := by
    have hs := (H.row 6 rfl).src
    refine ⟨by simp, fun _ => rfl, fun _ => trivial, fun j hj => ?_⟩
    match j, hj with
    | 0, _ => exact ⟨Y, c, hs.cell 0 _ rfl, hs.cell 1 _ rfl, hs.cell 2 _ rfl, hc, (hy.gr H.gr).mono fun _ _ => trivial⟩
    | 1, _ => exact ⟨Z, d, hs.cell 3 _ rfl, hs.cell 4 _ rfl, hs.cell 5 _ rfl, hd, (hz.gr H.gr).mono fun _ _ => trivial⟩
  refine beside_c (rl := [[1], [IntKind.i64.wrap (1 + a.nons)]]) (gs := [a, b]) hrs (by simp) (fun j hj => by
    match j, hj with
    | 0, _ => simp [rgt]
    | 1, _ => simp [rgt]) hgs (by simp) (by simp) (fun j hj => by
    match j, hj with
    | 0, _ => exact ha
    | 1, _ => exact hb) fun v w9 g9 hres => ?_
  have he : madeV (firsts [[1], [IntKind.i64.wrap (1 + a.nons)]]) (nextN [a, b] [a, b].length) (gmn [a, b] 0).toks [a, b] = unionV a b := by
    unfold unionV
    rw [if_pos hg]
    rfl
  rw [he] at hres ⊢
  have H' := H.step g9
  obtain ⟨x, y, z, rfl, hx1, hy1, hz1⟩ := hres.three
  simp only [go_sem, Nat.reduceEqDiff]
  refine do_store sz37 rfl (by intro u hu; simp [Value.cells] at hu; rcases hu with rfl | rfl | rfl <;> assumption) (H'.box 2 rfl) (by decide) fun w10 g10 s10 h10 => ?_
  rw [rd_loadVar, ldB_agg agg37 sz37 rfl h10]
  refine hk _ w10 (gr_put H'.gr g10 ((H.ok 2 _ rfl).lo b3 rfl)) ?_
  have := hres.put (H'.box 2 rfl) (by decide) (by decide) g10
  cases hs : unionV a b with
  | none => rw [hs] at this; exact this
  | some m =>
    rw [hs] at this
    exact GramO.mono this H.gr.size
end Go.Proofs.Ytiohaeckagjebaa
