/- Texts of this repository put together: ShJ1, ShB3, ShB4, ShIO. -/
import Derived.Test.YtegcjkhebecgbaaKBesided
import Derived.Test.YtegcjkhebecgbaaKBesidee
import Derived.Test.YtegcjkhebecgbaaKBesideb
import Derived.Test.YtegcjkhebecgbaaRows
import Derived.JoinedOf
import Derived.KernelRfl

/- Contracts: joined and united grammars, by the reference and by the program. -/
set_option linter.unusedVariables false
set_option linter.unusedSimpArgs false
set_option maxRecDepth 100000
namespace Go.Sh

end Go.Sh
namespace Go.Proofs.Ytegcjkhebecgbaa
open Go Go.Sh Go.RowKit

theorem specJoinOf_c {F E : Nat → Prop} {w : World} {v u : Value} {a b : Gram} (hv : GramV F w v a) (hu : GramV E w u b) (hF : ∀ q, F q → q < w.heap.size) (hE : ∀ q, E q → q < w.heap.size) {k : Value → World → Prop}
    (hk : ∀ v w', Gr w w' → GramR w' w.heap.size v (joinV a b) → k (.tuple #[v, .bool (joinV a b).isSome]) w') :
    CallK Try.prog 40 [v, u] k w := by
  obtain ⟨Y, c, rfl, hc, hy⟩ := hv
  obtain ⟨Z, d, rfl, hd, hz⟩ := hu
  refine enter40 ?_
  unfold S40
  have H := Apt.nil w
  refine boxH H fun b1 w1 H => ?_
  refine boxH H fun b2 w2 H => ?_
  refine allocH H inf26 fun b3 w3 H => ?_
  rw [ldB_agg agg26 sz26 rfl (H.box 0 rfl), ldB_agg agg26 sz26 rfl (H.box 1 rfl)]
  refine l20Two_c (a := a) (b := b) ⟨Y, c, rfl, hc, hy.gr H.gr⟩ ⟨Z, d, rfl, hd, hz.gr H.gr⟩ fun w4 g4 => ?_
  have H := H.step g4
  cases hg : twoB a b
  · simp only [Bool.not_false, go_sem, Nat.reduceEqDiff]
    rw [bd26 (cells := #[.int .i64 0, .int .i64 0, .slice none 0 0]) rfl]
    refine storeH H 2 rfl sz26 rfl rfl rfl fun w5 H => ?_
    rw [rd_loadVar, ldB_agg agg26 sz26 rfl (H.box 2 rfl)]
    have := hk zeroGram w5 H.gr
    simp only [joinV, hg] at this
    exact this rfl
  simp only [Bool.not_true, go_sem, Nat.reduceEqDiff]
  rw [ldB3 (H.box 0 rfl) rfl]
  simp only [go_sem, Nat.reduceEqDiff]
  rw [ldB3 (H.box 1 rfl) rfl]
  simp only [go_sem, Nat.reduceEqDiff]
  rw [ldB3 (H.box 0 rfl) rfl]
  rw [ldB3 (H.box 0 rfl) rfl]
  simp only [go_sem, Nat.reduceEqDiff]
  refine buildH H u27 inf3 [.int .i64 1, .int .i64 (IntKind.i64.wrap (1 + a.nons))] (by decide) (by decide) (by simp [Instr.fill, madeCells, Value.cells, rng2]) rfl fun b5 w5 H => ?_
  rw [bd33 (cells := #[.int .i64 0, .slice (some ⟨b5, 0, none⟩) 2 2]) rfl]
  refine buildH H u24 inf33 [.int .i64 0, .slice (some ⟨b5, 0, none⟩) 2 2] (by decide) (by decide) (by simp [Instr.fill, madeCells, Value.cells, rng2]) rfl fun b7 w7 H => ?_
  rw [ldB_agg agg26 sz26 rfl (H.box 0 rfl), ldB_agg agg26 sz26 rfl (H.box 1 rfl)]
  refine buildH H u218 inf26 [.int .i64 a.nons, .int .i64 a.toks, .slice Y a.rules.length c, .int .i64 b.nons, .int .i64 b.toks, .slice Z b.rules.length d] (by decide) (by decide) (by simp [Instr.fill, madeCells, Value.cells, rng6]) rfl fun b8 w8 H => ?_
  have hfirst : OwnR 33 3 w8 w.heap.size (some ⟨b7, 0, none⟩) 1 (joinFirst a) (fun _ => (some ⟨b5, 0, none⟩, 2)) := by
    refine ⟨⟨_, H.row 4 rfl, fun j hj => ?_⟩, fun j hj => ?_, fun i j hi hj hij => ?_⟩
    · match j, hj with
      | 0, _ => exact ⟨rfl, rfl⟩
    · match j, hj with
      | 0, _ => exact H.row 3 rfl
    · match i, j, hi, hj, hij with
      | 0, 0, _, _, h => exact absurd rfl h
  have hlt7 : w.heap.size ≤ b7 := (H.ok 4 _ rfl).lo b7 rfl
  have hgs : GramsF (fun q => q ≠ b7) w8 (some ⟨b8, 0, none⟩) [a, b] := by
    have hs := (H.row 5 rfl).src
    refine ⟨by simp, fun _ => rfl, fun _ e => H.two 5 4 _ _ (by decide) rfl rfl b8 rfl (by rw [show b8 = b7 from e]; rfl), fun j hj => ?_⟩
    match j, hj with
    | 0, _ => exact ⟨Y, c, hs.cell 0 _ rfl, hs.cell 1 _ rfl, hs.cell 2 _ rfl, hc, (hy.gr H.gr).mono fun q hq e => by have := hF q hq; omega⟩
    | 1, _ => exact ⟨Z, d, hs.cell 3 _ rfl, hs.cell 4 _ rfl, hs.cell 5 _ rfl, hd, (hz.gr H.gr).mono fun q hq e => by have := hE q hq; omega⟩
  have hab : goodG a = true ∧ goodG b = true := by
    simp only [twoB, Bool.and_eq_true] at hg
    exact hg.1
  refine l20Made_c (gs := [a, b]) hfirst rfl (Nat.le_of_ble_eq_true rfl) hgs (by simp) (fun j hj => by
    match j, hj with
    | 0, _ => exact hab.1
    | 1, _ => exact hab.2) (fun q hq e => hq (by simpa [blk] using e.symm)) H.gr.size fun v w9 g9 hres => ?_
  have H := H.set (it' := emp) (i := 4) rfl g9 (fun q hq => hq.elim) (fun q hq => hq.elim) (fun _ _ => trivial)
  have hres' : GramR w9 w.heap.size v (joinV a b) ∧ goodG ⟨IntKind.i64.wrap (IntKind.i64.wrap (1 + a.nons) + b.nons), a.toks, moreN (joinFirst a) [a, b] [a, b].length⟩ = (joinV a b).isSome := by
    unfold joinV madeV
    rw [if_pos hg]
    split at hres
    · rename_i hh
      rw [if_pos hh, hh]
      exact ⟨hres, rfl⟩
    · rename_i hh
      rw [if_neg hh]
      exact ⟨hres, by simpa using hh⟩
  rw [hres'.2]
  obtain ⟨x, y, z, rfl, hx1, hy1, hz1⟩ := hres'.1.three
  simp only [go_sem, Nat.reduceEqDiff]
  refine do_store sz26 rfl (by intro u hu; simp [Value.cells] at hu; rcases hu with rfl | rfl | rfl <;> assumption) (H.box 2 rfl) (by decide) fun w10 g10 s10 h10 => ?_
  rw [rd_loadVar, ldB_agg agg26 sz26 rfl h10]
  exact hk _ w10 (gr_put H.gr g10 ((H.ok 2 _ rfl).lo b3 rfl)) (hres'.1.put (H.box 2 rfl) (by decide) (by decide) g10)
theorem specUnionOf_c {F E : Nat → Prop} {w : World} {v u : Value} {a b : Gram} (hv : GramV F w v a) (hu : GramV E w u b) (hF : ∀ q, F q → q < w.heap.size) (hE : ∀ q, E q → q < w.heap.size) {k : Value → World → Prop}
    (hk : ∀ v w', Gr w w' → GramR w' w.heap.size v (unionV a b) → k (.tuple #[v, .bool (unionV a b).isSome]) w') :
    CallK Try.prog 38 [v, u] k w := by
  obtain ⟨Y, c, rfl, hc, hy⟩ := hv
  obtain ⟨Z, d, rfl, hd, hz⟩ := hu
  refine enter38 ?_
  unfold S38
  have H := Apt.nil w
  refine boxH H fun b1 w1 H => ?_
  refine boxH H fun b2 w2 H => ?_
  refine allocH H inf26 fun b3 w3 H => ?_
  rw [ldB_agg agg26 sz26 rfl (H.box 0 rfl), ldB_agg agg26 sz26 rfl (H.box 1 rfl)]
  refine l20Two_c (a := a) (b := b) ⟨Y, c, rfl, hc, hy.gr H.gr⟩ ⟨Z, d, rfl, hd, hz.gr H.gr⟩ fun w4 g4 => ?_
  have H := H.step g4
  cases hg : twoB a b
  · simp only [Bool.not_false, go_sem, Nat.reduceEqDiff]
    rw [bd26 (cells := #[.int .i64 0, .int .i64 0, .slice none 0 0]) rfl]
    refine storeH H 2 rfl sz26 rfl rfl rfl fun w5 H => ?_
    rw [rd_loadVar, ldB_agg agg26 sz26 rfl (H.box 2 rfl)]
    have := hk zeroGram w5 H.gr
    simp only [unionV, hg] at this
    exact this rfl
  simp only [Bool.not_true, go_sem, Nat.reduceEqDiff]
  rw [ldB3 (H.box 0 rfl) rfl]
  simp only [go_sem, Nat.reduceEqDiff]
  rw [ldB3 (H.box 1 rfl) rfl]
  simp only [go_sem, Nat.reduceEqDiff]
  rw [ldB3 (H.box 0 rfl) rfl]
  refine buildH H u27 inf3 [.int .i64 1] (by decide) (by decide) (by simp [Instr.fill, madeCells, Value.cells, rng1]) rfl fun b5 w5 H => ?_
  rw [bd33 (cells := #[.int .i64 0, .slice (some ⟨b5, 0, none⟩) 1 1]) rfl]
  rw [ldB3 (H.box 0 rfl) rfl]
  simp only [go_sem, Nat.reduceEqDiff]
  refine buildH H u27 inf3 [.int .i64 (IntKind.i64.wrap (1 + a.nons))] (by decide) (by decide) (by simp [Instr.fill, madeCells, Value.cells, rng1]) rfl fun b6 w6 H => ?_
  rw [bd33 (cells := #[.int .i64 0, .slice (some ⟨b6, 0, none⟩) 1 1]) rfl]
  refine buildH H u24 inf33 [.int .i64 0, .slice (some ⟨b5, 0, none⟩) 1 1, .int .i64 0, .slice (some ⟨b6, 0, none⟩) 1 1] (by decide) (by decide) (by simp [Instr.fill, madeCells, Value.cells, rng4]) rfl fun b7 w7 H => ?_
  rw [ldB_agg agg26 sz26 rfl (H.box 0 rfl), ldB_agg agg26 sz26 rfl (H.box 1 rfl)]
  refine buildH H u218 inf26 [.int .i64 a.nons, .int .i64 a.toks, .slice Y a.rules.length c, .int .i64 b.nons, .int .i64 b.toks, .slice Z b.rules.length d] (by decide) (by decide) (by simp [Instr.fill, madeCells, Value.cells, rng6]) rfl fun b8 w8 H => ?_
  have hfirst : OwnR 33 3 w8 w.heap.size (some ⟨b7, 0, none⟩) 2 (unionFirst a) (fun j => if j = 0 then (some ⟨b5, 0, none⟩, 1) else (some ⟨b6, 0, none⟩, 1)) := by
    refine ⟨⟨_, H.row 5 rfl, fun j hj => ?_⟩, fun j hj => ?_, fun i j hi hj hij => ?_⟩
    · match j, hj with
      | 0, _ => exact ⟨rfl, rfl⟩
      | 1, _ => exact ⟨rfl, rfl⟩
    · match j, hj with
      | 0, _ => exact H.row 3 rfl
      | 1, _ => exact H.row 4 rfl
    · have hne : b5 ≠ b6 := fun e => H.two 3 4 _ _ (by decide) rfl rfl b5 rfl (by rw [e]; rfl)
      match i, j, hi, hj, hij with
      | 0, 1, _, _, _ => exact .inr (by simpa [blk] using hne)
      | 1, 0, _, _, _ => exact .inr (by simpa [blk] using fun e => hne e.symm)
      | 0, 0, _, _, h => exact absurd rfl h
      | 1, 1, _, _, h => exact absurd rfl h
  have hlt7 : w.heap.size ≤ b7 := (H.ok 5 _ rfl).lo b7 rfl
  have hgs : GramsF (fun q => q ≠ b7) w8 (some ⟨b8, 0, none⟩) [a, b] := by
    have hs := (H.row 6 rfl).src
    refine ⟨by simp, fun _ => rfl, fun _ e => H.two 6 5 _ _ (by decide) rfl rfl b8 rfl (by rw [show b8 = b7 from e]; rfl), fun j hj => ?_⟩
    match j, hj with
    | 0, _ => exact ⟨Y, c, hs.cell 0 _ rfl, hs.cell 1 _ rfl, hs.cell 2 _ rfl, hc, (hy.gr H.gr).mono fun q hq e => by have := hF q hq; omega⟩
    | 1, _ => exact ⟨Z, d, hs.cell 3 _ rfl, hs.cell 4 _ rfl, hs.cell 5 _ rfl, hd, (hz.gr H.gr).mono fun q hq e => by have := hE q hq; omega⟩
  have hab : goodG a = true ∧ goodG b = true := by
    simp only [twoB, Bool.and_eq_true] at hg
    exact hg.1
  refine l20Made_c (gs := [a, b]) hfirst rfl (Nat.le_of_ble_eq_true rfl) hgs (by simp) (fun j hj => by
    match j, hj with
    | 0, _ => exact hab.1
    | 1, _ => exact hab.2) (fun q hq e => hq (by simpa [blk] using e.symm)) H.gr.size fun v w9 g9 hres => ?_
  have H := H.set (it' := emp) (i := 5) rfl g9 (fun q hq => hq.elim) (fun q hq => hq.elim) (fun _ _ => trivial)
  have hres' : GramR w9 w.heap.size v (unionV a b) ∧ goodG ⟨IntKind.i64.wrap (IntKind.i64.wrap (1 + a.nons) + b.nons), a.toks, moreN (unionFirst a) [a, b] [a, b].length⟩ = (unionV a b).isSome := by
    unfold unionV madeV
    rw [if_pos hg]
    split at hres
    · rename_i hh
      rw [if_pos hh, hh]
      exact ⟨hres, rfl⟩
    · rename_i hh
      rw [if_neg hh]
      exact ⟨hres, by simpa using hh⟩
  rw [hres'.2]
  obtain ⟨x, y, z, rfl, hx1, hy1, hz1⟩ := hres'.1.three
  simp only [go_sem, Nat.reduceEqDiff]
  refine do_store sz26 rfl (by intro u hu; simp [Value.cells] at hu; rcases hu with rfl | rfl | rfl <;> assumption) (H.box 2 rfl) (by decide) fun w10 g10 s10 h10 => ?_
  rw [rd_loadVar, ldB_agg agg26 sz26 rfl h10]
  exact hk _ w10 (gr_put H.gr g10 ((H.ok 2 _ rfl).lo b3 rfl)) (hres'.1.put (H.box 2 rfl) (by decide) (by decide) g10)
theorem implJoinOf_c {F E : Nat → Prop} {w : World} {v u : Value} {a b : Gram} (hv : GramV F w v a) (hu : GramV E w u b) {k : Value → World → Prop}
    (hk : ∀ v w', Gr w w' → GramR w' w.heap.size v (joinV a b) → k (.tuple #[v, .bool (joinV a b).isSome]) w') :
    CallK Try.prog 39 [v, u] k w := by
  obtain ⟨Y, c, rfl, hc, hy⟩ := hv
  obtain ⟨Z, d, rfl, hd, hz⟩ := hu
  refine enter39 ?_
  unfold S39
  have H := Apt.nil w
  refine boxH H fun b1 w1 H => ?_
  refine boxH H fun b2 w2 H => ?_
  refine allocH H inf26 fun b3 w3 H => ?_
  rw [ldB_agg agg26 sz26 rfl (H.box 0 rfl)]
  refine isGrammar_c (gm := a) ⟨Y, c, rfl, hc, hy.gr H.gr⟩ fun w4 g4 => ?_
  have H := H.step g4
  cases ha : goodG a
  · simp only [Bool.not_false, go_sem, Nat.reduceEqDiff]
    have hg : twoB a b = false := by simp [twoB, ha]
    rw [bd26 (cells := #[.int .i64 0, .int .i64 0, .slice none 0 0]) rfl]
    refine storeH H 2 rfl sz26 rfl rfl rfl fun w5 H => ?_
    rw [rd_loadVar, ldB_agg agg26 sz26 rfl (H.box 2 rfl)]
    have := hk zeroGram w5 H.gr
    simp only [joinV, hg] at this
    exact this rfl
  simp only [Bool.not_true, go_sem, Nat.reduceEqDiff]
  rw [ldB_agg agg26 sz26 rfl (H.box 1 rfl)]
  refine isGrammar_c (gm := b) ⟨Z, d, rfl, hd, hz.gr H.gr⟩ fun w4 g4 => ?_
  have H := H.step g4
  cases hb : goodG b
  · simp only [Bool.not_false, go_sem, Nat.reduceEqDiff]
    have hg : twoB a b = false := by simp [twoB, hb]
    rw [bd26 (cells := #[.int .i64 0, .int .i64 0, .slice none 0 0]) rfl]
    refine storeH H 2 rfl sz26 rfl rfl rfl fun w5 H => ?_
    rw [rd_loadVar, ldB_agg agg26 sz26 rfl (H.box 2 rfl)]
    have := hk zeroGram w5 H.gr
    simp only [joinV, hg] at this
    exact this rfl
  simp only [Bool.not_true, go_sem, Nat.reduceEqDiff]
  rw [ldB3 (H.box 0 rfl) rfl]
  rw [ldB3 (H.box 1 rfl) rfl]
  simp only [go_sem, Nat.reduceEqDiff]
  by_cases ht : a.toks = b.toks
  case neg =>
    simp only [ht, decide_false, Bool.not_false, go_sem, Nat.reduceEqDiff]
    have hg : twoB a b = false := by simp [twoB, ht]
    rw [bd26 (cells := #[.int .i64 0, .int .i64 0, .slice none 0 0]) rfl]
    refine storeH H 2 rfl sz26 rfl rfl rfl fun w5 H => ?_
    rw [rd_loadVar, ldB_agg agg26 sz26 rfl (H.box 2 rfl)]
    have := hk zeroGram w5 H.gr
    simp only [joinV, hg] at this
    exact this rfl
  have hg : twoB a b = true := by simp [twoB, ha, hb, ht]
  simp only [ht, decide_true, Bool.not_true, go_sem, Nat.reduceEqDiff]
  rw [ldB3 (H.box 0 rfl) rfl]
  simp only [go_sem, Nat.reduceEqDiff]
  refine buildH H u27 inf3 [.int .i64 1, .int .i64 (IntKind.i64.wrap (1 + a.nons))] (by decide) (by decide) (by simp [Instr.fill, madeCells, Value.cells, rng2]) rfl fun b5 w5 H => ?_
  refine buildH H u35 inf27 [.slice (some ⟨b5, 0, none⟩) 2 2] (by decide) (by decide) (by simp [Instr.fill, madeCells, Value.cells, rng1]) rfl fun b7 w7 H => ?_
  rw [ldB_agg agg26 sz26 rfl (H.box 0 rfl), ldB_agg agg26 sz26 rfl (H.box 1 rfl)]
  refine buildH H u218 inf26 [.int .i64 a.nons, .int .i64 a.toks, .slice Y a.rules.length c, .int .i64 b.nons, .int .i64 b.toks, .slice Z b.rules.length d] (by decide) (by decide) (by simp [Instr.fill, madeCells, Value.cells, rng6]) rfl fun b8 w8 H => ?_
  have hrs : Intss w8 (some ⟨b7, 0, none⟩) [[1, IntKind.i64.wrap (1 + a.nons)]] := by
    have hs := (H.row 4 rfl).src
    refine ⟨by simp, fun _ => rfl, fun j hj => ?_⟩
    match j, hj with
    | 0, _ => exact ⟨_, 2, hs.cell 0 _ rfl, Nat.le_refl _, Own.ints (show Own 3 w8 w.heap.size (some ⟨b5, 0, none⟩) 2 [1, IntKind.i64.wrap (1 + a.nons)] from H.row 3 rfl)⟩
  have hgs : GramsF (fun _ => True) w8 (some ⟨b8, 0, none⟩) [a, b] := by
    have hs := (H.row 5 rfl).src
    refine ⟨by simp, fun _ => rfl, fun _ => trivial, fun j hj => ?_⟩
    match j, hj with
    | 0, _ => exact ⟨Y, c, hs.cell 0 _ rfl, hs.cell 1 _ rfl, hs.cell 2 _ rfl, hc, (hy.gr H.gr).mono fun _ _ => trivial⟩
    | 1, _ => exact ⟨Z, d, hs.cell 3 _ rfl, hs.cell 4 _ rfl, hs.cell 5 _ rfl, hd, (hz.gr H.gr).mono fun _ _ => trivial⟩
  refine beside_c (rl := [[1, IntKind.i64.wrap (1 + a.nons)]]) (gs := [a, b]) hrs (by simp) (fun j hj => by
    match j, hj with
    | 0, _ => simp [rgt]) hgs (by simp) (by simp) (fun j hj => by
    match j, hj with
    | 0, _ => exact ha
    | 1, _ => exact hb) fun v w9 g9 hres => ?_
  have he : madeV (firsts [[1, IntKind.i64.wrap (1 + a.nons)]]) (nextN [a, b] [a, b].length) (gmn [a, b] 0).toks [a, b] = joinV a b := by
    unfold joinV
    rw [if_pos hg]
    rfl
  rw [he] at hres ⊢
  have H' := H.step g9
  obtain ⟨x, y, z, rfl, hx1, hy1, hz1⟩ := hres.three
  simp only [go_sem, Nat.reduceEqDiff]
  refine do_store sz26 rfl (by intro u hu; simp [Value.cells] at hu; rcases hu with rfl | rfl | rfl <;> assumption) (H'.box 2 rfl) (by decide) fun w10 g10 s10 h10 => ?_
  rw [rd_loadVar, ldB_agg agg26 sz26 rfl h10]
  refine hk _ w10 (gr_put H'.gr g10 ((H.ok 2 _ rfl).lo b3 rfl)) ?_
  have := hres.put (H'.box 2 rfl) (by decide) (by decide) g10
  cases hs : joinV a b with
  | none => rw [hs] at this; exact this
  | some m =>
    rw [hs] at this
    exact GramO.mono this H.gr.size
theorem implUnionOf_c {F E : Nat → Prop} {w : World} {v u : Value} {a b : Gram} (hv : GramV F w v a) (hu : GramV E w u b) {k : Value → World → Prop}
    (hk : ∀ v w', Gr w w' → GramR w' w.heap.size v (unionV a b) → k (.tuple #[v, .bool (unionV a b).isSome]) w') :
    CallK Try.prog 37 [v, u] k w := by
  obtain ⟨Y, c, rfl, hc, hy⟩ := hv
  obtain ⟨Z, d, rfl, hd, hz⟩ := hu
  refine enter37 ?_
  unfold S37
  have H := Apt.nil w
  refine boxH H fun b1 w1 H => ?_
  refine boxH H fun b2 w2 H => ?_
  refine allocH H inf26 fun b3 w3 H => ?_
  rw [ldB_agg agg26 sz26 rfl (H.box 0 rfl)]
  refine isGrammar_c (gm := a) ⟨Y, c, rfl, hc, hy.gr H.gr⟩ fun w4 g4 => ?_
  have H := H.step g4
  cases ha : goodG a
  · simp only [Bool.not_false, go_sem, Nat.reduceEqDiff]
    have hg : twoB a b = false := by simp [twoB, ha]
    rw [bd26 (cells := #[.int .i64 0, .int .i64 0, .slice none 0 0]) rfl]
    refine storeH H 2 rfl sz26 rfl rfl rfl fun w5 H => ?_
    rw [rd_loadVar, ldB_agg agg26 sz26 rfl (H.box 2 rfl)]
    have := hk zeroGram w5 H.gr
    simp only [unionV, hg] at this
    exact this rfl
  simp only [Bool.not_true, go_sem, Nat.reduceEqDiff]
  rw [ldB_agg agg26 sz26 rfl (H.box 1 rfl)]
  refine isGrammar_c (gm := b) ⟨Z, d, rfl, hd, hz.gr H.gr⟩ fun w4 g4 => ?_
  have H := H.step g4
  cases hb : goodG b
  · simp only [Bool.not_false, go_sem, Nat.reduceEqDiff]
    have hg : twoB a b = false := by simp [twoB, hb]
    rw [bd26 (cells := #[.int .i64 0, .int .i64 0, .slice none 0 0]) rfl]
    refine storeH H 2 rfl sz26 rfl rfl rfl fun w5 H => ?_
    rw [rd_loadVar, ldB_agg agg26 sz26 rfl (H.box 2 rfl)]
    have := hk zeroGram w5 H.gr
    simp only [unionV, hg] at this
    exact this rfl
  simp only [Bool.not_true, go_sem, Nat.reduceEqDiff]
  rw [ldB3 (H.box 0 rfl) rfl]
  rw [ldB3 (H.box 1 rfl) rfl]
  simp only [go_sem, Nat.reduceEqDiff]
  by_cases ht : a.toks = b.toks
  case neg =>
    simp only [ht, decide_false, Bool.not_false, go_sem, Nat.reduceEqDiff]
    have hg : twoB a b = false := by simp [twoB, ht]
    rw [bd26 (cells := #[.int .i64 0, .int .i64 0, .slice none 0 0]) rfl]
    refine storeH H 2 rfl sz26 rfl rfl rfl fun w5 H => ?_
    rw [rd_loadVar, ldB_agg agg26 sz26 rfl (H.box 2 rfl)]
    have := hk zeroGram w5 H.gr
    simp only [unionV, hg] at this
    exact this rfl
  have hg : twoB a b = true := by simp [twoB, ha, hb, ht]
  simp only [ht, decide_true, Bool.not_true, go_sem, Nat.reduceEqDiff]
  refine buildH H u27 inf3 [.int .i64 1] (by decide) (by decide) (by simp [Instr.fill, madeCells, Value.cells, rng1]) rfl fun b5 w5 H => ?_
  rw [ldB3 (H.box 0 rfl) rfl]
  simp only [go_sem, Nat.reduceEqDiff]
  refine buildH H u27 inf3 [.int .i64 (IntKind.i64.wrap (1 + a.nons))] (by decide) (by decide) (by simp [Instr.fill, madeCells, Value.cells, rng1]) rfl fun b6 w6 H => ?_
  refine buildH H u35 inf27 [.slice (some ⟨b5, 0, none⟩) 1 1, .slice (some ⟨b6, 0, none⟩) 1 1] (by decide) (by decide) (by simp [Instr.fill, madeCells, Value.cells, rng2]) rfl fun b7 w7 H => ?_
  rw [ldB_agg agg26 sz26 rfl (H.box 0 rfl), ldB_agg agg26 sz26 rfl (H.box 1 rfl)]
  refine buildH H u218 inf26 [.int .i64 a.nons, .int .i64 a.toks, .slice Y a.rules.length c, .int .i64 b.nons, .int .i64 b.toks, .slice Z b.rules.length d] (by decide) (by decide) (by simp [Instr.fill, madeCells, Value.cells, rng6]) rfl fun b8 w8 H => ?_
  have hrs : Intss w8 (some ⟨b7, 0, none⟩) [[1], [IntKind.i64.wrap (1 + a.nons)]] := by
    have hs := (H.row 5 rfl).src
    refine ⟨by simp, fun _ => rfl, fun j hj => ?_⟩
    match j, hj with
    | 0, _ => exact ⟨_, 1, hs.cell 0 _ rfl, Nat.le_refl _, Own.ints (show Own 3 w8 w.heap.size (some ⟨b5, 0, none⟩) 1 [1] from H.row 3 rfl)⟩
    | 1, _ => exact ⟨_, 1, hs.cell 1 _ rfl, Nat.le_refl _, Own.ints (show Own 3 w8 w.heap.size (some ⟨b6, 0, none⟩) 1 [IntKind.i64.wrap (1 + a.nons)] from H.row 4 rfl)⟩
  have hgs : GramsF (fun _ => True) w8 (some ⟨b8, 0, none⟩) [a, b] := by
    have hs := (H.row 6 rfl).src
    refine ⟨by simp, fun _ => rfl, fun _ => trivial, fun j hj => ?_⟩
    match j, hj with
    | 0, _ => exact ⟨Y, c, hs.cell 0 _ rfl, hs.cell 1 _ rfl, hs.cell 2 _ rfl, hc, (hy.gr H.gr).mono fun _ _ => trivial⟩
    | 1, _ => exact ⟨Z, d, hs.cell 3 _ rfl, hs.cell 4 _ rfl, hs.cell 5 _ rfl, hd, (hz.gr H.gr).mono fun _ _ => trivial⟩
  refine beside_c (rl := [[1], [IntKind.i64.wrap (1 + a.nons)]]) (gs := [a, b]) hrs (by simp) (fun j hj => by
    match j, hj with
    | 0, _ => simp [rgt]
    | 1, _ => simp [rgt]) hgs (by simp) (by simp) (fun j hj => by
    match j, hj with
    | 0, _ => exact ha
    | 1, _ => exact hb) fun v w9 g9 hres => ?_
  have he : madeV (firsts [[1], [IntKind.i64.wrap (1 + a.nons)]]) (nextN [a, b] [a, b].length) (gmn [a, b] 0).toks [a, b] = unionV a b := by
    unfold unionV
    rw [if_pos hg]
    rfl
  rw [he] at hres ⊢
  have H' := H.step g9
  obtain ⟨x, y, z, rfl, hx1, hy1, hz1⟩ := hres.three
  simp only [go_sem, Nat.reduceEqDiff]
  refine do_store sz26 rfl (by intro u hu; simp [Value.cells] at hu; rcases hu with rfl | rfl | rfl <;> assumption) (H'.box 2 rfl) (by decide) fun w10 g10 s10 h10 => ?_
  rw [rd_loadVar, ldB_agg agg26 sz26 rfl h10]
  refine hk _ w10 (gr_put H'.gr g10 ((H.ok 2 _ rfl).lo b3 rfl)) ?_
  have := hres.put (H'.box 2 rfl) (by decide) (by decide) g10
  cases hs : unionV a b with
  | none => rw [hs] at this; exact this
  | some m =>
    rw [hs] at this
    exact GramO.mono this H.gr.size
end Go.Proofs.Ytegcjkhebecgbaa

/- Plain: languages of unions, of what is joined, of what comes again and again. -/
set_option linter.unusedVariables false
set_option linter.unusedSimpArgs false
set_option maxRecDepth 100000
namespace Go.Sh
open Go
theorem good_rulesB {gm : Gram} (hg : goodG gm = true) : ∀ r ∈ gm.rules, (0 ≤ r.1 ∧ r.1 < gm.nons) ∧ r.2.length ≤ 4 ∧ ∀ x ∈ r.2, -gm.toks ≤ x ∧ x < gm.nons := fun r hr => by
  obtain ⟨i, hi, rfl⟩ := List.getElem_of_mem hr
  have h1 := good_left hg hi
  have h2 := good_rights hg hi
  rw [rul_eq hi] at h1 h2
  exact ⟨by omega, h2.1, fun x hx => by have := h2.2 x hx; omega⟩
theorem inL_yi {gm : Gram} {ws : List Int} (hg : goodG gm = true) (hw : ws.length ≤ 10) : inL gm.rules ws = true ↔ Yi gm.rules (.inl 0) ws := by
  unfold inL
  rw [span_iff (good_lefts hg) (good_left6 hg) hw (Nat.le_refl _), der_yi (Nat.zero_le _) (Nat.le_refl _), cut_all]
theorem yi_one {rs : List RuleL} {x : Int} {u : List Int} (hx : ¬ x < 0) : Yi rs (.inr [x]) u ↔ Yi rs (.inl x.toNat) u := by
  rw [yi_non hx]
  constructor
  · rintro ⟨v, z, rfl, h1, h2⟩
    rw [yi_nil] at h2
    subst h2
    rwa [List.append_nil]
  · exact fun h => ⟨u, [], (List.append_nil u).symm, h, .nil⟩
theorem shiftR_map {gm : Gram} (hg : goodG gm = true) {d : Nat} (hd : d ≤ 100) : ∀ r ∈ gm.rules, shiftR (d : Int) r = (r.1 + (d : Int), r.2.map (mapX fun a => a + d)) := fun r hr => by
  have h := good_rulesB hg r hr
  have hn := good_nons hg
  have ht := good_toks hg
  unfold shiftR
  rw [i64_of (by omega) (by omega)]
  congr 1
  refine List.map_congr_left fun x hx => ?_
  have hx' := h.2.2 x hx
  unfold shiftS mapX
  by_cases h0 : x < 0
  · rw [if_neg (by omega), if_pos h0]
  · rw [if_pos (by omega), if_neg h0, i64_of (by omega) (by omega)]
    show x + (d : Int) = ((x.toNat + d : Nat) : Int)
    omega
/-- A grammar within another one, moved. -/
theorem yi_shift {gm : Gram} (hg : goodG gm = true) {d : Nat} (hd : d ≤ 100) {us : List RuleL} (hin : ∀ r ∈ gm.rules, shiftR (d : Int) r ∈ us) (hout : ∀ u ∈ us, (d : Int) ≤ u.1 → u.1 < d + gm.nons → u ∈ gm.rules.map (shiftR (d : Int))) {w : List Int} : Yi us (.inl d) w ↔ Yi gm.rules (.inl 0) w := by
  have hn := good_nons hg
  have := yi_map (rs := gm.rules) (us := us) (f := fun a => a + d) (D := fun a => (a : Int) < gm.nons)
    (fun r hr A hA hD x hx h0 => by have := (good_rulesB hg r hr).2.2 x hx; omega)
    (fun r hr A hA hD => by
      have h1 := hin r hr
      rw [shiftR_map hg hd r hr, hA] at h1
      rw [show ((A + d : Nat) : Int) = (A : Int) + (d : Int) from by omega]
      exact h1)
    (fun u hu A hD hA => by
      have := hout u hu (by omega) (by omega)
      rw [List.mem_map] at this
      obtain ⟨r, hr, rfl⟩ := this
      rw [shiftR_map hg hd r hr] at hA ⊢
      exact ⟨r, hr, by dsimp only at hA; omega, rfl⟩) (A := 0) (by omega) (w := w)
  rw [Nat.zero_add] at this
  exact this
theorem shift_left {gm : Gram} (hg : goodG gm = true) {d : Nat} (hd : d ≤ 100) {u : RuleL} (hu : u ∈ gm.rules.map (shiftR (d : Int))) : (d : Int) ≤ u.1 ∧ u.1 < d + gm.nons := by
  rw [List.mem_map] at hu
  obtain ⟨r, hr, rfl⟩ := hu
  rw [shiftR_map hg hd r hr]
  have := (good_rulesB hg r hr).1
  dsimp only
  omega
theorem two_good {a b : Gram} (h : twoB a b = true) : goodG a = true ∧ goodG b = true ∧ a.toks = b.toks := by
  simp only [twoB, Bool.and_eq_true, decide_eq_true_eq] at h
  exact ⟨h.1.1, h.1.2, h.2⟩
theorem made_two {first : List RuleL} {nons toks : Int} {a b : Gram} {u : Gram} (ha : goodG a = true) (h : madeV first nons toks [a, b] = some u) :
    goodG u = true ∧ u.toks = toks ∧ u.rules = first ++ a.rules.map (shiftR (1 : Nat)) ++ b.rules.map (shiftR ((1 + a.nons.toNat : Nat) : Int)) := by
  unfold madeV at h
  split at h
  · rename_i hg
    have e := Option.some.inj h
    subst e
    refine ⟨hg, rfl, ?_⟩
    have hn := good_nons ha
    show first ++ shiftRs 1 a.rules ++ shiftRs (IntKind.i64.wrap (1 + a.nons)) b.rules = _
    rw [i64_of (by omega) (by omega), show (1 : Int) + a.nons = ((1 + a.nons.toNat : Nat) : Int) from by omega]
    rfl
  · cases h
theorem beside_parts {first : List RuleL} {a b u : Gram} (ha : goodG a = true) (hb : goodG b = true) (hr : u.rules = first ++ a.rules.map (shiftR (1 : Nat)) ++ b.rules.map (shiftR ((1 + a.nons.toNat : Nat) : Int))) (hf : ∀ r ∈ first, r.1 = 0) {w : List Int} :
    (Yi u.rules (.inl 1) w ↔ Yi a.rules (.inl 0) w) ∧ (Yi u.rules (.inl (1 + a.nons.toNat)) w ↔ Yi b.rules (.inl 0) w) ∧ (∀ r, r ∈ u.rules ∧ r.1 = 0 ↔ r ∈ first) := by
  have hna := good_nons ha
  have hnb := good_nons hb
  have hla := fun r hr => shift_left ha (d := 1) (u := r) (by omega) hr
  have hlb := fun r hr => shift_left hb (d := 1 + a.nons.toNat) (u := r) (by omega) hr
  refine ⟨yi_shift ha (d := 1) (by omega) (fun r hr' => ?_) fun q hq h1 h2 => ?_, yi_shift hb (d := 1 + a.nons.toNat) (by omega) (fun r hr' => ?_) fun q hq h1 h2 => ?_, fun r => ?_⟩
  · rw [hr]
    exact List.mem_append_left _ (List.mem_append_right _ (List.mem_map.2 ⟨r, hr', rfl⟩))
  · rw [hr, List.mem_append, List.mem_append] at hq
    rcases hq with (hq | hq) | hq
    · have := hf q hq
      omega
    · exact hq
    · have := hlb q hq
      omega
  · rw [hr]
    exact List.mem_append_right _ (List.mem_map.2 ⟨r, hr', rfl⟩)
  · rw [hr, List.mem_append, List.mem_append] at hq
    rcases hq with (hq | hq) | hq
    · have := hf q hq
      omega
    · have := hla q hq
      omega
    · exact hq
  · rw [hr, List.mem_append, List.mem_append]
    constructor
    · rintro ⟨(h | h) | h, h0⟩
      · exact h
      · have := hla r h
        omega
      · have := hlb r h
        omega
    · exact fun h => ⟨.inl (.inl h), hf r h⟩
theorem union_in {a b u : Gram} (h : unionV a b = some u) : goodG a = true ∧ goodG b = true ∧ goodG u = true ∧ u.toks = a.toks ∧ b.toks = a.toks ∧ ∀ w : List Int, w.length ≤ 10 → inL u.rules w = (inL a.rules w || inL b.rules w) := by
  unfold unionV at h
  split at h
  · rename_i ht
    obtain ⟨ha, hb, hab⟩ := two_good ht
    obtain ⟨hu, htk, hr⟩ := made_two ha h
    refine ⟨ha, hb, hu, htk, hab.symm, fun w hw => ?_⟩
    have hna := good_nons ha
    have hfirst : unionFirst a = [(0, [1]), (0, [((1 + a.nons.toNat : Nat) : Int)])] := by
      unfold unionFirst
      rw [i64_of (by omega) (by omega), show (1 : Int) + a.nons = ((1 + a.nons.toNat : Nat) : Int) from by omega]
    rw [hfirst] at hr
    obtain ⟨p1, p2, p3⟩ := beside_parts ha hb hr (by simp) (w := w)
    rw [Bool.eq_iff_iff, Bool.or_eq_true, inL_yi hu hw, inL_yi ha hw, inL_yi hb hw, ← p1, ← p2, yi_rule]
    constructor
    · rintro ⟨r, h1, h2, h3⟩
      have := (p3 r).1 ⟨h1, h2⟩
      simp only [List.mem_cons, List.not_mem_nil, or_false] at this
      rcases this with rfl | rfl
      · exact .inl ((yi_one (by decide)).1 h3)
      · exact .inr (by have := (yi_one (by omega)).1 h3; rwa [Int.toNat_natCast] at this)
    · rintro (h1 | h1)
      · have := (p3 (0, [1])).2 (by simp)
        exact ⟨_, this.1, rfl, (yi_one (by decide)).2 h1⟩
      · have := (p3 (0, [((1 + a.nons.toNat : Nat) : Int)])).2 (by simp)
        exact ⟨_, this.1, rfl, (yi_one (by omega)).2 (by rwa [Int.toNat_natCast])⟩
  · cases h
theorem join_in {a b u : Gram} (h : joinV a b = some u) : goodG a = true ∧ goodG b = true ∧ goodG u = true ∧ u.toks = a.toks ∧ b.toks = a.toks ∧ ∀ w : List Int, w.length ≤ 10 → inL u.rules w = (List.range (w.length + 1)).any fun k => inL a.rules (w.take k) && inL b.rules (w.drop k) := by
  unfold joinV at h
  split at h
  · rename_i ht
    obtain ⟨ha, hb, hab⟩ := two_good ht
    obtain ⟨hu, htk, hr⟩ := made_two ha h
    refine ⟨ha, hb, hu, htk, hab.symm, fun w hw => ?_⟩
    have hna := good_nons ha
    have hfirst : joinFirst a = [(0, [1, ((1 + a.nons.toNat : Nat) : Int)])] := by
      unfold joinFirst
      rw [i64_of (by omega) (by omega), show (1 : Int) + a.nons = ((1 + a.nons.toNat : Nat) : Int) from by omega]
    rw [hfirst] at hr
    have P := fun w => beside_parts ha hb hr (by simp) (w := w)
    rw [Bool.eq_iff_iff, inL_yi hu hw, yi_rule, List.any_eq_true]
    constructor
    · rintro ⟨r, h1, h2, h3⟩
      have := ((P w).2.2 r).1 ⟨h1, h2⟩
      simp only [List.mem_cons, List.not_mem_nil, or_false] at this
      subst this
      obtain ⟨x, z, e, h4, h5⟩ := (yi_non (by decide)).1 h3
      have h5 := (yi_one (by omega)).1 h5
      rw [Int.toNat_natCast] at h5
      have h4 := (P x).1.1 h4
      have h5 := (P z).2.1.1 h5
      have hl : w.length = x.length + z.length := by rw [e, List.length_append]
      refine ⟨x.length, List.mem_range.2 (by omega), ?_⟩
      rw [Bool.and_eq_true, e, List.take_left', List.drop_left']
      · exact ⟨(inL_yi ha (by omega)).2 h4, (inL_yi hb (by omega)).2 h5⟩
      · rfl
      · rfl
    · rintro ⟨q, _, hq⟩
      rw [Bool.and_eq_true] at hq
      have h4 := (inL_yi ha (by simp; omega)).1 hq.1
      have h5 := (inL_yi hb (by simp; omega)).1 hq.2
      have := ((P w).2.2 (0, [1, ((1 + a.nons.toNat : Nat) : Int)])).2 (by simp)
      refine ⟨_, this.1, rfl, ?_⟩
      refine (yi_non (by decide)).2 ⟨w.take q, w.drop q, (List.take_append_drop q w).symm, (P _).1.2 h4, (yi_one (by omega)).2 ?_⟩
      rw [Int.toNat_natCast]
      exact (P _).2.1.2 h5
  · cases h
theorem star_in {a u : Gram} (h : starV a = some u) : goodG a = true ∧ goodG u = true ∧ u.toks = a.toks ∧ inL u.rules [] = true ∧ ∀ v w : List Int, v.length ≤ 5 → w.length ≤ 5 → inL a.rules v = true → inL a.rules w = true → inL u.rules (v ++ w) = true := by
  unfold starV at h
  split at h
  · rename_i ha
    unfold madeV at h
    split at h
    · rename_i hg
      have e := Option.some.inj h
      have hn := good_nons ha
      have hr : u.rules = starFirst ++ a.rules.map (shiftR (1 : Nat)) := by rw [← e]; rfl
      rw [e] at hg
      have hu : goodG u = true := hg
      have hla := fun r hr => shift_left ha (d := 1) (u := r) (by omega) hr
      have p1 : ∀ w, Yi u.rules (.inl 1) w ↔ Yi a.rules (.inl 0) w := fun w => yi_shift ha (d := 1) (by omega) (fun r hr' => by rw [hr]; exact List.mem_append_right _ (List.mem_map.2 ⟨r, hr', rfl⟩)) fun q hq h1 h2 => by
        rw [hr, List.mem_append] at hq
        rcases hq with hq | hq
        · simp [starFirst] at hq
          rcases hq with rfl | rfl <;> simp at h1
        · exact hq
      have m0 : ((0 : Int), ([] : List Int)) ∈ u.rules := by rw [hr]; exact List.mem_append_left _ (by simp [starFirst])
      have m1 : ((0 : Int), [(1 : Int), 0]) ∈ u.rules := by rw [hr]; exact List.mem_append_left _ (by simp [starFirst])
      have y0 : Yi u.rules (.inl 0) [] := .rule m0 rfl .nil
      have more : ∀ v w, Yi a.rules (.inl 0) v → Yi u.rules (.inl 0) w → Yi u.rules (.inl 0) (v ++ w) := fun v w h1 h2 =>
        .rule m1 rfl ((yi_non (by decide)).2 ⟨v, w, rfl, (p1 v).2 h1, (yi_one (by decide)).2 h2⟩)
      refine ⟨ha, hu, by rw [← e], (inL_yi hu (by simp)).2 y0, fun v w hv hw h1 h2 => ?_⟩
      have h1 := (inL_yi ha (by omega)).1 h1
      have h2 := (inL_yi ha (by omega)).1 h2
      refine (inL_yi hu (by rw [List.length_append]; omega)).2 (more v w h1 ?_)
      have := more w [] h2 y0
      rwa [List.append_nil] at this
    · cases h
  · cases h
end Go.Sh

/- The law of Beside. -/
set_option linter.unusedVariables false
set_option linter.unusedSimpArgs false
set_option maxRecDepth 100000
namespace Go.Sh
open Go
theorem inLV_of {gm : Gram} {ws : List Int} (hg : goodG gm = true) (hw : wordB gm.toks ws = true) : inLV gm ws = (inL gm.rules ws, true) := by
  unfold inLV wordG
  rw [hg, hw, if_pos (by rfl)]
theorem wordB_take {toks : Int} {ws : List Int} (h : wordB toks ws = true) (i : Nat) : wordB toks (ws.take i) = true := by
  have h := wordB_of h
  simp only [wordB, allB, inB, Bool.and_eq_true, decide_eq_true_eq, List.all_eq_true]
  exact ⟨by simp; omega, fun t ht => h.2 t (List.mem_of_mem_take ht)⟩
theorem wordB_drop {toks : Int} {ws : List Int} (h : wordB toks ws = true) (i : Nat) : wordB toks (ws.drop i) = true := by
  have h := wordB_of h
  simp only [wordB, allB, inB, Bool.and_eq_true, decide_eq_true_eq, List.all_eq_true]
  exact ⟨by simp; omega, fun t ht => h.2 t (List.mem_of_mem_drop ht)⟩
theorem wordB_append {toks : Int} {v w : List Int} (hv : wordB toks v = true) (hw : wordB toks w = true) (hl : v.length + w.length ≤ 10) : wordB toks (v ++ w) = true := by
  have hv := wordB_of hv
  have hw := wordB_of hw
  simp only [wordB, allB, inB, Bool.and_eq_true, decide_eq_true_eq, List.all_eq_true]
  refine ⟨by simp; omega, fun t ht => ?_⟩
  rcases List.mem_append.1 ht with h | h
  · exact hv.2 t h
  · exact hw.2 t h
theorem range_any_succ (p : Nat → Bool) (i : Nat) : (List.range (i + 1)).any p = ((List.range i).any p || p i) := by
  rw [List.range_succ, List.any_append]
  simp
end Go.Sh
namespace Go.Proofs.Ytegcjkhebecgbaa
open Go Go.Sh Go.RowKit
section
variable {w : World} {L : List (World → Prop)} {k : Value → World → Prop} {Y X : Option Addr} {cy cx n : Nat} {gm : Gram} {ws : List Int}
theorem gvB (h : kG Y cy gm.rules w) : GramV (fun q => q < w.heap.size) w (grv gm Y cy) gm := ⟨Y, cy, rfl, h.1, h.2.bound⟩
theorem implInLanguage_n (hG : kG Y cy gm.rules w) (hX : kI X ws cx w) (hn : n = ws.length) (hk : ∀ w', Gr w w' → k (.tuple #[.bool (inLV gm ws).1, .bool (inLV gm ws).2]) w') :
    CallK Try.prog 26 [grv gm Y cy, .slice X n cx] k w := by
  subst hn
  exact implInLanguage_c hG hX hk
theorem newG2 {k : Value → Value → World → Prop} (H : Kn w L) {gm g2 : Gram} {Y Z : Option Addr} {cy cz : Nat} (h : ∀ b c w', Kn w' ((L ++ [kB b [.int .i64 gm.nons, .int .i64 gm.toks, .slice Y gm.rules.length cy] 26]) ++ [kB c [.int .i64 g2.nons, .int .i64 g2.toks, .slice Z g2.rules.length cz] 26]) → k (ptrv b) (ptrv c) w') :
    Do Try.prog (sAlloc 26) (fun p w1 => Do Try.prog (sAlloc 26) (fun q w2 => Do Try.prog (sStore 26 p (grv gm Y cy)) (fun _ w3 => Do Try.prog (sStore 26 q (grv g2 Z cz)) (fun _ w4 => k p q w4) w3) w2) w1) w := by
  have A := Apt.nil w
  refine allocH A inf26 fun b w1 A => ?_
  refine allocH A inf26 fun c w2 A => ?_
  simp only [List.nil_append, List.cons_append] at A
  refine storeH A 0 rfl sz26 rfl rfl rfl fun w3 A => ?_
  have A : Apt w w3 [bx b [.int .i64 gm.nons, .int .i64 gm.toks, .slice Y gm.rules.length cy] 26, bx c zg 26] := A
  refine storeH A 1 rfl sz26 rfl rfl rfl fun w4 A => ?_
  have A : Apt w w4 [bx b [.int .i64 gm.nons, .int .i64 gm.toks, .slice Y gm.rules.length cy] 26, bx c [.int .i64 g2.nons, .int .i64 g2.toks, .slice Z g2.rules.length cz] 26] := A
  exact h b c w4 (((H.step A.gr).addB (A.box 0 rfl)).addB (A.box 1 rfl))
end
set_option maxHeartbeats 12800000 in
theorem law_Beside {w : World} {C D : Option Addr} {cap cap' : Nat} {bs es : List Int} (hC : Byts w C bs) (hD : Byts w D es) {k : Value → World → Prop} (hk : ∀ w', Gr w w' → k (.bool true) w') :
    CallK Try.prog 5 [.slice C bs.length cap, .slice D es.length cap'] k w := by
  refine enter5 ?_
  unfold S5
  have H := knC (knC (Kn.nil w) hC) hD
  refine big_c hC.le hD.le fun b => ?_
  cases b
  case true => exact hk _ (H.get 0 rfl)
  simp only [cond_false']
  refine drawUnionOf_c (H.get 1 rfl) fun w2 g1 g2 Y1 c1 ft1 Y2 c2 ft2 hd1 hd2 hc1 hc2 A => ?_
  have H := ((H.step A.gr).addG hc1 ((A.rdr 1 rfl).mono fun _ _ => trivial)).addG hc2 ((A.rdr 0 rfl).mono fun _ _ => trivial)
  clear A
  simp only [bin_add, bin_sub, bin_mul, bin_eql, bin_neq, bin_lss, bin_leq, bin_gtr, bin_geq, un_not, un_neg, pick_true, pick_false, extract_two_0, extract_two_1, nilCheck_pointer, cond_true', cond_false', guard_tt, guard_ff, guard_tf, guard_ft, guard_undef, seqQ_normal, seqQ_ret, seqQ_exit, blockQ_ret, blockQ_normal, blockQ_exit, bodyQ_ret, bodyQ_normal, resK_nil, resK_tmp, ite_T, ite_F, upd_at, add_plain, add_zero', Nat.reduceEqDiff, fa8_0, fa8_1, fa8_2, fa8_3, fa14_0, fa14_1, fa19_0, len22, len24, fa26_0, fa26_1, fa26_2, len27, fa33_0, fa33_1, len35, fa77_0, fa77_1, fa88_0, fa88_1, fa88_2, fa88_3, fa88_4, fa88_5, fa114_0, fa114_1, fa114_2, fa124_0, fa124_1, len134, len136, len154, fa156_0, fa156_1, fa156_2, fa156_3, fa156_4, fa156_5, fa156_6, fa184_0, fa184_1, fa200_0, fa200_1, fa200_2, fa200_3, fa215_0, fa215_1, fa215_2, fa215_3, fa215_4, len218, len271, fa274_0, fa274_1, fa274_2, fa303_0, fa303_1, fa303_2, fa303_3, fa314_0, fa314_1, fa314_2, fa314_3, fa314_4, fa314_5, fa314_6, fa314_7, fa314_8, fa314_9, fa314_10]
  refine newG2 H fun bg bh w3 H => ?_
  simp only [List.cons_append, List.nil_append] at H
  rw [ldB_agg agg26 sz26 rfl (H.get 5 rfl), ldB_agg agg26 sz26 rfl (H.get 6 rfl)]
  refine implUnionOf_c (gvK (H.get 3 rfl)) (gvK (H.get 4 rfl)) fun v w4 g hR => ?_
  obtain ⟨X3, c3, rfl, hc3, hR⟩ := GramR.readK hR
  have H := (H.step g).addG hc3 (hR.mono fun _ _ => trivial)
  simp only [List.cons_append, List.nil_append] at H
  simp only [bin_add, bin_sub, bin_mul, bin_eql, bin_neq, bin_lss, bin_leq, bin_gtr, bin_geq, un_not, un_neg, pick_true, pick_false, extract_two_0, extract_two_1, nilCheck_pointer, cond_true', cond_false', guard_tt, guard_ff, guard_tf, guard_ft, guard_undef, seqQ_normal, seqQ_ret, seqQ_exit, blockQ_ret, blockQ_normal, blockQ_exit, bodyQ_ret, bodyQ_normal, resK_nil, resK_tmp, ite_T, ite_F, upd_at, add_plain, add_zero', Nat.reduceEqDiff, fa8_0, fa8_1, fa8_2, fa8_3, fa14_0, fa14_1, fa19_0, len22, len24, fa26_0, fa26_1, fa26_2, len27, fa33_0, fa33_1, len35, fa77_0, fa77_1, fa88_0, fa88_1, fa88_2, fa88_3, fa88_4, fa88_5, fa114_0, fa114_1, fa114_2, fa124_0, fa124_1, len134, len136, len154, fa156_0, fa156_1, fa156_2, fa156_3, fa156_4, fa156_5, fa156_6, fa184_0, fa184_1, fa200_0, fa200_1, fa200_2, fa200_3, fa215_0, fa215_1, fa215_2, fa215_3, fa215_4, len218, len271, fa274_0, fa274_1, fa274_2, fa303_0, fa303_1, fa303_2, fa303_3, fa314_0, fa314_1, fa314_2, fa314_3, fa314_4, fa314_5, fa314_6, fa314_7, fa314_8, fa314_9, fa314_10]
  refine newG H fun bu w5 H => ?_
  simp only [List.cons_append, List.nil_append] at H
  rw [ldB_agg agg26 sz26 rfl (H.get 5 rfl), ldB_agg agg26 sz26 rfl (H.get 6 rfl)]
  refine specUnionOf_c (gvB (H.get 3 rfl)) (gvB (H.get 4 rfl)) (fun q hq => hq) (fun q hq => hq) fun v w6 g hR => ?_
  obtain ⟨X4, c4, rfl, hc4, hR⟩ := GramR.readK hR
  have H := (H.step g).addG hc4 (hR.mono fun _ _ => trivial)
  simp only [List.cons_append, List.nil_append] at H
  simp only [bin_add, bin_sub, bin_mul, bin_eql, bin_neq, bin_lss, bin_leq, bin_gtr, bin_geq, un_not, un_neg, pick_true, pick_false, extract_two_0, extract_two_1, nilCheck_pointer, cond_true', cond_false', guard_tt, guard_ff, guard_tf, guard_ft, guard_undef, seqQ_normal, seqQ_ret, seqQ_exit, blockQ_ret, blockQ_normal, blockQ_exit, bodyQ_ret, bodyQ_normal, resK_nil, resK_tmp, ite_T, ite_F, upd_at, add_plain, add_zero', Nat.reduceEqDiff, fa8_0, fa8_1, fa8_2, fa8_3, fa14_0, fa14_1, fa19_0, len22, len24, fa26_0, fa26_1, fa26_2, len27, fa33_0, fa33_1, len35, fa77_0, fa77_1, fa88_0, fa88_1, fa88_2, fa88_3, fa88_4, fa88_5, fa114_0, fa114_1, fa114_2, fa124_0, fa124_1, len134, len136, len154, fa156_0, fa156_1, fa156_2, fa156_3, fa156_4, fa156_5, fa156_6, fa184_0, fa184_1, fa200_0, fa200_1, fa200_2, fa200_3, fa215_0, fa215_1, fa215_2, fa215_3, fa215_4, len218, len271, fa274_0, fa274_1, fa274_2, fa303_0, fa303_1, fa303_2, fa303_3, fa314_0, fa314_1, fa314_2, fa314_3, fa314_4, fa314_5, fa314_6, fa314_7, fa314_8, fa314_9, fa314_10]
  refine newG H fun bu2 w7 H => ?_
  simp only [List.cons_append, List.nil_append] at H
  rw [ldB_agg agg26 sz26 rfl (H.get 5 rfl), ldB_agg agg26 sz26 rfl (H.get 6 rfl)]
  refine implJoinOf_c (gvK (H.get 3 rfl)) (gvK (H.get 4 rfl)) fun v w8 g hR => ?_
  obtain ⟨X5, c5, rfl, hc5, hR⟩ := GramR.readK hR
  have H := (H.step g).addG hc5 (hR.mono fun _ _ => trivial)
  simp only [List.cons_append, List.nil_append] at H
  simp only [bin_add, bin_sub, bin_mul, bin_eql, bin_neq, bin_lss, bin_leq, bin_gtr, bin_geq, un_not, un_neg, pick_true, pick_false, extract_two_0, extract_two_1, nilCheck_pointer, cond_true', cond_false', guard_tt, guard_ff, guard_tf, guard_ft, guard_undef, seqQ_normal, seqQ_ret, seqQ_exit, blockQ_ret, blockQ_normal, blockQ_exit, bodyQ_ret, bodyQ_normal, resK_nil, resK_tmp, ite_T, ite_F, upd_at, add_plain, add_zero', Nat.reduceEqDiff, fa8_0, fa8_1, fa8_2, fa8_3, fa14_0, fa14_1, fa19_0, len22, len24, fa26_0, fa26_1, fa26_2, len27, fa33_0, fa33_1, len35, fa77_0, fa77_1, fa88_0, fa88_1, fa88_2, fa88_3, fa88_4, fa88_5, fa114_0, fa114_1, fa114_2, fa124_0, fa124_1, len134, len136, len154, fa156_0, fa156_1, fa156_2, fa156_3, fa156_4, fa156_5, fa156_6, fa184_0, fa184_1, fa200_0, fa200_1, fa200_2, fa200_3, fa215_0, fa215_1, fa215_2, fa215_3, fa215_4, len218, len271, fa274_0, fa274_1, fa274_2, fa303_0, fa303_1, fa303_2, fa303_3, fa314_0, fa314_1, fa314_2, fa314_3, fa314_4, fa314_5, fa314_6, fa314_7, fa314_8, fa314_9, fa314_10]
  refine newG H fun bj w9 H => ?_
  simp only [List.cons_append, List.nil_append] at H
  rw [ldB_agg agg26 sz26 rfl (H.get 5 rfl), ldB_agg agg26 sz26 rfl (H.get 6 rfl)]
  refine specJoinOf_c (gvB (H.get 3 rfl)) (gvB (H.get 4 rfl)) (fun q hq => hq) (fun q hq => hq) fun v w10 g hR => ?_
  obtain ⟨X6, c6, rfl, hc6, hR⟩ := GramR.readK hR
  have H := (H.step g).addG hc6 (hR.mono fun _ _ => trivial)
  simp only [List.cons_append, List.nil_append] at H
  simp only [bin_add, bin_sub, bin_mul, bin_eql, bin_neq, bin_lss, bin_leq, bin_gtr, bin_geq, un_not, un_neg, pick_true, pick_false, extract_two_0, extract_two_1, nilCheck_pointer, cond_true', cond_false', guard_tt, guard_ff, guard_tf, guard_ft, guard_undef, seqQ_normal, seqQ_ret, seqQ_exit, blockQ_ret, blockQ_normal, blockQ_exit, bodyQ_ret, bodyQ_normal, resK_nil, resK_tmp, ite_T, ite_F, upd_at, add_plain, add_zero', Nat.reduceEqDiff, fa8_0, fa8_1, fa8_2, fa8_3, fa14_0, fa14_1, fa19_0, len22, len24, fa26_0, fa26_1, fa26_2, len27, fa33_0, fa33_1, len35, fa77_0, fa77_1, fa88_0, fa88_1, fa88_2, fa88_3, fa88_4, fa88_5, fa114_0, fa114_1, fa114_2, fa124_0, fa124_1, len134, len136, len154, fa156_0, fa156_1, fa156_2, fa156_3, fa156_4, fa156_5, fa156_6, fa184_0, fa184_1, fa200_0, fa200_1, fa200_2, fa200_3, fa215_0, fa215_1, fa215_2, fa215_3, fa215_4, len218, len271, fa274_0, fa274_1, fa274_2, fa303_0, fa303_1, fa303_2, fa303_3, fa314_0, fa314_1, fa314_2, fa314_3, fa314_4, fa314_5, fa314_6, fa314_7, fa314_8, fa314_9, fa314_10]
  refine newG H fun bj2 w11 H => ?_
  simp only [List.cons_append, List.nil_append] at H
  simp only [bneq, beq_self_eq_true, Bool.not_true, bin_add, bin_sub, bin_mul, bin_eql, bin_neq, bin_lss, bin_leq, bin_gtr, bin_geq, un_not, un_neg, pick_true, pick_false, extract_two_0, extract_two_1, nilCheck_pointer, cond_true', cond_false', guard_tt, guard_ff, guard_tf, guard_ft, guard_undef, seqQ_normal, seqQ_ret, seqQ_exit, blockQ_ret, blockQ_normal, blockQ_exit, bodyQ_ret, bodyQ_normal, resK_nil, resK_tmp, ite_T, ite_F, upd_at, add_plain, add_zero', Nat.reduceEqDiff, fa8_0, fa8_1, fa8_2, fa8_3, fa14_0, fa14_1, fa19_0, len22, len24, fa26_0, fa26_1, fa26_2, len27, fa33_0, fa33_1, len35, fa77_0, fa77_1, fa88_0, fa88_1, fa88_2, fa88_3, fa88_4, fa88_5, fa114_0, fa114_1, fa114_2, fa124_0, fa124_1, len134, len136, len154, fa156_0, fa156_1, fa156_2, fa156_3, fa156_4, fa156_5, fa156_6, fa184_0, fa184_1, fa200_0, fa200_1, fa200_2, fa200_3, fa215_0, fa215_1, fa215_2, fa215_3, fa215_4, len218, len271, fa274_0, fa274_1, fa274_2, fa303_0, fa303_1, fa303_2, fa303_3, fa314_0, fa314_1, fa314_2, fa314_3, fa314_4, fa314_5, fa314_6, fa314_7, fa314_8, fa314_9, fa314_10]
  rw [ldB_agg agg26 sz26 rfl (H.get 8 rfl), ldB_agg agg26 sz26 rfl (H.get 10 rfl)]
  refine sameGrammar_c (H.get 7 rfl) (H.get 9 rfl) fun w12 g => ?_
  have H := H.step g
  simp only [decide_true, bneq, beq_self_eq_true, Bool.not_true, bin_add, bin_sub, bin_mul, bin_eql, bin_neq, bin_lss, bin_leq, bin_gtr, bin_geq, un_not, un_neg, pick_true, pick_false, extract_two_0, extract_two_1, nilCheck_pointer, cond_true', cond_false', guard_tt, guard_ff, guard_tf, guard_ft, guard_undef, seqQ_normal, seqQ_ret, seqQ_exit, blockQ_ret, blockQ_normal, blockQ_exit, bodyQ_ret, bodyQ_normal, resK_nil, resK_tmp, ite_T, ite_F, upd_at, add_plain, add_zero', Nat.reduceEqDiff, fa8_0, fa8_1, fa8_2, fa8_3, fa14_0, fa14_1, fa19_0, len22, len24, fa26_0, fa26_1, fa26_2, len27, fa33_0, fa33_1, len35, fa77_0, fa77_1, fa88_0, fa88_1, fa88_2, fa88_3, fa88_4, fa88_5, fa114_0, fa114_1, fa114_2, fa124_0, fa124_1, len134, len136, len154, fa156_0, fa156_1, fa156_2, fa156_3, fa156_4, fa156_5, fa156_6, fa184_0, fa184_1, fa200_0, fa200_1, fa200_2, fa200_3, fa215_0, fa215_1, fa215_2, fa215_3, fa215_4, len218, len271, fa274_0, fa274_1, fa274_2, fa303_0, fa303_1, fa303_2, fa303_3, fa314_0, fa314_1, fa314_2, fa314_3, fa314_4, fa314_5, fa314_6, fa314_7, fa314_8, fa314_9, fa314_10]
  rw [ldB_agg agg26 sz26 rfl (H.get 12 rfl), ldB_agg agg26 sz26 rfl (H.get 14 rfl)]
  refine sameGrammar_c (H.get 11 rfl) (H.get 13 rfl) fun w13 g => ?_
  have H := H.step g
  simp only [decide_true, Bool.not_true, bin_add, bin_sub, bin_mul, bin_eql, bin_neq, bin_lss, bin_leq, bin_gtr, bin_geq, un_not, un_neg, pick_true, pick_false, extract_two_0, extract_two_1, nilCheck_pointer, cond_true', cond_false', guard_tt, guard_ff, guard_tf, guard_ft, guard_undef, seqQ_normal, seqQ_ret, seqQ_exit, blockQ_ret, blockQ_normal, blockQ_exit, bodyQ_ret, bodyQ_normal, resK_nil, resK_tmp, ite_T, ite_F, upd_at, add_plain, add_zero', Nat.reduceEqDiff, fa8_0, fa8_1, fa8_2, fa8_3, fa14_0, fa14_1, fa19_0, len22, len24, fa26_0, fa26_1, fa26_2, len27, fa33_0, fa33_1, len35, fa77_0, fa77_1, fa88_0, fa88_1, fa88_2, fa88_3, fa88_4, fa88_5, fa114_0, fa114_1, fa114_2, fa124_0, fa124_1, len134, len136, len154, fa156_0, fa156_1, fa156_2, fa156_3, fa156_4, fa156_5, fa156_6, fa184_0, fa184_1, fa200_0, fa200_1, fa200_2, fa200_3, fa215_0, fa215_1, fa215_2, fa215_3, fa215_4, len218, len271, fa274_0, fa274_1, fa274_2, fa303_0, fa303_1, fa303_2, fa303_3, fa314_0, fa314_1, fa314_2, fa314_3, fa314_4, fa314_5, fa314_6, fa314_7, fa314_8, fa314_9, fa314_10]
  have H := H.add (P := fun w' => Gr w13 w') fun w' g => g
  simp only [List.cons_append, List.nil_append] at H
  refine join_as (fun f w' => f 1 = .slice D es.length cap' ∧ Gr w13 w') (fun K hK => ?_) ?_
  · rw [ldB_agg agg26 sz26 rfl (H.get 5 rfl)]
    refine implGoodGrammar_c (H.get 3 rfl) fun w14 g => ?_
    have H := H.step g
    cases hg1 : goodG g1
    · simp only [bin_add, bin_sub, bin_mul, bin_eql, bin_neq, bin_lss, bin_leq, bin_gtr, bin_geq, un_not, un_neg, pick_true, pick_false, extract_two_0, extract_two_1, nilCheck_pointer, cond_true', cond_false', guard_tt, guard_ff, guard_tf, guard_ft, guard_undef, seqQ_normal, seqQ_ret, seqQ_exit, blockQ_ret, blockQ_normal, blockQ_exit, bodyQ_ret, bodyQ_normal, resK_nil, resK_tmp, ite_T, ite_F, upd_at, add_plain, add_zero', Nat.reduceEqDiff, fa8_0, fa8_1, fa8_2, fa8_3, fa14_0, fa14_1, fa19_0, len22, len24, fa26_0, fa26_1, fa26_2, len27, fa33_0, fa33_1, len35, fa77_0, fa77_1, fa88_0, fa88_1, fa88_2, fa88_3, fa88_4, fa88_5, fa114_0, fa114_1, fa114_2, fa124_0, fa124_1, len134, len136, len154, fa156_0, fa156_1, fa156_2, fa156_3, fa156_4, fa156_5, fa156_6, fa184_0, fa184_1, fa200_0, fa200_1, fa200_2, fa200_3, fa215_0, fa215_1, fa215_2, fa215_3, fa215_4, len218, len271, fa274_0, fa274_1, fa274_2, fa303_0, fa303_1, fa303_2, fa303_3, fa314_0, fa314_1, fa314_2, fa314_3, fa314_4, fa314_5, fa314_6, fa314_7, fa314_8, fa314_9, fa314_10]
      exact hK _ _ ⟨rfl, H.get 15 rfl⟩
    simp only [bin_add, bin_sub, bin_mul, bin_eql, bin_neq, bin_lss, bin_leq, bin_gtr, bin_geq, un_not, un_neg, pick_true, pick_false, extract_two_0, extract_two_1, nilCheck_pointer, cond_true', cond_false', guard_tt, guard_ff, guard_tf, guard_ft, guard_undef, seqQ_normal, seqQ_ret, seqQ_exit, blockQ_ret, blockQ_normal, blockQ_exit, bodyQ_ret, bodyQ_normal, resK_nil, resK_tmp, ite_T, ite_F, upd_at, add_plain, add_zero', Nat.reduceEqDiff, fa8_0, fa8_1, fa8_2, fa8_3, fa14_0, fa14_1, fa19_0, len22, len24, fa26_0, fa26_1, fa26_2, len27, fa33_0, fa33_1, len35, fa77_0, fa77_1, fa88_0, fa88_1, fa88_2, fa88_3, fa88_4, fa88_5, fa114_0, fa114_1, fa114_2, fa124_0, fa124_1, len134, len136, len154, fa156_0, fa156_1, fa156_2, fa156_3, fa156_4, fa156_5, fa156_6, fa184_0, fa184_1, fa200_0, fa200_1, fa200_2, fa200_3, fa215_0, fa215_1, fa215_2, fa215_3, fa215_4, len218, len271, fa274_0, fa274_1, fa274_2, fa303_0, fa303_1, fa303_2, fa303_3, fa314_0, fa314_1, fa314_2, fa314_3, fa314_4, fa314_5, fa314_6, fa314_7, fa314_8, fa314_9, fa314_10]
    rw [ldB_agg agg26 sz26 rfl (H.get 6 rfl)]
    refine implGoodGrammar_c (H.get 4 rfl) fun w15 g => ?_
    have H := H.step g
    cases hg2 : goodG g2
    · simp only [bin_add, bin_sub, bin_mul, bin_eql, bin_neq, bin_lss, bin_leq, bin_gtr, bin_geq, un_not, un_neg, pick_true, pick_false, extract_two_0, extract_two_1, nilCheck_pointer, cond_true', cond_false', guard_tt, guard_ff, guard_tf, guard_ft, guard_undef, seqQ_normal, seqQ_ret, seqQ_exit, blockQ_ret, blockQ_normal, blockQ_exit, bodyQ_ret, bodyQ_normal, resK_nil, resK_tmp, ite_T, ite_F, upd_at, add_plain, add_zero', Nat.reduceEqDiff, fa8_0, fa8_1, fa8_2, fa8_3, fa14_0, fa14_1, fa19_0, len22, len24, fa26_0, fa26_1, fa26_2, len27, fa33_0, fa33_1, len35, fa77_0, fa77_1, fa88_0, fa88_1, fa88_2, fa88_3, fa88_4, fa88_5, fa114_0, fa114_1, fa114_2, fa124_0, fa124_1, len134, len136, len154, fa156_0, fa156_1, fa156_2, fa156_3, fa156_4, fa156_5, fa156_6, fa184_0, fa184_1, fa200_0, fa200_1, fa200_2, fa200_3, fa215_0, fa215_1, fa215_2, fa215_3, fa215_4, len218, len271, fa274_0, fa274_1, fa274_2, fa303_0, fa303_1, fa303_2, fa303_3, fa314_0, fa314_1, fa314_2, fa314_3, fa314_4, fa314_5, fa314_6, fa314_7, fa314_8, fa314_9, fa314_10]
      exact hK _ _ ⟨rfl, H.get 15 rfl⟩
    simp only [bin_add, bin_sub, bin_mul, bin_eql, bin_neq, bin_lss, bin_leq, bin_gtr, bin_geq, un_not, un_neg, pick_true, pick_false, extract_two_0, extract_two_1, nilCheck_pointer, cond_true', cond_false', guard_tt, guard_ff, guard_tf, guard_ft, guard_undef, seqQ_normal, seqQ_ret, seqQ_exit, blockQ_ret, blockQ_normal, blockQ_exit, bodyQ_ret, bodyQ_normal, resK_nil, resK_tmp, ite_T, ite_F, upd_at, add_plain, add_zero', Nat.reduceEqDiff, fa8_0, fa8_1, fa8_2, fa8_3, fa14_0, fa14_1, fa19_0, len22, len24, fa26_0, fa26_1, fa26_2, len27, fa33_0, fa33_1, len35, fa77_0, fa77_1, fa88_0, fa88_1, fa88_2, fa88_3, fa88_4, fa88_5, fa114_0, fa114_1, fa114_2, fa124_0, fa124_1, len134, len136, len154, fa156_0, fa156_1, fa156_2, fa156_3, fa156_4, fa156_5, fa156_6, fa184_0, fa184_1, fa200_0, fa200_1, fa200_2, fa200_3, fa215_0, fa215_1, fa215_2, fa215_3, fa215_4, len218, len271, fa274_0, fa274_1, fa274_2, fa303_0, fa303_1, fa303_2, fa303_3, fa314_0, fa314_1, fa314_2, fa314_3, fa314_4, fa314_5, fa314_6, fa314_7, fa314_8, fa314_9, fa314_10]
    rw [ldB3 (H.get 5 rfl) rfl, ldB3 (H.get 6 rfl) rfl]
    simp only [bin_add, bin_sub, bin_mul, bin_eql, bin_neq, bin_lss, bin_leq, bin_gtr, bin_geq, un_not, un_neg, pick_true, pick_false, extract_two_0, extract_two_1, nilCheck_pointer, cond_true', cond_false', guard_tt, guard_ff, guard_tf, guard_ft, guard_undef, seqQ_normal, seqQ_ret, seqQ_exit, blockQ_ret, blockQ_normal, blockQ_exit, bodyQ_ret, bodyQ_normal, resK_nil, resK_tmp, ite_T, ite_F, upd_at, add_plain, add_zero', Nat.reduceEqDiff, fa8_0, fa8_1, fa8_2, fa8_3, fa14_0, fa14_1, fa19_0, len22, len24, fa26_0, fa26_1, fa26_2, len27, fa33_0, fa33_1, len35, fa77_0, fa77_1, fa88_0, fa88_1, fa88_2, fa88_3, fa88_4, fa88_5, fa114_0, fa114_1, fa114_2, fa124_0, fa124_1, len134, len136, len154, fa156_0, fa156_1, fa156_2, fa156_3, fa156_4, fa156_5, fa156_6, fa184_0, fa184_1, fa200_0, fa200_1, fa200_2, fa200_3, fa215_0, fa215_1, fa215_2, fa215_3, fa215_4, len218, len271, fa274_0, fa274_1, fa274_2, fa303_0, fa303_1, fa303_2, fa303_3, fa314_0, fa314_1, fa314_2, fa314_3, fa314_4, fa314_5, fa314_6, fa314_7, fa314_8, fa314_9, fa314_10]
    by_cases ht : g1.toks = g2.toks
    case neg =>
      simp only [ht, decide_false, bin_add, bin_sub, bin_mul, bin_eql, bin_neq, bin_lss, bin_leq, bin_gtr, bin_geq, un_not, un_neg, pick_true, pick_false, extract_two_0, extract_two_1, nilCheck_pointer, cond_true', cond_false', guard_tt, guard_ff, guard_tf, guard_ft, guard_undef, seqQ_normal, seqQ_ret, seqQ_exit, blockQ_ret, blockQ_normal, blockQ_exit, bodyQ_ret, bodyQ_normal, resK_nil, resK_tmp, ite_T, ite_F, upd_at, add_plain, add_zero', Nat.reduceEqDiff, fa8_0, fa8_1, fa8_2, fa8_3, fa14_0, fa14_1, fa19_0, len22, len24, fa26_0, fa26_1, fa26_2, len27, fa33_0, fa33_1, len35, fa77_0, fa77_1, fa88_0, fa88_1, fa88_2, fa88_3, fa88_4, fa88_5, fa114_0, fa114_1, fa114_2, fa124_0, fa124_1, len134, len136, len154, fa156_0, fa156_1, fa156_2, fa156_3, fa156_4, fa156_5, fa156_6, fa184_0, fa184_1, fa200_0, fa200_1, fa200_2, fa200_3, fa215_0, fa215_1, fa215_2, fa215_3, fa215_4, len218, len271, fa274_0, fa274_1, fa274_2, fa303_0, fa303_1, fa303_2, fa303_3, fa314_0, fa314_1, fa314_2, fa314_3, fa314_4, fa314_5, fa314_6, fa314_7, fa314_8, fa314_9, fa314_10]
      exact hK _ _ ⟨rfl, H.get 15 rfl⟩
    simp only [ht, decide_true, bin_add, bin_sub, bin_mul, bin_eql, bin_neq, bin_lss, bin_leq, bin_gtr, bin_geq, un_not, un_neg, pick_true, pick_false, extract_two_0, extract_two_1, nilCheck_pointer, cond_true', cond_false', guard_tt, guard_ff, guard_tf, guard_ft, guard_undef, seqQ_normal, seqQ_ret, seqQ_exit, blockQ_ret, blockQ_normal, blockQ_exit, bodyQ_ret, bodyQ_normal, resK_nil, resK_tmp, ite_T, ite_F, upd_at, add_plain, add_zero', Nat.reduceEqDiff, fa8_0, fa8_1, fa8_2, fa8_3, fa14_0, fa14_1, fa19_0, len22, len24, fa26_0, fa26_1, fa26_2, len27, fa33_0, fa33_1, len35, fa77_0, fa77_1, fa88_0, fa88_1, fa88_2, fa88_3, fa88_4, fa88_5, fa114_0, fa114_1, fa114_2, fa124_0, fa124_1, len134, len136, len154, fa156_0, fa156_1, fa156_2, fa156_3, fa156_4, fa156_5, fa156_6, fa184_0, fa184_1, fa200_0, fa200_1, fa200_2, fa200_3, fa215_0, fa215_1, fa215_2, fa215_3, fa215_4, len218, len271, fa274_0, fa274_1, fa274_2, fa303_0, fa303_1, fa303_2, fa303_3, fa314_0, fa314_1, fa314_2, fa314_3, fa314_4, fa314_5, fa314_6, fa314_7, fa314_8, fa314_9, fa314_10]
    refine drawInLanguage_c (H.get 2 rfl) fun w16 g3 ft3 Y3 cy3 XW cw ws hd3 A => ?_
    have H := knI (knG (H.step A.gr) A 1 rfl) A 0 rfl
    clear A
    simp only [List.cons_append, List.nil_append] at H
    simp only [bin_add, bin_sub, bin_mul, bin_eql, bin_neq, bin_lss, bin_leq, bin_gtr, bin_geq, un_not, un_neg, pick_true, pick_false, extract_two_0, extract_two_1, nilCheck_pointer, cond_true', cond_false', guard_tt, guard_ff, guard_tf, guard_ft, guard_undef, seqQ_normal, seqQ_ret, seqQ_exit, blockQ_ret, blockQ_normal, blockQ_exit, bodyQ_ret, bodyQ_normal, resK_nil, resK_tmp, ite_T, ite_F, upd_at, add_plain, add_zero', Nat.reduceEqDiff, fa8_0, fa8_1, fa8_2, fa8_3, fa14_0, fa14_1, fa19_0, len22, len24, fa26_0, fa26_1, fa26_2, len27, fa33_0, fa33_1, len35, fa77_0, fa77_1, fa88_0, fa88_1, fa88_2, fa88_3, fa88_4, fa88_5, fa114_0, fa114_1, fa114_2, fa124_0, fa124_1, len134, len136, len154, fa156_0, fa156_1, fa156_2, fa156_3, fa156_4, fa156_5, fa156_6, fa184_0, fa184_1, fa200_0, fa200_1, fa200_2, fa200_3, fa215_0, fa215_1, fa215_2, fa215_3, fa215_4, len218, len271, fa274_0, fa274_1, fa274_2, fa303_0, fa303_1, fa303_2, fa303_3, fa314_0, fa314_1, fa314_2, fa314_3, fa314_4, fa314_5, fa314_6, fa314_7, fa314_8, fa314_9, fa314_10]
    refine newG H fun b3 w17 H => ?_
    simp only [List.cons_append, List.nil_append] at H
    rw [ldB_agg agg26 sz26 rfl (H.get 5 rfl)]
    refine implGoodWord_c (H.get 3 rfl) (H.get 17 rfl) fun w18 g => ?_
    have H := H.step g
    cases hw1 : wordG g1 ws
    · simp only [bin_add, bin_sub, bin_mul, bin_eql, bin_neq, bin_lss, bin_leq, bin_gtr, bin_geq, un_not, un_neg, pick_true, pick_false, extract_two_0, extract_two_1, nilCheck_pointer, cond_true', cond_false', guard_tt, guard_ff, guard_tf, guard_ft, guard_undef, seqQ_normal, seqQ_ret, seqQ_exit, blockQ_ret, blockQ_normal, blockQ_exit, bodyQ_ret, bodyQ_normal, resK_nil, resK_tmp, ite_T, ite_F, upd_at, add_plain, add_zero', Nat.reduceEqDiff, fa8_0, fa8_1, fa8_2, fa8_3, fa14_0, fa14_1, fa19_0, len22, len24, fa26_0, fa26_1, fa26_2, len27, fa33_0, fa33_1, len35, fa77_0, fa77_1, fa88_0, fa88_1, fa88_2, fa88_3, fa88_4, fa88_5, fa114_0, fa114_1, fa114_2, fa124_0, fa124_1, len134, len136, len154, fa156_0, fa156_1, fa156_2, fa156_3, fa156_4, fa156_5, fa156_6, fa184_0, fa184_1, fa200_0, fa200_1, fa200_2, fa200_3, fa215_0, fa215_1, fa215_2, fa215_3, fa215_4, len218, len271, fa274_0, fa274_1, fa274_2, fa303_0, fa303_1, fa303_2, fa303_3, fa314_0, fa314_1, fa314_2, fa314_3, fa314_4, fa314_5, fa314_6, fa314_7, fa314_8, fa314_9, fa314_10]
      exact hK _ _ ⟨rfl, H.get 15 rfl⟩
    have hwb : wordB g1.toks ws = true := by
      simp only [wordG, Bool.and_eq_true] at hw1
      exact hw1.2
    have hwb2 : wordB g2.toks ws = true := by rw [← ht]; exact hwb
    have hwl := (wordB_of hwb).1
    simp only [bin_add, bin_sub, bin_mul, bin_eql, bin_neq, bin_lss, bin_leq, bin_gtr, bin_geq, un_not, un_neg, pick_true, pick_false, extract_two_0, extract_two_1, nilCheck_pointer, cond_true', cond_false', guard_tt, guard_ff, guard_tf, guard_ft, guard_undef, seqQ_normal, seqQ_ret, seqQ_exit, blockQ_ret, blockQ_normal, blockQ_exit, bodyQ_ret, bodyQ_normal, resK_nil, resK_tmp, ite_T, ite_F, upd_at, add_plain, add_zero', Nat.reduceEqDiff, fa8_0, fa8_1, fa8_2, fa8_3, fa14_0, fa14_1, fa19_0, len22, len24, fa26_0, fa26_1, fa26_2, len27, fa33_0, fa33_1, len35, fa77_0, fa77_1, fa88_0, fa88_1, fa88_2, fa88_3, fa88_4, fa88_5, fa114_0, fa114_1, fa114_2, fa124_0, fa124_1, len134, len136, len154, fa156_0, fa156_1, fa156_2, fa156_3, fa156_4, fa156_5, fa156_6, fa184_0, fa184_1, fa200_0, fa200_1, fa200_2, fa200_3, fa215_0, fa215_1, fa215_2, fa215_3, fa215_4, len218, len271, fa274_0, fa274_1, fa274_2, fa303_0, fa303_1, fa303_2, fa303_3, fa314_0, fa314_1, fa314_2, fa314_3, fa314_4, fa314_5, fa314_6, fa314_7, fa314_8, fa314_9, fa314_10]
    rw [ldB_agg agg26 sz26 rfl (H.get 5 rfl)]
    refine implInLanguage_c (H.get 3 rfl) (H.get 17 rfl) fun w19 g => ?_
    have H := H.step g
    rw [inLV_of hg1 hwb]
    simp only [bin_add, bin_sub, bin_mul, bin_eql, bin_neq, bin_lss, bin_leq, bin_gtr, bin_geq, un_not, un_neg, pick_true, pick_false, extract_two_0, extract_two_1, nilCheck_pointer, cond_true', cond_false', guard_tt, guard_ff, guard_tf, guard_ft, guard_undef, seqQ_normal, seqQ_ret, seqQ_exit, blockQ_ret, blockQ_normal, blockQ_exit, bodyQ_ret, bodyQ_normal, resK_nil, resK_tmp, ite_T, ite_F, upd_at, add_plain, add_zero', Nat.reduceEqDiff, fa8_0, fa8_1, fa8_2, fa8_3, fa14_0, fa14_1, fa19_0, len22, len24, fa26_0, fa26_1, fa26_2, len27, fa33_0, fa33_1, len35, fa77_0, fa77_1, fa88_0, fa88_1, fa88_2, fa88_3, fa88_4, fa88_5, fa114_0, fa114_1, fa114_2, fa124_0, fa124_1, len134, len136, len154, fa156_0, fa156_1, fa156_2, fa156_3, fa156_4, fa156_5, fa156_6, fa184_0, fa184_1, fa200_0, fa200_1, fa200_2, fa200_3, fa215_0, fa215_1, fa215_2, fa215_3, fa215_4, len218, len271, fa274_0, fa274_1, fa274_2, fa303_0, fa303_1, fa303_2, fa303_3, fa314_0, fa314_1, fa314_2, fa314_3, fa314_4, fa314_5, fa314_6, fa314_7, fa314_8, fa314_9, fa314_10]
    rw [ldB_agg agg26 sz26 rfl (H.get 6 rfl)]
    refine implInLanguage_c (H.get 4 rfl) (H.get 17 rfl) fun w20 g => ?_
    have H := H.step g
    rw [inLV_of hg2 hwb2]
    simp only [Bool.not_true, bin_add, bin_sub, bin_mul, bin_eql, bin_neq, bin_lss, bin_leq, bin_gtr, bin_geq, un_not, un_neg, pick_true, pick_false, extract_two_0, extract_two_1, nilCheck_pointer, cond_true', cond_false', guard_tt, guard_ff, guard_tf, guard_ft, guard_undef, seqQ_normal, seqQ_ret, seqQ_exit, blockQ_ret, blockQ_normal, blockQ_exit, bodyQ_ret, bodyQ_normal, resK_nil, resK_tmp, ite_T, ite_F, upd_at, add_plain, add_zero', Nat.reduceEqDiff, fa8_0, fa8_1, fa8_2, fa8_3, fa14_0, fa14_1, fa19_0, len22, len24, fa26_0, fa26_1, fa26_2, len27, fa33_0, fa33_1, len35, fa77_0, fa77_1, fa88_0, fa88_1, fa88_2, fa88_3, fa88_4, fa88_5, fa114_0, fa114_1, fa114_2, fa124_0, fa124_1, len134, len136, len154, fa156_0, fa156_1, fa156_2, fa156_3, fa156_4, fa156_5, fa156_6, fa184_0, fa184_1, fa200_0, fa200_1, fa200_2, fa200_3, fa215_0, fa215_1, fa215_2, fa215_3, fa215_4, len218, len271, fa274_0, fa274_1, fa274_2, fa303_0, fa303_1, fa303_2, fa303_3, fa314_0, fa314_1, fa314_2, fa314_3, fa314_4, fa314_5, fa314_6, fa314_7, fa314_8, fa314_9, fa314_10]
    have H := H.add (P := fun w' => Gr w20 w') fun w' g => g
    simp only [List.cons_append, List.nil_append] at H
    refine join_as (fun f w' => f 1 = .slice D es.length cap' ∧ f 5 = ptrv bg ∧ f 6 = ptrv bh ∧ f 11 = ptrv bj ∧ f 12 = .bool (joinV g1 g2).isSome ∧ f 16 = .slice XW ws.length cw ∧ Gr w20 w') (fun K2 hK2 => ?_) ?_
    · cases hu : unionV g1 g2 with
      | none =>
        simp only [Option.isSome_none, bin_add, bin_sub, bin_mul, bin_eql, bin_neq, bin_lss, bin_leq, bin_gtr, bin_geq, un_not, un_neg, pick_true, pick_false, extract_two_0, extract_two_1, nilCheck_pointer, cond_true', cond_false', guard_tt, guard_ff, guard_tf, guard_ft, guard_undef, seqQ_normal, seqQ_ret, seqQ_exit, blockQ_ret, blockQ_normal, blockQ_exit, bodyQ_ret, bodyQ_normal, resK_nil, resK_tmp, ite_T, ite_F, upd_at, add_plain, add_zero', Nat.reduceEqDiff, fa8_0, fa8_1, fa8_2, fa8_3, fa14_0, fa14_1, fa19_0, len22, len24, fa26_0, fa26_1, fa26_2, len27, fa33_0, fa33_1, len35, fa77_0, fa77_1, fa88_0, fa88_1, fa88_2, fa88_3, fa88_4, fa88_5, fa114_0, fa114_1, fa114_2, fa124_0, fa124_1, len134, len136, len154, fa156_0, fa156_1, fa156_2, fa156_3, fa156_4, fa156_5, fa156_6, fa184_0, fa184_1, fa200_0, fa200_1, fa200_2, fa200_3, fa215_0, fa215_1, fa215_2, fa215_3, fa215_4, len218, len271, fa274_0, fa274_1, fa274_2, fa303_0, fa303_1, fa303_2, fa303_3, fa314_0, fa314_1, fa314_2, fa314_3, fa314_4, fa314_5, fa314_6, fa314_7, fa314_8, fa314_9, fa314_10]
        exact hK2 _ _ ⟨rfl, rfl, rfl, rfl, rfl, rfl, Gr.refl _⟩
      | some u =>
        have hui := union_in hu
        simp only [Option.isSome_some, bin_add, bin_sub, bin_mul, bin_eql, bin_neq, bin_lss, bin_leq, bin_gtr, bin_geq, un_not, un_neg, pick_true, pick_false, extract_two_0, extract_two_1, nilCheck_pointer, cond_true', cond_false', guard_tt, guard_ff, guard_tf, guard_ft, guard_undef, seqQ_normal, seqQ_ret, seqQ_exit, blockQ_ret, blockQ_normal, blockQ_exit, bodyQ_ret, bodyQ_normal, resK_nil, resK_tmp, ite_T, ite_F, upd_at, add_plain, add_zero', Nat.reduceEqDiff, fa8_0, fa8_1, fa8_2, fa8_3, fa14_0, fa14_1, fa19_0, len22, len24, fa26_0, fa26_1, fa26_2, len27, fa33_0, fa33_1, len35, fa77_0, fa77_1, fa88_0, fa88_1, fa88_2, fa88_3, fa88_4, fa88_5, fa114_0, fa114_1, fa114_2, fa124_0, fa124_1, len134, len136, len154, fa156_0, fa156_1, fa156_2, fa156_3, fa156_4, fa156_5, fa156_6, fa184_0, fa184_1, fa200_0, fa200_1, fa200_2, fa200_3, fa215_0, fa215_1, fa215_2, fa215_3, fa215_4, len218, len271, fa274_0, fa274_1, fa274_2, fa303_0, fa303_1, fa303_2, fa303_3, fa314_0, fa314_1, fa314_2, fa314_3, fa314_4, fa314_5, fa314_6, fa314_7, fa314_8, fa314_9, fa314_10]
        rw [hu] at H
        rw [ldB_agg agg26 sz26 rfl (H.get 8 rfl)]
        refine implInLanguage_c (gm := u) (H.get 7 rfl) (H.get 17 rfl) fun w21 g => ?_
        have H := H.step g
        rw [inLV_of hui.2.2.1 (by rw [hui.2.2.2.1]; exact hwb), hui.2.2.2.2.2 ws hwl]
        simp only [Bool.not_true, bin_add, bin_sub, bin_mul, bin_eql, bin_neq, bin_lss, bin_leq, bin_gtr, bin_geq, un_not, un_neg, pick_true, pick_false, extract_two_0, extract_two_1, nilCheck_pointer, cond_true', cond_false', guard_tt, guard_ff, guard_tf, guard_ft, guard_undef, seqQ_normal, seqQ_ret, seqQ_exit, blockQ_ret, blockQ_normal, blockQ_exit, bodyQ_ret, bodyQ_normal, resK_nil, resK_tmp, ite_T, ite_F, upd_at, add_plain, add_zero', Nat.reduceEqDiff, fa8_0, fa8_1, fa8_2, fa8_3, fa14_0, fa14_1, fa19_0, len22, len24, fa26_0, fa26_1, fa26_2, len27, fa33_0, fa33_1, len35, fa77_0, fa77_1, fa88_0, fa88_1, fa88_2, fa88_3, fa88_4, fa88_5, fa114_0, fa114_1, fa114_2, fa124_0, fa124_1, len134, len136, len154, fa156_0, fa156_1, fa156_2, fa156_3, fa156_4, fa156_5, fa156_6, fa184_0, fa184_1, fa200_0, fa200_1, fa200_2, fa200_3, fa215_0, fa215_1, fa215_2, fa215_3, fa215_4, len218, len271, fa274_0, fa274_1, fa274_2, fa303_0, fa303_1, fa303_2, fa303_3, fa314_0, fa314_1, fa314_2, fa314_3, fa314_4, fa314_5, fa314_6, fa314_7, fa314_8, fa314_9, fa314_10]
        cases ha : inL g1.rules ws
        · simp only [Bool.false_or, bneq, beq_self_eq_true, Bool.not_true, bin_add, bin_sub, bin_mul, bin_eql, bin_neq, bin_lss, bin_leq, bin_gtr, bin_geq, un_not, un_neg, pick_true, pick_false, extract_two_0, extract_two_1, nilCheck_pointer, cond_true', cond_false', guard_tt, guard_ff, guard_tf, guard_ft, guard_undef, seqQ_normal, seqQ_ret, seqQ_exit, blockQ_ret, blockQ_normal, blockQ_exit, bodyQ_ret, bodyQ_normal, resK_nil, resK_tmp, ite_T, ite_F, upd_at, add_plain, add_zero', Nat.reduceEqDiff, fa8_0, fa8_1, fa8_2, fa8_3, fa14_0, fa14_1, fa19_0, len22, len24, fa26_0, fa26_1, fa26_2, len27, fa33_0, fa33_1, len35, fa77_0, fa77_1, fa88_0, fa88_1, fa88_2, fa88_3, fa88_4, fa88_5, fa114_0, fa114_1, fa114_2, fa124_0, fa124_1, len134, len136, len154, fa156_0, fa156_1, fa156_2, fa156_3, fa156_4, fa156_5, fa156_6, fa184_0, fa184_1, fa200_0, fa200_1, fa200_2, fa200_3, fa215_0, fa215_1, fa215_2, fa215_3, fa215_4, len218, len271, fa274_0, fa274_1, fa274_2, fa303_0, fa303_1, fa303_2, fa303_3, fa314_0, fa314_1, fa314_2, fa314_3, fa314_4, fa314_5, fa314_6, fa314_7, fa314_8, fa314_9, fa314_10]
          exact hK2 _ _ ⟨rfl, rfl, rfl, rfl, rfl, rfl, H.get 19 rfl⟩
        · simp only [Bool.true_or, bneq, beq_self_eq_true, Bool.not_true, bin_add, bin_sub, bin_mul, bin_eql, bin_neq, bin_lss, bin_leq, bin_gtr, bin_geq, un_not, un_neg, pick_true, pick_false, extract_two_0, extract_two_1, nilCheck_pointer, cond_true', cond_false', guard_tt, guard_ff, guard_tf, guard_ft, guard_undef, seqQ_normal, seqQ_ret, seqQ_exit, blockQ_ret, blockQ_normal, blockQ_exit, bodyQ_ret, bodyQ_normal, resK_nil, resK_tmp, ite_T, ite_F, upd_at, add_plain, add_zero', Nat.reduceEqDiff, fa8_0, fa8_1, fa8_2, fa8_3, fa14_0, fa14_1, fa19_0, len22, len24, fa26_0, fa26_1, fa26_2, len27, fa33_0, fa33_1, len35, fa77_0, fa77_1, fa88_0, fa88_1, fa88_2, fa88_3, fa88_4, fa88_5, fa114_0, fa114_1, fa114_2, fa124_0, fa124_1, len134, len136, len154, fa156_0, fa156_1, fa156_2, fa156_3, fa156_4, fa156_5, fa156_6, fa184_0, fa184_1, fa200_0, fa200_1, fa200_2, fa200_3, fa215_0, fa215_1, fa215_2, fa215_3, fa215_4, len218, len271, fa274_0, fa274_1, fa274_2, fa303_0, fa303_1, fa303_2, fa303_3, fa314_0, fa314_1, fa314_2, fa314_3, fa314_4, fa314_5, fa314_6, fa314_7, fa314_8, fa314_9, fa314_10]
          exact hK2 _ _ ⟨rfl, rfl, rfl, rfl, rfl, rfl, H.get 19 rfl⟩
    · rintro f w21 ⟨f1, f5, f6, f11, f12, f16, g⟩
      have H := H.step g
      simp only [f12]
      cases hj : joinV g1 g2 with
      | none =>
        simp only [Option.isSome_none, bin_add, bin_sub, bin_mul, bin_eql, bin_neq, bin_lss, bin_leq, bin_gtr, bin_geq, un_not, un_neg, pick_true, pick_false, extract_two_0, extract_two_1, nilCheck_pointer, cond_true', cond_false', guard_tt, guard_ff, guard_tf, guard_ft, guard_undef, seqQ_normal, seqQ_ret, seqQ_exit, blockQ_ret, blockQ_normal, blockQ_exit, bodyQ_ret, bodyQ_normal, resK_nil, resK_tmp, ite_T, ite_F, upd_at, add_plain, add_zero', Nat.reduceEqDiff, fa8_0, fa8_1, fa8_2, fa8_3, fa14_0, fa14_1, fa19_0, len22, len24, fa26_0, fa26_1, fa26_2, len27, fa33_0, fa33_1, len35, fa77_0, fa77_1, fa88_0, fa88_1, fa88_2, fa88_3, fa88_4, fa88_5, fa114_0, fa114_1, fa114_2, fa124_0, fa124_1, len134, len136, len154, fa156_0, fa156_1, fa156_2, fa156_3, fa156_4, fa156_5, fa156_6, fa184_0, fa184_1, fa200_0, fa200_1, fa200_2, fa200_3, fa215_0, fa215_1, fa215_2, fa215_3, fa215_4, len218, len271, fa274_0, fa274_1, fa274_2, fa303_0, fa303_1, fa303_2, fa303_3, fa314_0, fa314_1, fa314_2, fa314_3, fa314_4, fa314_5, fa314_6, fa314_7, fa314_8, fa314_9, fa314_10]
        exact hK _ _ ⟨f1, H.get 15 rfl⟩
      | some u =>
        have hji := join_in hj
        rw [hj] at H
        simp only [Option.isSome_some, bin_add, bin_sub, bin_mul, bin_eql, bin_neq, bin_lss, bin_leq, bin_gtr, bin_geq, un_not, un_neg, pick_true, pick_false, extract_two_0, extract_two_1, nilCheck_pointer, cond_true', cond_false', guard_tt, guard_ff, guard_tf, guard_ft, guard_undef, seqQ_normal, seqQ_ret, seqQ_exit, blockQ_ret, blockQ_normal, blockQ_exit, bodyQ_ret, bodyQ_normal, resK_nil, resK_tmp, ite_T, ite_F, upd_at, add_plain, add_zero', Nat.reduceEqDiff, fa8_0, fa8_1, fa8_2, fa8_3, fa14_0, fa14_1, fa19_0, len22, len24, fa26_0, fa26_1, fa26_2, len27, fa33_0, fa33_1, len35, fa77_0, fa77_1, fa88_0, fa88_1, fa88_2, fa88_3, fa88_4, fa88_5, fa114_0, fa114_1, fa114_2, fa124_0, fa124_1, len134, len136, len154, fa156_0, fa156_1, fa156_2, fa156_3, fa156_4, fa156_5, fa156_6, fa184_0, fa184_1, fa200_0, fa200_1, fa200_2, fa200_3, fa215_0, fa215_1, fa215_2, fa215_3, fa215_4, len218, len271, fa274_0, fa274_1, fa274_2, fa303_0, fa303_1, fa303_2, fa303_3, fa314_0, fa314_1, fa314_2, fa314_3, fa314_4, fa314_5, fa314_6, fa314_7, fa314_8, fa314_9, fa314_10]
        refine loop_to (ws.length + 1) 0 (fun i f w' => i ≤ ws.length + 1 ∧ f 24 = .int .i64 (i : Int) ∧ f 23 = .bool ((List.range i).any fun q => inL g1.rules (ws.take q) && inL g2.rules (ws.drop q)) ∧ Gr w21 w') ⟨Nat.zero_le _, rfl, rfl, Gr.refl _⟩ ?_
        rintro i q w22 N hag ⟨hi, q24, q23, g22⟩ hN
        have H := H.step g22
        have q1 : q 1 = .slice D es.length cap' := (hag 1 (by decide)).trans f1
        have q5 : q 5 = ptrv bg := (hag 5 (by decide)).trans f5
        have q6 : q 6 = ptrv bh := (hag 6 (by decide)).trans f6
        have q11 : q 11 = ptrv bj := (hag 11 (by decide)).trans f11
        have q16 : q 16 = .slice XW ws.length cw := (hag 16 (by decide)).trans f16
        simp only [q5, q6, q16, q23, q24, bin_add, bin_sub, bin_mul, bin_eql, bin_neq, bin_lss, bin_leq, bin_gtr, bin_geq, un_not, un_neg, pick_true, pick_false, extract_two_0, extract_two_1, nilCheck_pointer, cond_true', cond_false', guard_tt, guard_ff, guard_tf, guard_ft, guard_undef, seqQ_normal, seqQ_ret, seqQ_exit, blockQ_ret, blockQ_normal, blockQ_exit, bodyQ_ret, bodyQ_normal, resK_nil, resK_tmp, ite_T, ite_F, upd_at, add_plain, add_zero', Nat.reduceEqDiff, fa8_0, fa8_1, fa8_2, fa8_3, fa14_0, fa14_1, fa19_0, len22, len24, fa26_0, fa26_1, fa26_2, len27, fa33_0, fa33_1, len35, fa77_0, fa77_1, fa88_0, fa88_1, fa88_2, fa88_3, fa88_4, fa88_5, fa114_0, fa114_1, fa114_2, fa124_0, fa124_1, len134, len136, len154, fa156_0, fa156_1, fa156_2, fa156_3, fa156_4, fa156_5, fa156_6, fa184_0, fa184_1, fa200_0, fa200_1, fa200_2, fa200_3, fa215_0, fa215_1, fa215_2, fa215_3, fa215_4, len218, len271, fa274_0, fa274_1, fa274_2, fa303_0, fa303_1, fa303_2, fa303_3, fa314_0, fa314_1, fa314_2, fa314_3, fa314_4, fa314_5, fa314_6, fa314_7, fa314_8, fa314_9, fa314_10]
        by_cases hlt : i < ws.length + 1
        case neg =>
          obtain rfl : i = ws.length + 1 := by omega
          simp only [show ¬ (((ws.length + 1 : Nat) : Int) ≤ (ws.length : Int)) from by omega, decide_false, q11, q16, q23, bin_add, bin_sub, bin_mul, bin_eql, bin_neq, bin_lss, bin_leq, bin_gtr, bin_geq, un_not, un_neg, pick_true, pick_false, extract_two_0, extract_two_1, nilCheck_pointer, cond_true', cond_false', guard_tt, guard_ff, guard_tf, guard_ft, guard_undef, seqQ_normal, seqQ_ret, seqQ_exit, blockQ_ret, blockQ_normal, blockQ_exit, bodyQ_ret, bodyQ_normal, resK_nil, resK_tmp, ite_T, ite_F, upd_at, add_plain, add_zero', Nat.reduceEqDiff, fa8_0, fa8_1, fa8_2, fa8_3, fa14_0, fa14_1, fa19_0, len22, len24, fa26_0, fa26_1, fa26_2, len27, fa33_0, fa33_1, len35, fa77_0, fa77_1, fa88_0, fa88_1, fa88_2, fa88_3, fa88_4, fa88_5, fa114_0, fa114_1, fa114_2, fa124_0, fa124_1, len134, len136, len154, fa156_0, fa156_1, fa156_2, fa156_3, fa156_4, fa156_5, fa156_6, fa184_0, fa184_1, fa200_0, fa200_1, fa200_2, fa200_3, fa215_0, fa215_1, fa215_2, fa215_3, fa215_4, len218, len271, fa274_0, fa274_1, fa274_2, fa303_0, fa303_1, fa303_2, fa303_3, fa314_0, fa314_1, fa314_2, fa314_3, fa314_4, fa314_5, fa314_6, fa314_7, fa314_8, fa314_9, fa314_10]
          rw [ldB_agg agg26 sz26 rfl (H.get 12 rfl)]
          refine implInLanguage_c (gm := u) (H.get 11 rfl) (H.get 17 rfl) fun w23 g => ?_
          have H := H.step g
          rw [inLV_of hji.2.2.1 (by rw [hji.2.2.2.1]; exact hwb), hji.2.2.2.2.2 ws hwl]
          simp only [Bool.not_true, bneq, beq_self_eq_true, bin_add, bin_sub, bin_mul, bin_eql, bin_neq, bin_lss, bin_leq, bin_gtr, bin_geq, un_not, un_neg, pick_true, pick_false, extract_two_0, extract_two_1, nilCheck_pointer, cond_true', cond_false', guard_tt, guard_ff, guard_tf, guard_ft, guard_undef, seqQ_normal, seqQ_ret, seqQ_exit, blockQ_ret, blockQ_normal, blockQ_exit, bodyQ_ret, bodyQ_normal, resK_nil, resK_tmp, ite_T, ite_F, upd_at, add_plain, add_zero', Nat.reduceEqDiff, fa8_0, fa8_1, fa8_2, fa8_3, fa14_0, fa14_1, fa19_0, len22, len24, fa26_0, fa26_1, fa26_2, len27, fa33_0, fa33_1, len35, fa77_0, fa77_1, fa88_0, fa88_1, fa88_2, fa88_3, fa88_4, fa88_5, fa114_0, fa114_1, fa114_2, fa124_0, fa124_1, len134, len136, len154, fa156_0, fa156_1, fa156_2, fa156_3, fa156_4, fa156_5, fa156_6, fa184_0, fa184_1, fa200_0, fa200_1, fa200_2, fa200_3, fa215_0, fa215_1, fa215_2, fa215_3, fa215_4, len218, len271, fa274_0, fa274_1, fa274_2, fa303_0, fa303_1, fa303_2, fa303_3, fa314_0, fa314_1, fa314_2, fa314_3, fa314_4, fa314_5, fa314_6, fa314_7, fa314_8, fa314_9, fa314_10]
          exact hK _ _ ⟨q1, H.get 15 rfl⟩
        simp only [show ((i : Int) ≤ (ws.length : Int)) from by omega, decide_true, bin_add, bin_sub, bin_mul, bin_eql, bin_neq, bin_lss, bin_leq, bin_gtr, bin_geq, un_not, un_neg, pick_true, pick_false, extract_two_0, extract_two_1, nilCheck_pointer, cond_true', cond_false', guard_tt, guard_ff, guard_tf, guard_ft, guard_undef, seqQ_normal, seqQ_ret, seqQ_exit, blockQ_ret, blockQ_normal, blockQ_exit, bodyQ_ret, bodyQ_normal, resK_nil, resK_tmp, ite_T, ite_F, upd_at, add_plain, add_zero', Nat.reduceEqDiff, fa8_0, fa8_1, fa8_2, fa8_3, fa14_0, fa14_1, fa19_0, len22, len24, fa26_0, fa26_1, fa26_2, len27, fa33_0, fa33_1, len35, fa77_0, fa77_1, fa88_0, fa88_1, fa88_2, fa88_3, fa88_4, fa88_5, fa114_0, fa114_1, fa114_2, fa124_0, fa124_1, len134, len136, len154, fa156_0, fa156_1, fa156_2, fa156_3, fa156_4, fa156_5, fa156_6, fa184_0, fa184_1, fa200_0, fa200_1, fa200_2, fa200_3, fa215_0, fa215_1, fa215_2, fa215_3, fa215_4, len218, len271, fa274_0, fa274_1, fa274_2, fa303_0, fa303_1, fa303_2, fa303_3, fa314_0, fa314_1, fa314_2, fa314_3, fa314_4, fa314_5, fa314_6, fa314_7, fa314_8, fa314_9, fa314_10]
        have H := H.drew
        rw [ldB_agg agg26 sz26 rfl (H.get 5 rfl)]
        have hI := H.get 17 rfl
        refine rdi (slh27 (by omega) (by have := hI.2; omega)) ?_
        have hs1 : kI (sub XW 0 cw 1) (ws.take i) cw w22.drew := by
          have := hI.1.sub (l := 0) (c := cw) (Nat.zero_le _) hI.2 i
          exact ⟨by simpa using this, by have := hI.2; simp; omega⟩
        rw [Int.toNat_natCast]
        refine implInLanguage_n (H.get 3 rfl) hs1 (by simp; omega) fun w23 g => ?_
        have H := (H.step g).drew
        rw [inLV_of hg1 (wordB_take hwb i)]
        simp only [bin_add, bin_sub, bin_mul, bin_eql, bin_neq, bin_lss, bin_leq, bin_gtr, bin_geq, un_not, un_neg, pick_true, pick_false, extract_two_0, extract_two_1, nilCheck_pointer, cond_true', cond_false', guard_tt, guard_ff, guard_tf, guard_ft, guard_undef, seqQ_normal, seqQ_ret, seqQ_exit, blockQ_ret, blockQ_normal, blockQ_exit, bodyQ_ret, bodyQ_normal, resK_nil, resK_tmp, ite_T, ite_F, upd_at, add_plain, add_zero', Nat.reduceEqDiff, fa8_0, fa8_1, fa8_2, fa8_3, fa14_0, fa14_1, fa19_0, len22, len24, fa26_0, fa26_1, fa26_2, len27, fa33_0, fa33_1, len35, fa77_0, fa77_1, fa88_0, fa88_1, fa88_2, fa88_3, fa88_4, fa88_5, fa114_0, fa114_1, fa114_2, fa124_0, fa124_1, len134, len136, len154, fa156_0, fa156_1, fa156_2, fa156_3, fa156_4, fa156_5, fa156_6, fa184_0, fa184_1, fa200_0, fa200_1, fa200_2, fa200_3, fa215_0, fa215_1, fa215_2, fa215_3, fa215_4, len218, len271, fa274_0, fa274_1, fa274_2, fa303_0, fa303_1, fa303_2, fa303_3, fa314_0, fa314_1, fa314_2, fa314_3, fa314_4, fa314_5, fa314_6, fa314_7, fa314_8, fa314_9, fa314_10]
        rw [ldB_agg agg26 sz26 rfl (H.get 6 rfl)]
        refine rdi (sll27 (by omega) (by omega)) ?_
        have hI := H.get 17 rfl
        have hs2 : kI (sub XW i cw 1) (ws.drop i) (cw - i) w23.drew := by
          have := hI.1.sub (l := i) (c := cw) (by omega) hI.2 ws.length
          rw [List.take_of_length_le (by simp)] at this
          exact ⟨this, by have := hI.2; simp; omega⟩
        rw [Int.toNat_natCast]
        refine implInLanguage_n (H.get 4 rfl) hs2 (by simp) fun w24 g => ?_
        have H := H.step g
        rw [inLV_of hg2 (wordB_drop hwb2 i)]
        have hany := range_any_succ (fun q => inL g1.rules (ws.take q) && inL g2.rules (ws.drop q)) i
        have H := H.add (P := fun w' => Gr w24 w') fun w' g => g
        have gg : Gr w21 w24 := gr_trans g22 (gr_trans (gr_drew _) (gr_trans ‹Gr w22.drew w23› (gr_trans (gr_drew _) ‹Gr w23.drew w24›)))
        cases hacc : (List.range i).any fun q => inL g1.rules (ws.take q) && inL g2.rules (ws.drop q)
        · simp only [bin_add, bin_sub, bin_mul, bin_eql, bin_neq, bin_lss, bin_leq, bin_gtr, bin_geq, un_not, un_neg, pick_true, pick_false, extract_two_0, extract_two_1, nilCheck_pointer, cond_true', cond_false', guard_tt, guard_ff, guard_tf, guard_ft, guard_undef, seqQ_normal, seqQ_ret, seqQ_exit, blockQ_ret, blockQ_normal, blockQ_exit, bodyQ_ret, bodyQ_normal, resK_nil, resK_tmp, ite_T, ite_F, upd_at, add_plain, add_zero', Nat.reduceEqDiff, fa8_0, fa8_1, fa8_2, fa8_3, fa14_0, fa14_1, fa19_0, len22, len24, fa26_0, fa26_1, fa26_2, len27, fa33_0, fa33_1, len35, fa77_0, fa77_1, fa88_0, fa88_1, fa88_2, fa88_3, fa88_4, fa88_5, fa114_0, fa114_1, fa114_2, fa124_0, fa124_1, len134, len136, len154, fa156_0, fa156_1, fa156_2, fa156_3, fa156_4, fa156_5, fa156_6, fa184_0, fa184_1, fa200_0, fa200_1, fa200_2, fa200_3, fa215_0, fa215_1, fa215_2, fa215_3, fa215_4, len218, len271, fa274_0, fa274_1, fa274_2, fa303_0, fa303_1, fa303_2, fa303_3, fa314_0, fa314_1, fa314_2, fa314_3, fa314_4, fa314_5, fa314_6, fa314_7, fa314_8, fa314_9, fa314_10]
          cases ha : inL g1.rules (ws.take i)
          · simp only [bin_add, bin_sub, bin_mul, bin_eql, bin_neq, bin_lss, bin_leq, bin_gtr, bin_geq, un_not, un_neg, pick_true, pick_false, extract_two_0, extract_two_1, nilCheck_pointer, cond_true', cond_false', guard_tt, guard_ff, guard_tf, guard_ft, guard_undef, seqQ_normal, seqQ_ret, seqQ_exit, blockQ_ret, blockQ_normal, blockQ_exit, bodyQ_ret, bodyQ_normal, resK_nil, resK_tmp, ite_T, ite_F, upd_at, add_plain, add_zero', Nat.reduceEqDiff, fa8_0, fa8_1, fa8_2, fa8_3, fa14_0, fa14_1, fa19_0, len22, len24, fa26_0, fa26_1, fa26_2, len27, fa33_0, fa33_1, len35, fa77_0, fa77_1, fa88_0, fa88_1, fa88_2, fa88_3, fa88_4, fa88_5, fa114_0, fa114_1, fa114_2, fa124_0, fa124_1, len134, len136, len154, fa156_0, fa156_1, fa156_2, fa156_3, fa156_4, fa156_5, fa156_6, fa184_0, fa184_1, fa200_0, fa200_1, fa200_2, fa200_3, fa215_0, fa215_1, fa215_2, fa215_3, fa215_4, len218, len271, fa274_0, fa274_1, fa274_2, fa303_0, fa303_1, fa303_2, fa303_3, fa314_0, fa314_1, fa314_2, fa314_3, fa314_4, fa314_5, fa314_6, fa314_7, fa314_8, fa314_9, fa314_10]
            rw [i64_of (by omega) (by omega)]
            refine hN _ _ hlt ⟨by omega, rfl, ?_, gg⟩
            rw [hany, hacc, ha]
            rfl
          · simp only [bin_add, bin_sub, bin_mul, bin_eql, bin_neq, bin_lss, bin_leq, bin_gtr, bin_geq, un_not, un_neg, pick_true, pick_false, extract_two_0, extract_two_1, nilCheck_pointer, cond_true', cond_false', guard_tt, guard_ff, guard_tf, guard_ft, guard_undef, seqQ_normal, seqQ_ret, seqQ_exit, blockQ_ret, blockQ_normal, blockQ_exit, bodyQ_ret, bodyQ_normal, resK_nil, resK_tmp, ite_T, ite_F, upd_at, add_plain, add_zero', Nat.reduceEqDiff, fa8_0, fa8_1, fa8_2, fa8_3, fa14_0, fa14_1, fa19_0, len22, len24, fa26_0, fa26_1, fa26_2, len27, fa33_0, fa33_1, len35, fa77_0, fa77_1, fa88_0, fa88_1, fa88_2, fa88_3, fa88_4, fa88_5, fa114_0, fa114_1, fa114_2, fa124_0, fa124_1, len134, len136, len154, fa156_0, fa156_1, fa156_2, fa156_3, fa156_4, fa156_5, fa156_6, fa184_0, fa184_1, fa200_0, fa200_1, fa200_2, fa200_3, fa215_0, fa215_1, fa215_2, fa215_3, fa215_4, len218, len271, fa274_0, fa274_1, fa274_2, fa303_0, fa303_1, fa303_2, fa303_3, fa314_0, fa314_1, fa314_2, fa314_3, fa314_4, fa314_5, fa314_6, fa314_7, fa314_8, fa314_9, fa314_10]
            rw [i64_of (by omega) (by omega)]
            refine hN _ _ hlt ⟨by omega, rfl, ?_, gg⟩
            rw [hany, hacc, ha, Bool.true_and, Bool.false_or]
            rfl
        · simp only [bin_add, bin_sub, bin_mul, bin_eql, bin_neq, bin_lss, bin_leq, bin_gtr, bin_geq, un_not, un_neg, pick_true, pick_false, extract_two_0, extract_two_1, nilCheck_pointer, cond_true', cond_false', guard_tt, guard_ff, guard_tf, guard_ft, guard_undef, seqQ_normal, seqQ_ret, seqQ_exit, blockQ_ret, blockQ_normal, blockQ_exit, bodyQ_ret, bodyQ_normal, resK_nil, resK_tmp, ite_T, ite_F, upd_at, add_plain, add_zero', Nat.reduceEqDiff, fa8_0, fa8_1, fa8_2, fa8_3, fa14_0, fa14_1, fa19_0, len22, len24, fa26_0, fa26_1, fa26_2, len27, fa33_0, fa33_1, len35, fa77_0, fa77_1, fa88_0, fa88_1, fa88_2, fa88_3, fa88_4, fa88_5, fa114_0, fa114_1, fa114_2, fa124_0, fa124_1, len134, len136, len154, fa156_0, fa156_1, fa156_2, fa156_3, fa156_4, fa156_5, fa156_6, fa184_0, fa184_1, fa200_0, fa200_1, fa200_2, fa200_3, fa215_0, fa215_1, fa215_2, fa215_3, fa215_4, len218, len271, fa274_0, fa274_1, fa274_2, fa303_0, fa303_1, fa303_2, fa303_3, fa314_0, fa314_1, fa314_2, fa314_3, fa314_4, fa314_5, fa314_6, fa314_7, fa314_8, fa314_9, fa314_10]
          rw [i64_of (by omega) (by omega)]
          refine hN _ _ hlt ⟨by omega, rfl, ?_, gg⟩
          rw [hany, hacc, Bool.true_or]
          rfl
  · rintro f w14 ⟨f1, g⟩
    have H := H.step g
    simp only [f1]
    refine drawStarOf_c (H.get 2 rfl) fun w15 gs ft Y cy hd A => ?_
    have H := knG (H.step A.gr) A 0 rfl
    clear A
    simp only [List.cons_append, List.nil_append] at H
    refine newG H fun bs1 w16 H => ?_
    simp only [List.cons_append, List.nil_append] at H
    rw [ldB_agg agg26 sz26 rfl (H.get 17 rfl)]
    refine implStarOf_c (gvK (H.get 16 rfl)) fun v w17 g hR => ?_
    obtain ⟨X7, c7, rfl, hc7, hR⟩ := GramR.readK hR
    have H := (H.step g).addG hc7 (hR.mono fun _ _ => trivial)
    simp only [List.cons_append, List.nil_append] at H
    simp only [bin_add, bin_sub, bin_mul, bin_eql, bin_neq, bin_lss, bin_leq, bin_gtr, bin_geq, un_not, un_neg, pick_true, pick_false, extract_two_0, extract_two_1, nilCheck_pointer, cond_true', cond_false', guard_tt, guard_ff, guard_tf, guard_ft, guard_undef, seqQ_normal, seqQ_ret, seqQ_exit, blockQ_ret, blockQ_normal, blockQ_exit, bodyQ_ret, bodyQ_normal, resK_nil, resK_tmp, ite_T, ite_F, upd_at, add_plain, add_zero', Nat.reduceEqDiff, fa8_0, fa8_1, fa8_2, fa8_3, fa14_0, fa14_1, fa19_0, len22, len24, fa26_0, fa26_1, fa26_2, len27, fa33_0, fa33_1, len35, fa77_0, fa77_1, fa88_0, fa88_1, fa88_2, fa88_3, fa88_4, fa88_5, fa114_0, fa114_1, fa114_2, fa124_0, fa124_1, len134, len136, len154, fa156_0, fa156_1, fa156_2, fa156_3, fa156_4, fa156_5, fa156_6, fa184_0, fa184_1, fa200_0, fa200_1, fa200_2, fa200_3, fa215_0, fa215_1, fa215_2, fa215_3, fa215_4, len218, len271, fa274_0, fa274_1, fa274_2, fa303_0, fa303_1, fa303_2, fa303_3, fa314_0, fa314_1, fa314_2, fa314_3, fa314_4, fa314_5, fa314_6, fa314_7, fa314_8, fa314_9, fa314_10]
    refine newG H fun bx1 w18 H => ?_
    simp only [List.cons_append, List.nil_append] at H
    rw [ldB_agg agg26 sz26 rfl (H.get 17 rfl)]
    refine specStarOf_c (gvB (H.get 16 rfl)) (fun q hq => hq) fun v w19 g hR => ?_
    obtain ⟨X8, c8, rfl, hc8, hR⟩ := GramR.readK hR
    have H := (H.step g).addG hc8 (hR.mono fun _ _ => trivial)
    simp only [List.cons_append, List.nil_append] at H
    simp only [bin_add, bin_sub, bin_mul, bin_eql, bin_neq, bin_lss, bin_leq, bin_gtr, bin_geq, un_not, un_neg, pick_true, pick_false, extract_two_0, extract_two_1, nilCheck_pointer, cond_true', cond_false', guard_tt, guard_ff, guard_tf, guard_ft, guard_undef, seqQ_normal, seqQ_ret, seqQ_exit, blockQ_ret, blockQ_normal, blockQ_exit, bodyQ_ret, bodyQ_normal, resK_nil, resK_tmp, ite_T, ite_F, upd_at, add_plain, add_zero', Nat.reduceEqDiff, fa8_0, fa8_1, fa8_2, fa8_3, fa14_0, fa14_1, fa19_0, len22, len24, fa26_0, fa26_1, fa26_2, len27, fa33_0, fa33_1, len35, fa77_0, fa77_1, fa88_0, fa88_1, fa88_2, fa88_3, fa88_4, fa88_5, fa114_0, fa114_1, fa114_2, fa124_0, fa124_1, len134, len136, len154, fa156_0, fa156_1, fa156_2, fa156_3, fa156_4, fa156_5, fa156_6, fa184_0, fa184_1, fa200_0, fa200_1, fa200_2, fa200_3, fa215_0, fa215_1, fa215_2, fa215_3, fa215_4, len218, len271, fa274_0, fa274_1, fa274_2, fa303_0, fa303_1, fa303_2, fa303_3, fa314_0, fa314_1, fa314_2, fa314_3, fa314_4, fa314_5, fa314_6, fa314_7, fa314_8, fa314_9, fa314_10]
    refine newG H fun bx2 w20 H => ?_
    simp only [List.cons_append, List.nil_append] at H
    simp only [bneq, beq_self_eq_true, Bool.not_true, bin_add, bin_sub, bin_mul, bin_eql, bin_neq, bin_lss, bin_leq, bin_gtr, bin_geq, un_not, un_neg, pick_true, pick_false, extract_two_0, extract_two_1, nilCheck_pointer, cond_true', cond_false', guard_tt, guard_ff, guard_tf, guard_ft, guard_undef, seqQ_normal, seqQ_ret, seqQ_exit, blockQ_ret, blockQ_normal, blockQ_exit, bodyQ_ret, bodyQ_normal, resK_nil, resK_tmp, ite_T, ite_F, upd_at, add_plain, add_zero', Nat.reduceEqDiff, fa8_0, fa8_1, fa8_2, fa8_3, fa14_0, fa14_1, fa19_0, len22, len24, fa26_0, fa26_1, fa26_2, len27, fa33_0, fa33_1, len35, fa77_0, fa77_1, fa88_0, fa88_1, fa88_2, fa88_3, fa88_4, fa88_5, fa114_0, fa114_1, fa114_2, fa124_0, fa124_1, len134, len136, len154, fa156_0, fa156_1, fa156_2, fa156_3, fa156_4, fa156_5, fa156_6, fa184_0, fa184_1, fa200_0, fa200_1, fa200_2, fa200_3, fa215_0, fa215_1, fa215_2, fa215_3, fa215_4, len218, len271, fa274_0, fa274_1, fa274_2, fa303_0, fa303_1, fa303_2, fa303_3, fa314_0, fa314_1, fa314_2, fa314_3, fa314_4, fa314_5, fa314_6, fa314_7, fa314_8, fa314_9, fa314_10]
    rw [ldB_agg agg26 sz26 rfl (H.get 19 rfl), ldB_agg agg26 sz26 rfl (H.get 21 rfl)]
    refine sameGrammar_c (H.get 18 rfl) (H.get 20 rfl) fun w21 g => ?_
    have H := H.step g
    simp only [decide_true, Bool.not_true, bin_add, bin_sub, bin_mul, bin_eql, bin_neq, bin_lss, bin_leq, bin_gtr, bin_geq, un_not, un_neg, pick_true, pick_false, extract_two_0, extract_two_1, nilCheck_pointer, cond_true', cond_false', guard_tt, guard_ff, guard_tf, guard_ft, guard_undef, seqQ_normal, seqQ_ret, seqQ_exit, blockQ_ret, blockQ_normal, blockQ_exit, bodyQ_ret, bodyQ_normal, resK_nil, resK_tmp, ite_T, ite_F, upd_at, add_plain, add_zero', Nat.reduceEqDiff, fa8_0, fa8_1, fa8_2, fa8_3, fa14_0, fa14_1, fa19_0, len22, len24, fa26_0, fa26_1, fa26_2, len27, fa33_0, fa33_1, len35, fa77_0, fa77_1, fa88_0, fa88_1, fa88_2, fa88_3, fa88_4, fa88_5, fa114_0, fa114_1, fa114_2, fa124_0, fa124_1, len134, len136, len154, fa156_0, fa156_1, fa156_2, fa156_3, fa156_4, fa156_5, fa156_6, fa184_0, fa184_1, fa200_0, fa200_1, fa200_2, fa200_3, fa215_0, fa215_1, fa215_2, fa215_3, fa215_4, len218, len271, fa274_0, fa274_1, fa274_2, fa303_0, fa303_1, fa303_2, fa303_3, fa314_0, fa314_1, fa314_2, fa314_3, fa314_4, fa314_5, fa314_6, fa314_7, fa314_8, fa314_9, fa314_10]
    have H := H.add (P := fun w' => Gr w21 w') fun w' g => g
    simp only [List.cons_append, List.nil_append] at H
    refine join_as (fun f w' => Gr w w') (fun K hK => ?_) (fun f w' g => hk _ g)
    cases hst : starV gs with
    | none =>
      simp only [Option.isSome_none, bin_add, bin_sub, bin_mul, bin_eql, bin_neq, bin_lss, bin_leq, bin_gtr, bin_geq, un_not, un_neg, pick_true, pick_false, extract_two_0, extract_two_1, nilCheck_pointer, cond_true', cond_false', guard_tt, guard_ff, guard_tf, guard_ft, guard_undef, seqQ_normal, seqQ_ret, seqQ_exit, blockQ_ret, blockQ_normal, blockQ_exit, bodyQ_ret, bodyQ_normal, resK_nil, resK_tmp, ite_T, ite_F, upd_at, add_plain, add_zero', Nat.reduceEqDiff, fa8_0, fa8_1, fa8_2, fa8_3, fa14_0, fa14_1, fa19_0, len22, len24, fa26_0, fa26_1, fa26_2, len27, fa33_0, fa33_1, len35, fa77_0, fa77_1, fa88_0, fa88_1, fa88_2, fa88_3, fa88_4, fa88_5, fa114_0, fa114_1, fa114_2, fa124_0, fa124_1, len134, len136, len154, fa156_0, fa156_1, fa156_2, fa156_3, fa156_4, fa156_5, fa156_6, fa184_0, fa184_1, fa200_0, fa200_1, fa200_2, fa200_3, fa215_0, fa215_1, fa215_2, fa215_3, fa215_4, len218, len271, fa274_0, fa274_1, fa274_2, fa303_0, fa303_1, fa303_2, fa303_3, fa314_0, fa314_1, fa314_2, fa314_3, fa314_4, fa314_5, fa314_6, fa314_7, fa314_8, fa314_9, fa314_10]
      exact hK _ _ (H.get 0 rfl)
    | some u =>
      rw [hst] at H
      have hsi := star_in hst
      simp only [Option.isSome_some, bin_add, bin_sub, bin_mul, bin_eql, bin_neq, bin_lss, bin_leq, bin_gtr, bin_geq, un_not, un_neg, pick_true, pick_false, extract_two_0, extract_two_1, nilCheck_pointer, cond_true', cond_false', guard_tt, guard_ff, guard_tf, guard_ft, guard_undef, seqQ_normal, seqQ_ret, seqQ_exit, blockQ_ret, blockQ_normal, blockQ_exit, bodyQ_ret, bodyQ_normal, resK_nil, resK_tmp, ite_T, ite_F, upd_at, add_plain, add_zero', Nat.reduceEqDiff, fa8_0, fa8_1, fa8_2, fa8_3, fa14_0, fa14_1, fa19_0, len22, len24, fa26_0, fa26_1, fa26_2, len27, fa33_0, fa33_1, len35, fa77_0, fa77_1, fa88_0, fa88_1, fa88_2, fa88_3, fa88_4, fa88_5, fa114_0, fa114_1, fa114_2, fa124_0, fa124_1, len134, len136, len154, fa156_0, fa156_1, fa156_2, fa156_3, fa156_4, fa156_5, fa156_6, fa184_0, fa184_1, fa200_0, fa200_1, fa200_2, fa200_3, fa215_0, fa215_1, fa215_2, fa215_3, fa215_4, len218, len271, fa274_0, fa274_1, fa274_2, fa303_0, fa303_1, fa303_2, fa303_3, fa314_0, fa314_1, fa314_2, fa314_3, fa314_4, fa314_5, fa314_6, fa314_7, fa314_8, fa314_9, fa314_10]
      rw [ldB_agg agg26 sz26 rfl (H.get 19 rfl)]
      refine implInLanguage_n (gm := u) (ws := []) (H.get 18 rfl) ⟨⟨by simp, fun h => by simp at h, fun j hj => by simp at hj⟩, Nat.le_refl _⟩ rfl fun w22 g => ?_
      have H := H.step g
      rw [inLV_of hsi.2.1 (by simp [wordB, allB]), hsi.2.2.2.1]
      simp only [Bool.not_true, bin_add, bin_sub, bin_mul, bin_eql, bin_neq, bin_lss, bin_leq, bin_gtr, bin_geq, un_not, un_neg, pick_true, pick_false, extract_two_0, extract_two_1, nilCheck_pointer, cond_true', cond_false', guard_tt, guard_ff, guard_tf, guard_ft, guard_undef, seqQ_normal, seqQ_ret, seqQ_exit, blockQ_ret, blockQ_normal, blockQ_exit, bodyQ_ret, bodyQ_normal, resK_nil, resK_tmp, ite_T, ite_F, upd_at, add_plain, add_zero', Nat.reduceEqDiff, fa8_0, fa8_1, fa8_2, fa8_3, fa14_0, fa14_1, fa19_0, len22, len24, fa26_0, fa26_1, fa26_2, len27, fa33_0, fa33_1, len35, fa77_0, fa77_1, fa88_0, fa88_1, fa88_2, fa88_3, fa88_4, fa88_5, fa114_0, fa114_1, fa114_2, fa124_0, fa124_1, len134, len136, len154, fa156_0, fa156_1, fa156_2, fa156_3, fa156_4, fa156_5, fa156_6, fa184_0, fa184_1, fa200_0, fa200_1, fa200_2, fa200_3, fa215_0, fa215_1, fa215_2, fa215_3, fa215_4, len218, len271, fa274_0, fa274_1, fa274_2, fa303_0, fa303_1, fa303_2, fa303_3, fa314_0, fa314_1, fa314_2, fa314_3, fa314_4, fa314_5, fa314_6, fa314_7, fa314_8, fa314_9, fa314_10]
      rw [ldB_agg agg26 sz26 rfl (H.get 17 rfl)]
      refine implShortWords_c (gvK (H.get 16 rfl)) fun w23 U d ps g o => ?_
      have H := (H.step g).addS o.read
      clear o
      simp only [List.cons_append, List.nil_append] at H
      have hsv : (shortV gs 2).2 = true := by
        unfold shortV
        rw [hsi.1, if_pos (by rfl)]
      rw [hsv]
      have hmem : ∀ x ∈ (shortV gs 2).1, x.length ≤ 4 ∧ wordB u.toks x = true ∧ inL gs.rules x = true := fun x hx => by
        have := shortV_mem4 hx
        rw [hsi.2.2.1]
        exact this.2
      generalize (shortV gs 2).1 = ls at *
      have hle := (H.get 23 rfl).le
      simp only [bin_add, bin_sub, bin_mul, bin_eql, bin_neq, bin_lss, bin_leq, bin_gtr, bin_geq, un_not, un_neg, pick_true, pick_false, extract_two_0, extract_two_1, nilCheck_pointer, cond_true', cond_false', guard_tt, guard_ff, guard_tf, guard_ft, guard_undef, seqQ_normal, seqQ_ret, seqQ_exit, blockQ_ret, blockQ_normal, blockQ_exit, bodyQ_ret, bodyQ_normal, resK_nil, resK_tmp, ite_T, ite_F, upd_at, add_plain, add_zero', Nat.reduceEqDiff, fa8_0, fa8_1, fa8_2, fa8_3, fa14_0, fa14_1, fa19_0, len22, len24, fa26_0, fa26_1, fa26_2, len27, fa33_0, fa33_1, len35, fa77_0, fa77_1, fa88_0, fa88_1, fa88_2, fa88_3, fa88_4, fa88_5, fa114_0, fa114_1, fa114_2, fa124_0, fa124_1, len134, len136, len154, fa156_0, fa156_1, fa156_2, fa156_3, fa156_4, fa156_5, fa156_6, fa184_0, fa184_1, fa200_0, fa200_1, fa200_2, fa200_3, fa215_0, fa215_1, fa215_2, fa215_3, fa215_4, len218, len271, fa274_0, fa274_1, fa274_2, fa303_0, fa303_1, fa303_2, fa303_3, fa314_0, fa314_1, fa314_2, fa314_3, fa314_4, fa314_5, fa314_6, fa314_7, fa314_8, fa314_9, fa314_10]
      have H := H.add (P := fun w' => Gr w23 w') fun w' g => g
      simp only [List.cons_append, List.nil_append] at H
      refine loop_to ls.length 0 (fun i f w' => i ≤ ls.length ∧ f 243 = .int .i64 (i : Int) ∧ Gr w23 w') ⟨Nat.zero_le _, rfl, Gr.refl _⟩ ?_
      rintro i f w24 N hag ⟨hi, f243, g⟩ hN
      have H := H.step g
      have f32 : f 32 = ptrv bx1 := hag 32 (by decide)
      have f38 : f 38 = .slice U ls.length d := hag 38 (by decide)
      have f39 : f 39 = .bool true := hag 39 (by decide)
      have f241 : f 241 = .slice U ls.length d := hag 241 (by decide)
      have f242 : f 242 = .int .i64 ls.length := hag 242 (by decide)
      simp only [f38, f241, f242, f243, bin_add, bin_sub, bin_mul, bin_eql, bin_neq, bin_lss, bin_leq, bin_gtr, bin_geq, un_not, un_neg, pick_true, pick_false, extract_two_0, extract_two_1, nilCheck_pointer, cond_true', cond_false', guard_tt, guard_ff, guard_tf, guard_ft, guard_undef, seqQ_normal, seqQ_ret, seqQ_exit, blockQ_ret, blockQ_normal, blockQ_exit, bodyQ_ret, bodyQ_normal, resK_nil, resK_tmp, ite_T, ite_F, upd_at, add_plain, add_zero', Nat.reduceEqDiff, fa8_0, fa8_1, fa8_2, fa8_3, fa14_0, fa14_1, fa19_0, len22, len24, fa26_0, fa26_1, fa26_2, len27, fa33_0, fa33_1, len35, fa77_0, fa77_1, fa88_0, fa88_1, fa88_2, fa88_3, fa88_4, fa88_5, fa114_0, fa114_1, fa114_2, fa124_0, fa124_1, len134, len136, len154, fa156_0, fa156_1, fa156_2, fa156_3, fa156_4, fa156_5, fa156_6, fa184_0, fa184_1, fa200_0, fa200_1, fa200_2, fa200_3, fa215_0, fa215_1, fa215_2, fa215_3, fa215_4, len218, len271, fa274_0, fa274_1, fa274_2, fa303_0, fa303_1, fa303_2, fa303_3, fa314_0, fa314_1, fa314_2, fa314_3, fa314_4, fa314_5, fa314_6, fa314_7, fa314_8, fa314_9, fa314_10]
      by_cases hlt : i < ls.length
      case neg =>
        simp only [show ¬ ((i : Int) < (ls.length : Int)) from by omega, decide_false, bin_add, bin_sub, bin_mul, bin_eql, bin_neq, bin_lss, bin_leq, bin_gtr, bin_geq, un_not, un_neg, pick_true, pick_false, extract_two_0, extract_two_1, nilCheck_pointer, cond_true', cond_false', guard_tt, guard_ff, guard_tf, guard_ft, guard_undef, seqQ_normal, seqQ_ret, seqQ_exit, blockQ_ret, blockQ_normal, blockQ_exit, bodyQ_ret, bodyQ_normal, resK_nil, resK_tmp, ite_T, ite_F, upd_at, add_plain, add_zero', Nat.reduceEqDiff, fa8_0, fa8_1, fa8_2, fa8_3, fa14_0, fa14_1, fa19_0, len22, len24, fa26_0, fa26_1, fa26_2, len27, fa33_0, fa33_1, len35, fa77_0, fa77_1, fa88_0, fa88_1, fa88_2, fa88_3, fa88_4, fa88_5, fa114_0, fa114_1, fa114_2, fa124_0, fa124_1, len134, len136, len154, fa156_0, fa156_1, fa156_2, fa156_3, fa156_4, fa156_5, fa156_6, fa184_0, fa184_1, fa200_0, fa200_1, fa200_2, fa200_3, fa215_0, fa215_1, fa215_2, fa215_3, fa215_4, len218, len271, fa274_0, fa274_1, fa274_2, fa303_0, fa303_1, fa303_2, fa303_3, fa314_0, fa314_1, fa314_2, fa314_3, fa314_4, fa314_5, fa314_6, fa314_7, fa314_8, fa314_9, fa314_10]
        exact hK _ _ (H.get 0 rfl)
      simp only [show ((i : Int) < (ls.length : Int)) from by omega, decide_true, bin_add, bin_sub, bin_mul, bin_eql, bin_neq, bin_lss, bin_leq, bin_gtr, bin_geq, un_not, un_neg, pick_true, pick_false, extract_two_0, extract_two_1, nilCheck_pointer, cond_true', cond_false', guard_tt, guard_ff, guard_tf, guard_ft, guard_undef, seqQ_normal, seqQ_ret, seqQ_exit, blockQ_ret, blockQ_normal, blockQ_exit, bodyQ_ret, bodyQ_normal, resK_nil, resK_tmp, ite_T, ite_F, upd_at, add_plain, add_zero', Nat.reduceEqDiff, fa8_0, fa8_1, fa8_2, fa8_3, fa14_0, fa14_1, fa19_0, len22, len24, fa26_0, fa26_1, fa26_2, len27, fa33_0, fa33_1, len35, fa77_0, fa77_1, fa88_0, fa88_1, fa88_2, fa88_3, fa88_4, fa88_5, fa114_0, fa114_1, fa114_2, fa124_0, fa124_1, len134, len136, len154, fa156_0, fa156_1, fa156_2, fa156_3, fa156_4, fa156_5, fa156_6, fa184_0, fa184_1, fa200_0, fa200_1, fa200_2, fa200_3, fa215_0, fa215_1, fa215_2, fa215_3, fa215_4, len218, len271, fa274_0, fa274_1, fa274_2, fa303_0, fa303_1, fa303_2, fa303_3, fa314_0, fa314_1, fa314_2, fa314_3, fa314_4, fa314_5, fa314_6, fa314_7, fa314_8, fa314_9, fa314_10]
      have hS := H.get 23 rfl
      obtain ⟨Z, cz, z1, z2, z3⟩ := hS.row i hlt
      refine rdi (ixn35 hS.ptr hlt) (rdi (ld27 z1) ?_)
      have H := H.addI z3 z2
      simp only [List.cons_append, List.nil_append] at H
      refine loop_to ls.length 0 (fun j f w' => j ≤ ls.length ∧ f 249 = .int .i64 (j : Int) ∧ Gr w24 w') ⟨Nat.zero_le _, rfl, Gr.refl _⟩ ?_
      rintro j q w25 N2 hag2 ⟨hj, q249, g25⟩ hN2
      have H := H.step g25
      have q32 : q 32 = ptrv bx1 := (hag2 32 (by decide)).trans f32
      have q39 : q 39 = .bool true := (hag2 39 (by decide)).trans f39
      have q41 : q 41 = .slice Z (rgt ls i).length cz := hag2 41 (by decide)
      have q243 : q 243 = .int .i64 (i : Int) := (hag2 243 (by decide)).trans f243
      have q247 : q 247 = .slice U ls.length d := hag2 247 (by decide)
      have q248 : q 248 = .int .i64 ls.length := hag2 248 (by decide)
      simp only [q32, q39, q41, q247, q248, q249, bin_add, bin_sub, bin_mul, bin_eql, bin_neq, bin_lss, bin_leq, bin_gtr, bin_geq, un_not, un_neg, pick_true, pick_false, extract_two_0, extract_two_1, nilCheck_pointer, cond_true', cond_false', guard_tt, guard_ff, guard_tf, guard_ft, guard_undef, seqQ_normal, seqQ_ret, seqQ_exit, blockQ_ret, blockQ_normal, blockQ_exit, bodyQ_ret, bodyQ_normal, resK_nil, resK_tmp, ite_T, ite_F, upd_at, add_plain, add_zero', Nat.reduceEqDiff, fa8_0, fa8_1, fa8_2, fa8_3, fa14_0, fa14_1, fa19_0, len22, len24, fa26_0, fa26_1, fa26_2, len27, fa33_0, fa33_1, len35, fa77_0, fa77_1, fa88_0, fa88_1, fa88_2, fa88_3, fa88_4, fa88_5, fa114_0, fa114_1, fa114_2, fa124_0, fa124_1, len134, len136, len154, fa156_0, fa156_1, fa156_2, fa156_3, fa156_4, fa156_5, fa156_6, fa184_0, fa184_1, fa200_0, fa200_1, fa200_2, fa200_3, fa215_0, fa215_1, fa215_2, fa215_3, fa215_4, len218, len271, fa274_0, fa274_1, fa274_2, fa303_0, fa303_1, fa303_2, fa303_3, fa314_0, fa314_1, fa314_2, fa314_3, fa314_4, fa314_5, fa314_6, fa314_7, fa314_8, fa314_9, fa314_10]
      by_cases hlt2 : j < ls.length
      case neg =>
        simp only [show ¬ ((j : Int) < (ls.length : Int)) from by omega, decide_false, q243, bin_add, bin_sub, bin_mul, bin_eql, bin_neq, bin_lss, bin_leq, bin_gtr, bin_geq, un_not, un_neg, pick_true, pick_false, extract_two_0, extract_two_1, nilCheck_pointer, cond_true', cond_false', guard_tt, guard_ff, guard_tf, guard_ft, guard_undef, seqQ_normal, seqQ_ret, seqQ_exit, blockQ_ret, blockQ_normal, blockQ_exit, bodyQ_ret, bodyQ_normal, resK_nil, resK_tmp, ite_T, ite_F, upd_at, add_plain, add_zero', Nat.reduceEqDiff, fa8_0, fa8_1, fa8_2, fa8_3, fa14_0, fa14_1, fa19_0, len22, len24, fa26_0, fa26_1, fa26_2, len27, fa33_0, fa33_1, len35, fa77_0, fa77_1, fa88_0, fa88_1, fa88_2, fa88_3, fa88_4, fa88_5, fa114_0, fa114_1, fa114_2, fa124_0, fa124_1, len134, len136, len154, fa156_0, fa156_1, fa156_2, fa156_3, fa156_4, fa156_5, fa156_6, fa184_0, fa184_1, fa200_0, fa200_1, fa200_2, fa200_3, fa215_0, fa215_1, fa215_2, fa215_3, fa215_4, len218, len271, fa274_0, fa274_1, fa274_2, fa303_0, fa303_1, fa303_2, fa303_3, fa314_0, fa314_1, fa314_2, fa314_3, fa314_4, fa314_5, fa314_6, fa314_7, fa314_8, fa314_9, fa314_10]
        rw [i64_of (by omega) (by omega)]
        exact hN _ _ hlt ⟨by omega, rfl, H.get 24 rfl⟩
      simp only [show ((j : Int) < (ls.length : Int)) from by omega, decide_true, bin_add, bin_sub, bin_mul, bin_eql, bin_neq, bin_lss, bin_leq, bin_gtr, bin_geq, un_not, un_neg, pick_true, pick_false, extract_two_0, extract_two_1, nilCheck_pointer, cond_true', cond_false', guard_tt, guard_ff, guard_tf, guard_ft, guard_undef, seqQ_normal, seqQ_ret, seqQ_exit, blockQ_ret, blockQ_normal, blockQ_exit, bodyQ_ret, bodyQ_normal, resK_nil, resK_tmp, ite_T, ite_F, upd_at, add_plain, add_zero', Nat.reduceEqDiff, fa8_0, fa8_1, fa8_2, fa8_3, fa14_0, fa14_1, fa19_0, len22, len24, fa26_0, fa26_1, fa26_2, len27, fa33_0, fa33_1, len35, fa77_0, fa77_1, fa88_0, fa88_1, fa88_2, fa88_3, fa88_4, fa88_5, fa114_0, fa114_1, fa114_2, fa124_0, fa124_1, len134, len136, len154, fa156_0, fa156_1, fa156_2, fa156_3, fa156_4, fa156_5, fa156_6, fa184_0, fa184_1, fa200_0, fa200_1, fa200_2, fa200_3, fa215_0, fa215_1, fa215_2, fa215_3, fa215_4, len218, len271, fa274_0, fa274_1, fa274_2, fa303_0, fa303_1, fa303_2, fa303_3, fa314_0, fa314_1, fa314_2, fa314_3, fa314_4, fa314_5, fa314_6, fa314_7, fa314_8, fa314_9, fa314_10]
      have hS := H.get 23 rfl
      obtain ⟨V, cv, v1, v2, v3⟩ := hS.row j hlt2
      refine rdi (ixn35 hS.ptr hlt2) (rdi (ld27 v1) ?_)
      have H := H.addI v3 v2
      have H := H.drew
      simp only [List.cons_append, List.nil_append] at H
      refine ⟨fun w' => Gr w25.drew w', Gr.refl _, ?_⟩
      refine rdi (rdS26 rfl fun w' h => (H.get 19 rfl).gr h) ?_
      have m1 := hmem _ (rgt_mem hlt)
      have m2 := hmem _ (rgt_mem hlt2)
      have A := Apt.nil w25.drew
      refine buildH A u27 inf3 [] (by decide) (by decide) (by simp [Instr.fill, madeCells]) rfl fun b0 w26 A => ?_
      simp only [List.nil_append] at A
      refine ⟨A.gr, ?_⟩
      refine apH A 0 (xs := []) rfl ((H.get 25 rfl).1.gr A.gr) rfl rfl (by simp; omega) fun Z1 d1 w27 A => ?_
      simp only [List.set_cons_zero, List.nil_append] at A ⊢
      refine ⟨A.gr, ?_⟩
      refine apH A 0 rfl ((H.get 26 rfl).1.gr A.gr) rfl rfl (by omega) fun Z2 d2 w28 A => ?_
      simp only [List.set_cons_zero] at A
      refine ⟨A.gr, ?_⟩
      have H := H.step A.gr
      refine implInLanguage_c (gm := u) (H.get 18 rfl) ⟨A.ints 0 rfl, (A.row 0 rfl).cap.1⟩ fun w29 g => ?_
      have H := H.step g
      rw [inLV_of hsi.2.1 (wordB_append m1.2.1 m2.2.1 (by omega)), hsi.2.2.2.2 _ _ (by omega) (by omega) m1.2.2 m2.2.2]
      simp only [Bool.not_true, bin_add, bin_sub, bin_mul, bin_eql, bin_neq, bin_lss, bin_leq, bin_gtr, bin_geq, un_not, un_neg, pick_true, pick_false, extract_two_0, extract_two_1, nilCheck_pointer, cond_true', cond_false', guard_tt, guard_ff, guard_tf, guard_ft, guard_undef, seqQ_normal, seqQ_ret, seqQ_exit, blockQ_ret, blockQ_normal, blockQ_exit, bodyQ_ret, bodyQ_normal, resK_nil, resK_tmp, ite_T, ite_F, upd_at, add_plain, add_zero', Nat.reduceEqDiff, fa8_0, fa8_1, fa8_2, fa8_3, fa14_0, fa14_1, fa19_0, len22, len24, fa26_0, fa26_1, fa26_2, len27, fa33_0, fa33_1, len35, fa77_0, fa77_1, fa88_0, fa88_1, fa88_2, fa88_3, fa88_4, fa88_5, fa114_0, fa114_1, fa114_2, fa124_0, fa124_1, len134, len136, len154, fa156_0, fa156_1, fa156_2, fa156_3, fa156_4, fa156_5, fa156_6, fa184_0, fa184_1, fa200_0, fa200_1, fa200_2, fa200_3, fa215_0, fa215_1, fa215_2, fa215_3, fa215_4, len218, len271, fa274_0, fa274_1, fa274_2, fa303_0, fa303_1, fa303_2, fa303_3, fa314_0, fa314_1, fa314_2, fa314_3, fa314_4, fa314_5, fa314_6, fa314_7, fa314_8, fa314_9, fa314_10]
      rw [i64_of (by omega) (by omega)]
      exact hN2 _ _ hlt2 ⟨by omega, rfl, gr_trans g25 (gr_trans (gr_drew _) (gr_trans A.gr g))⟩
end Go.Proofs.Ytegcjkhebecgbaa

/- Facts of the program alone, that each row asks for: its init order's words, and that it is laid out. -/
set_option maxRecDepth 100000
namespace Go.Proofs.Ytegcjkhebecgbaa
open Go
theorem make_of {P : Program} {W : List (List Char)} {c : List Char} {rest : List (List Char)} (h : behindMainWord (wordsSigns P.initOrder.toList) = W) (hW : W = c :: rest) (hc : (c == "gc".toList || c == "spec".toList) = false) (h2 : (c == "cut".toList) = true) : P.make = some .cut := by
  unfold Program.make
  rw [h, hW]
  dsimp only
  rw [if_neg (by rw [hc]; exact Bool.false_ne_true), if_pos (by rw [h2]; rfl)]
theorem lifts_of {P : Program} {W : List (List Char)} (h : behindMainWord (wordsSigns P.initOrder.toList) = W) (h1 : (W.head? == some "carried".toList) = false) (h2 : (stripLifts liftWords W).1.contains "finals" = false) : P.liftsFinal = false := by
  unfold Program.liftsFinal Program.headLifts
  rw [h]
  simp only [h1, Bool.false_and, Bool.false_or]
  split
  · exact h2
  · rfl
theorem may_of {P : Program} {W : List (List Char)} {c : List Char} {rest : List (List Char)} {l : List String} (h : behindMainWord (wordsSigns P.initOrder.toList) = W) (hW : W = c :: rest) (hl : P.laysLater = false) (hb : P.bearsReflect = false) (hs : stripLifts liftWords (c :: rest) = (l, c :: rest)) (h2 : (c == "cut".toList) = true) (h3 : l.contains "leanrows" = false) (hd : P.doorFits l = true) : P.mayEnter = true := by
  unfold Program.mayEnter
  rw [h, hW]
  have h4 : (some c == some "cut".toList) = true := h2
  simp only [hs, hl, hb, h3, hd, h4, List.head?_cons, Bool.not_false, Bool.and_true, Bool.or_true]
def signs : List Char := Char.ofNat 104 :: Char.ofNat 97 :: Char.ofNat 114 :: Char.ofNat 110 :: Char.ofNat 101 :: Char.ofNat 115 :: Char.ofNat 115 :: Char.ofNat 32 :: Char.ofNat 54 :: Char.ofNat 56 :: Char.ofNat 98 :: Char.ofNat 99 :: Char.ofNat 101 :: Char.ofNat 53 :: Char.ofNat 101 :: Char.ofNat 51 :: Char.ofNat 48 :: Char.ofNat 98 :: Char.ofNat 99 :: Char.ofNat 100 :: Char.ofNat 53 :: Char.ofNat 48 :: Char.ofNat 57 :: Char.ofNat 53 :: Char.ofNat 50 :: Char.ofNat 99 :: Char.ofNat 57 :: Char.ofNat 55 :: Char.ofNat 55 :: Char.ofNat 51 :: Char.ofNat 57 :: Char.ofNat 97 :: Char.ofNat 99 :: Char.ofNat 97 :: Char.ofNat 98 :: Char.ofNat 101 :: Char.ofNat 102 :: Char.ofNat 48 :: Char.ofNat 52 :: Char.ofNat 57 :: Char.ofNat 51 :: Char.ofNat 48 :: Char.ofNat 48 :: Char.ofNat 48 :: Char.ofNat 56 :: Char.ofNat 52 :: Char.ofNat 101 :: Char.ofNat 101 :: Char.ofNat 57 :: Char.ofNat 53 :: Char.ofNat 57 :: Char.ofNat 50 :: Char.ofNat 101 :: Char.ofNat 52 :: Char.ofNat 50 :: Char.ofNat 50 :: Char.ofNat 48 :: Char.ofNat 98 :: Char.ofNat 48 :: Char.ofNat 51 :: Char.ofNat 100 :: Char.ofNat 98 :: Char.ofNat 56 :: Char.ofNat 101 :: Char.ofNat 54 :: Char.ofNat 52 :: Char.ofNat 99 :: Char.ofNat 98 :: Char.ofNat 53 :: Char.ofNat 55 :: Char.ofNat 49 :: Char.ofNat 98 :: Char.ofNat 32 :: Char.ofNat 99 :: Char.ofNat 117 :: Char.ofNat 116 :: Char.ofNat 32 :: Char.ofNat 97 :: Char.ofNat 116 :: Char.ofNat 32 :: Char.ofNat 108 :: Char.ofNat 111 :: Char.ofNat 111 :: Char.ofNat 112 :: Char.ofNat 46 :: Char.ofNat 101 :: Char.ofNat 120 :: Char.ofNat 97 :: Char.ofNat 109 :: Char.ofNat 112 :: Char.ofNat 108 :: Char.ofNat 101 :: Char.ofNat 47 :: Char.ofNat 103 :: Char.ofNat 48 :: Char.ofNat 48 :: Char.ofNat 55 :: Char.ofNat 53 :: Char.ofNat 56 :: Char.ofNat 47 :: Char.ofNat 108 :: Char.ofNat 97 :: Char.ofNat 119 :: Char.ofNat 115 :: Char.ofNat 46 :: Char.ofNat 70 :: Char.ofNat 110 :: Char.ofNat 68 :: Char.ofNat 101 :: Char.ofNat 114 :: Char.ofNat 105 :: Char.ofNat 118 :: Char.ofNat 101 :: Char.ofNat 115 :: Char.ofNat 32 :: Char.ofNat 108 :: Char.ofNat 111 :: Char.ofNat 111 :: Char.ofNat 112 :: Char.ofNat 46 :: Char.ofNat 101 :: Char.ofNat 120 :: Char.ofNat 97 :: Char.ofNat 109 :: Char.ofNat 112 :: Char.ofNat 108 :: Char.ofNat 101 :: Char.ofNat 47 :: Char.ofNat 103 :: Char.ofNat 48 :: Char.ofNat 48 :: Char.ofNat 55 :: Char.ofNat 53 :: Char.ofNat 56 :: Char.ofNat 47 :: Char.ofNat 108 :: Char.ofNat 97 :: Char.ofNat 119 :: Char.ofNat 115 :: Char.ofNat 46 :: Char.ofNat 70 :: Char.ofNat 110 :: Char.ofNat 70 :: Char.ofNat 105 :: Char.ofNat 114 :: Char.ofNat 115 :: Char.ofNat 116 :: Char.ofNat 115 :: Char.ofNat 32 :: Char.ofNat 108 :: Char.ofNat 111 :: Char.ofNat 111 :: Char.ofNat 112 :: Char.ofNat 46 :: Char.ofNat 101 :: Char.ofNat 120 :: Char.ofNat 97 :: Char.ofNat 109 :: Char.ofNat 112 :: Char.ofNat 108 :: Char.ofNat 101 :: Char.ofNat 47 :: Char.ofNat 103 :: Char.ofNat 48 :: Char.ofNat 48 :: Char.ofNat 55 :: Char.ofNat 53 :: Char.ofNat 56 :: Char.ofNat 47 :: Char.ofNat 108 :: Char.ofNat 97 :: Char.ofNat 119 :: Char.ofNat 115 :: Char.ofNat 46 :: Char.ofNat 70 :: Char.ofNat 110 :: Char.ofNat 66 :: Char.ofNat 101 :: Char.ofNat 115 :: Char.ofNat 105 :: Char.ofNat 100 :: Char.ofNat 101 :: Char.ofNat 32 :: Char.ofNat 108 :: Char.ofNat 111 :: Char.ofNat 111 :: Char.ofNat 112 :: Char.ofNat 46 :: Char.ofNat 101 :: Char.ofNat 120 :: Char.ofNat 97 :: Char.ofNat 109 :: Char.ofNat 112 :: Char.ofNat 108 :: Char.ofNat 101 :: Char.ofNat 47 :: Char.ofNat 103 :: Char.ofNat 48 :: Char.ofNat 48 :: Char.ofNat 55 :: Char.ofNat 53 :: Char.ofNat 56 :: Char.ofNat 47 :: Char.ofNat 108 :: Char.ofNat 97 :: Char.ofNat 119 :: Char.ofNat 115 :: Char.ofNat 46 :: Char.ofNat 70 :: Char.ofNat 110 :: Char.ofNat 82 :: Char.ofNat 101 :: Char.ofNat 119 :: Char.ofNat 114 :: Char.ofNat 105 :: Char.ofNat 116 :: Char.ofNat 101 :: Char.ofNat 115 :: Char.ofNat 32 :: Char.ofNat 108 :: Char.ofNat 111 :: Char.ofNat 111 :: Char.ofNat 112 :: Char.ofNat 46 :: Char.ofNat 101 :: Char.ofNat 120 :: Char.ofNat 97 :: Char.ofNat 109 :: Char.ofNat 112 :: Char.ofNat 108 :: Char.ofNat 101 :: Char.ofNat 47 :: Char.ofNat 103 :: Char.ofNat 48 :: Char.ofNat 48 :: Char.ofNat 55 :: Char.ofNat 53 :: Char.ofNat 56 :: Char.ofNat 47 :: Char.ofNat 108 :: Char.ofNat 97 :: Char.ofNat 119 :: Char.ofNat 115 :: Char.ofNat 46 :: Char.ofNat 70 :: Char.ofNat 110 :: Char.ofNat 70 :: Char.ofNat 105 :: Char.ofNat 110 :: Char.ofNat 105 :: Char.ofNat 116 :: Char.ofNat 101 :: Char.ofNat 32 :: Char.ofNat 108 :: Char.ofNat 111 :: Char.ofNat 111 :: Char.ofNat 112 :: Char.ofNat 46 :: Char.ofNat 101 :: Char.ofNat 120 :: Char.ofNat 97 :: Char.ofNat 109 :: Char.ofNat 112 :: Char.ofNat 108 :: Char.ofNat 101 :: Char.ofNat 47 :: Char.ofNat 103 :: Char.ofNat 48 :: Char.ofNat 48 :: Char.ofNat 55 :: Char.ofNat 53 :: Char.ofNat 56 :: Char.ofNat 47 :: Char.ofNat 108 :: Char.ofNat 97 :: Char.ofNat 119 :: Char.ofNat 115 :: Char.ofNat 46 :: Char.ofNat 70 :: Char.ofNat 110 :: Char.ofNat 85 :: Char.ofNat 115 :: Char.ofNat 101 :: Char.ofNat 102 :: Char.ofNat 117 :: Char.ofNat 108 :: Char.ofNat 32 :: Char.ofNat 108 :: Char.ofNat 111 :: Char.ofNat 111 :: Char.ofNat 112 :: Char.ofNat 46 :: Char.ofNat 101 :: Char.ofNat 120 :: Char.ofNat 97 :: Char.ofNat 109 :: Char.ofNat 112 :: Char.ofNat 108 :: Char.ofNat 101 :: Char.ofNat 47 :: Char.ofNat 103 :: Char.ofNat 48 :: Char.ofNat 48 :: Char.ofNat 55 :: Char.ofNat 53 :: Char.ofNat 56 :: Char.ofNat 47 :: Char.ofNat 108 :: Char.ofNat 97 :: Char.ofNat 119 :: Char.ofNat 115 :: Char.ofNat 46 :: Char.ofNat 70 :: Char.ofNat 110 :: Char.ofNat 85 :: Char.ofNat 110 :: Char.ofNat 108 :: Char.ofNat 105 :: Char.ofNat 107 :: Char.ofNat 101 :: Char.ofNat 32 :: Char.ofNat 108 :: Char.ofNat 111 :: Char.ofNat 111 :: Char.ofNat 112 :: Char.ofNat 46 :: Char.ofNat 101 :: Char.ofNat 120 :: Char.ofNat 97 :: Char.ofNat 109 :: Char.ofNat 112 :: Char.ofNat 108 :: Char.ofNat 101 :: Char.ofNat 47 :: Char.ofNat 103 :: Char.ofNat 48 :: Char.ofNat 48 :: Char.ofNat 55 :: Char.ofNat 53 :: Char.ofNat 56 :: Char.ofNat 47 :: Char.ofNat 108 :: Char.ofNat 97 :: Char.ofNat 119 :: Char.ofNat 115 :: Char.ofNat 46 :: Char.ofNat 70 :: Char.ofNat 110 :: Char.ofNat 67 :: Char.ofNat 101 :: Char.ofNat 108 :: Char.ofNat 108 :: Char.ofNat 115 :: Char.ofNat 32 :: Char.ofNat 108 :: Char.ofNat 111 :: Char.ofNat 111 :: Char.ofNat 112 :: Char.ofNat 46 :: Char.ofNat 101 :: Char.ofNat 120 :: Char.ofNat 97 :: Char.ofNat 109 :: Char.ofNat 112 :: Char.ofNat 108 :: Char.ofNat 101 :: Char.ofNat 47 :: Char.ofNat 103 :: Char.ofNat 48 :: Char.ofNat 48 :: Char.ofNat 55 :: Char.ofNat 53 :: Char.ofNat 56 :: Char.ofNat 47 :: Char.ofNat 108 :: Char.ofNat 97 :: Char.ofNat 119 :: Char.ofNat 115 :: Char.ofNat 46 :: Char.ofNat 70 :: Char.ofNat 110 :: Char.ofNat 77 :: Char.ofNat 101 :: Char.ofNat 110 :: Char.ofNat 100 :: Char.ofNat 32 :: Char.ofNat 108 :: Char.ofNat 111 :: Char.ofNat 111 :: Char.ofNat 112 :: Char.ofNat 46 :: Char.ofNat 101 :: Char.ofNat 120 :: Char.ofNat 97 :: Char.ofNat 109 :: Char.ofNat 112 :: Char.ofNat 108 :: Char.ofNat 101 :: Char.ofNat 47 :: Char.ofNat 103 :: Char.ofNat 48 :: Char.ofNat 48 :: Char.ofNat 55 :: Char.ofNat 53 :: Char.ofNat 56 :: Char.ofNat 47 :: Char.ofNat 108 :: Char.ofNat 97 :: Char.ofNat 119 :: Char.ofNat 115 :: Char.ofNat 46 :: Char.ofNat 70 :: Char.ofNat 110 :: Char.ofNat 80 :: Char.ofNat 117 :: Char.ofNat 109 :: Char.ofNat 112 :: Char.ofNat 32 :: Char.ofNat 108 :: Char.ofNat 111 :: Char.ofNat 111 :: Char.ofNat 112 :: Char.ofNat 46 :: Char.ofNat 101 :: Char.ofNat 120 :: Char.ofNat 97 :: Char.ofNat 109 :: Char.ofNat 112 :: Char.ofNat 108 :: Char.ofNat 101 :: Char.ofNat 47 :: Char.ofNat 103 :: Char.ofNat 48 :: Char.ofNat 48 :: Char.ofNat 55 :: Char.ofNat 53 :: Char.ofNat 56 :: Char.ofNat 47 :: Char.ofNat 108 :: Char.ofNat 97 :: Char.ofNat 119 :: Char.ofNat 115 :: Char.ofNat 46 :: Char.ofNat 70 :: Char.ofNat 110 :: Char.ofNat 76 :: Char.ofNat 111 :: Char.ofNat 110 :: Char.ofNat 103 :: Char.ofNat 69 :: Char.ofNat 110 :: Char.ofNat 111 :: Char.ofNat 117 :: Char.ofNat 103 :: Char.ofNat 104 :: Char.ofNat 32 :: Char.ofNat 108 :: Char.ofNat 111 :: Char.ofNat 111 :: Char.ofNat 112 :: Char.ofNat 46 :: Char.ofNat 101 :: Char.ofNat 120 :: Char.ofNat 97 :: Char.ofNat 109 :: Char.ofNat 112 :: Char.ofNat 108 :: Char.ofNat 101 :: Char.ofNat 47 :: Char.ofNat 103 :: Char.ofNat 48 :: Char.ofNat 48 :: Char.ofNat 55 :: Char.ofNat 53 :: Char.ofNat 56 :: Char.ofNat 47 :: Char.ofNat 108 :: Char.ofNat 97 :: Char.ofNat 119 :: Char.ofNat 115 :: Char.ofNat 46 :: Char.ofNat 70 :: Char.ofNat 110 :: Char.ofNat 84 :: Char.ofNat 117 :: Char.ofNat 114 :: Char.ofNat 110 :: Char.ofNat 101 :: Char.ofNat 100 :: []
theorem io0 : Try.prog.initOrder = "harness 68bce5e30bcd50952c97739acabef049300084ee9592e4220b03db8e64cb571b cut at loop.example/g00758/laws.FnDerives loop.example/g00758/laws.FnFirsts loop.example/g00758/laws.FnBeside loop.example/g00758/laws.FnRewrites loop.example/g00758/laws.FnFinite loop.example/g00758/laws.FnUseful loop.example/g00758/laws.FnUnlike loop.example/g00758/laws.FnCells loop.example/g00758/laws.FnMend loop.example/g00758/laws.FnPump loop.example/g00758/laws.FnLongEnough loop.example/g00758/laws.FnTurned" := by kernel_rfl
theorem io1 : "harness 68bce5e30bcd50952c97739acabef049300084ee9592e4220b03db8e64cb571b cut at loop.example/g00758/laws.FnDerives loop.example/g00758/laws.FnFirsts loop.example/g00758/laws.FnBeside loop.example/g00758/laws.FnRewrites loop.example/g00758/laws.FnFinite loop.example/g00758/laws.FnUseful loop.example/g00758/laws.FnUnlike loop.example/g00758/laws.FnCells loop.example/g00758/laws.FnMend loop.example/g00758/laws.FnPump loop.example/g00758/laws.FnLongEnough loop.example/g00758/laws.FnTurned" = String.ofList (Char.ofNat 104 :: Char.ofNat 97 :: Char.ofNat 114 :: Char.ofNat 110 :: Char.ofNat 101 :: Char.ofNat 115 :: Char.ofNat 115 :: Char.ofNat 32 :: Char.ofNat 54 :: Char.ofNat 56 :: Char.ofNat 98 :: Char.ofNat 99 :: Char.ofNat 101 :: Char.ofNat 53 :: Char.ofNat 101 :: Char.ofNat 51 :: Char.ofNat 48 :: Char.ofNat 98 :: Char.ofNat 99 :: Char.ofNat 100 :: Char.ofNat 53 :: Char.ofNat 48 :: Char.ofNat 57 :: Char.ofNat 53 :: Char.ofNat 50 :: Char.ofNat 99 :: Char.ofNat 57 :: Char.ofNat 55 :: Char.ofNat 55 :: Char.ofNat 51 :: Char.ofNat 57 :: Char.ofNat 97 :: Char.ofNat 99 :: Char.ofNat 97 :: Char.ofNat 98 :: Char.ofNat 101 :: Char.ofNat 102 :: Char.ofNat 48 :: Char.ofNat 52 :: Char.ofNat 57 :: Char.ofNat 51 :: Char.ofNat 48 :: Char.ofNat 48 :: Char.ofNat 48 :: Char.ofNat 56 :: Char.ofNat 52 :: Char.ofNat 101 :: Char.ofNat 101 :: Char.ofNat 57 :: Char.ofNat 53 :: Char.ofNat 57 :: Char.ofNat 50 :: Char.ofNat 101 :: Char.ofNat 52 :: Char.ofNat 50 :: Char.ofNat 50 :: Char.ofNat 48 :: Char.ofNat 98 :: Char.ofNat 48 :: Char.ofNat 51 :: Char.ofNat 100 :: Char.ofNat 98 :: Char.ofNat 56 :: Char.ofNat 101 :: Char.ofNat 54 :: Char.ofNat 52 :: Char.ofNat 99 :: Char.ofNat 98 :: Char.ofNat 53 :: Char.ofNat 55 :: Char.ofNat 49 :: Char.ofNat 98 :: Char.ofNat 32 :: Char.ofNat 99 :: Char.ofNat 117 :: Char.ofNat 116 :: Char.ofNat 32 :: Char.ofNat 97 :: Char.ofNat 116 :: Char.ofNat 32 :: Char.ofNat 108 :: Char.ofNat 111 :: Char.ofNat 111 :: Char.ofNat 112 :: Char.ofNat 46 :: Char.ofNat 101 :: Char.ofNat 120 :: Char.ofNat 97 :: Char.ofNat 109 :: Char.ofNat 112 :: Char.ofNat 108 :: Char.ofNat 101 :: Char.ofNat 47 :: Char.ofNat 103 :: Char.ofNat 48 :: Char.ofNat 48 :: Char.ofNat 55 :: Char.ofNat 53 :: Char.ofNat 56 :: Char.ofNat 47 :: Char.ofNat 108 :: Char.ofNat 97 :: Char.ofNat 119 :: Char.ofNat 115 :: Char.ofNat 46 :: Char.ofNat 70 :: Char.ofNat 110 :: Char.ofNat 68 :: Char.ofNat 101 :: Char.ofNat 114 :: Char.ofNat 105 :: Char.ofNat 118 :: Char.ofNat 101 :: Char.ofNat 115 :: Char.ofNat 32 :: Char.ofNat 108 :: Char.ofNat 111 :: Char.ofNat 111 :: Char.ofNat 112 :: Char.ofNat 46 :: Char.ofNat 101 :: Char.ofNat 120 :: Char.ofNat 97 :: Char.ofNat 109 :: Char.ofNat 112 :: Char.ofNat 108 :: Char.ofNat 101 :: Char.ofNat 47 :: Char.ofNat 103 :: Char.ofNat 48 :: Char.ofNat 48 :: Char.ofNat 55 :: Char.ofNat 53 :: Char.ofNat 56 :: Char.ofNat 47 :: Char.ofNat 108 :: Char.ofNat 97 :: Char.ofNat 119 :: Char.ofNat 115 :: Char.ofNat 46 :: Char.ofNat 70 :: Char.ofNat 110 :: Char.ofNat 70 :: Char.ofNat 105 :: Char.ofNat 114 :: Char.ofNat 115 :: Char.ofNat 116 :: Char.ofNat 115 :: Char.ofNat 32 :: Char.ofNat 108 :: Char.ofNat 111 :: Char.ofNat 111 :: Char.ofNat 112 :: Char.ofNat 46 :: Char.ofNat 101 :: Char.ofNat 120 :: Char.ofNat 97 :: Char.ofNat 109 :: Char.ofNat 112 :: Char.ofNat 108 :: Char.ofNat 101 :: Char.ofNat 47 :: Char.ofNat 103 :: Char.ofNat 48 :: Char.ofNat 48 :: Char.ofNat 55 :: Char.ofNat 53 :: Char.ofNat 56 :: Char.ofNat 47 :: Char.ofNat 108 :: Char.ofNat 97 :: Char.ofNat 119 :: Char.ofNat 115 :: Char.ofNat 46 :: Char.ofNat 70 :: Char.ofNat 110 :: Char.ofNat 66 :: Char.ofNat 101 :: Char.ofNat 115 :: Char.ofNat 105 :: Char.ofNat 100 :: Char.ofNat 101 :: Char.ofNat 32 :: Char.ofNat 108 :: Char.ofNat 111 :: Char.ofNat 111 :: Char.ofNat 112 :: Char.ofNat 46 :: Char.ofNat 101 :: Char.ofNat 120 :: Char.ofNat 97 :: Char.ofNat 109 :: Char.ofNat 112 :: Char.ofNat 108 :: Char.ofNat 101 :: Char.ofNat 47 :: Char.ofNat 103 :: Char.ofNat 48 :: Char.ofNat 48 :: Char.ofNat 55 :: Char.ofNat 53 :: Char.ofNat 56 :: Char.ofNat 47 :: Char.ofNat 108 :: Char.ofNat 97 :: Char.ofNat 119 :: Char.ofNat 115 :: Char.ofNat 46 :: Char.ofNat 70 :: Char.ofNat 110 :: Char.ofNat 82 :: Char.ofNat 101 :: Char.ofNat 119 :: Char.ofNat 114 :: Char.ofNat 105 :: Char.ofNat 116 :: Char.ofNat 101 :: Char.ofNat 115 :: Char.ofNat 32 :: Char.ofNat 108 :: Char.ofNat 111 :: Char.ofNat 111 :: Char.ofNat 112 :: Char.ofNat 46 :: Char.ofNat 101 :: Char.ofNat 120 :: Char.ofNat 97 :: Char.ofNat 109 :: Char.ofNat 112 :: Char.ofNat 108 :: Char.ofNat 101 :: Char.ofNat 47 :: Char.ofNat 103 :: Char.ofNat 48 :: Char.ofNat 48 :: Char.ofNat 55 :: Char.ofNat 53 :: Char.ofNat 56 :: Char.ofNat 47 :: Char.ofNat 108 :: Char.ofNat 97 :: Char.ofNat 119 :: Char.ofNat 115 :: Char.ofNat 46 :: Char.ofNat 70 :: Char.ofNat 110 :: Char.ofNat 70 :: Char.ofNat 105 :: Char.ofNat 110 :: Char.ofNat 105 :: Char.ofNat 116 :: Char.ofNat 101 :: Char.ofNat 32 :: Char.ofNat 108 :: Char.ofNat 111 :: Char.ofNat 111 :: Char.ofNat 112 :: Char.ofNat 46 :: Char.ofNat 101 :: Char.ofNat 120 :: Char.ofNat 97 :: Char.ofNat 109 :: Char.ofNat 112 :: Char.ofNat 108 :: Char.ofNat 101 :: Char.ofNat 47 :: Char.ofNat 103 :: Char.ofNat 48 :: Char.ofNat 48 :: Char.ofNat 55 :: Char.ofNat 53 :: Char.ofNat 56 :: Char.ofNat 47 :: Char.ofNat 108 :: Char.ofNat 97 :: Char.ofNat 119 :: Char.ofNat 115 :: Char.ofNat 46 :: Char.ofNat 70 :: Char.ofNat 110 :: Char.ofNat 85 :: Char.ofNat 115 :: Char.ofNat 101 :: Char.ofNat 102 :: Char.ofNat 117 :: Char.ofNat 108 :: Char.ofNat 32 :: Char.ofNat 108 :: Char.ofNat 111 :: Char.ofNat 111 :: Char.ofNat 112 :: Char.ofNat 46 :: Char.ofNat 101 :: Char.ofNat 120 :: Char.ofNat 97 :: Char.ofNat 109 :: Char.ofNat 112 :: Char.ofNat 108 :: Char.ofNat 101 :: Char.ofNat 47 :: Char.ofNat 103 :: Char.ofNat 48 :: Char.ofNat 48 :: Char.ofNat 55 :: Char.ofNat 53 :: Char.ofNat 56 :: Char.ofNat 47 :: Char.ofNat 108 :: Char.ofNat 97 :: Char.ofNat 119 :: Char.ofNat 115 :: Char.ofNat 46 :: Char.ofNat 70 :: Char.ofNat 110 :: Char.ofNat 85 :: Char.ofNat 110 :: Char.ofNat 108 :: Char.ofNat 105 :: Char.ofNat 107 :: Char.ofNat 101 :: Char.ofNat 32 :: Char.ofNat 108 :: Char.ofNat 111 :: Char.ofNat 111 :: Char.ofNat 112 :: Char.ofNat 46 :: Char.ofNat 101 :: Char.ofNat 120 :: Char.ofNat 97 :: Char.ofNat 109 :: Char.ofNat 112 :: Char.ofNat 108 :: Char.ofNat 101 :: Char.ofNat 47 :: Char.ofNat 103 :: Char.ofNat 48 :: Char.ofNat 48 :: Char.ofNat 55 :: Char.ofNat 53 :: Char.ofNat 56 :: Char.ofNat 47 :: Char.ofNat 108 :: Char.ofNat 97 :: Char.ofNat 119 :: Char.ofNat 115 :: Char.ofNat 46 :: Char.ofNat 70 :: Char.ofNat 110 :: Char.ofNat 67 :: Char.ofNat 101 :: Char.ofNat 108 :: Char.ofNat 108 :: Char.ofNat 115 :: Char.ofNat 32 :: Char.ofNat 108 :: Char.ofNat 111 :: Char.ofNat 111 :: Char.ofNat 112 :: Char.ofNat 46 :: Char.ofNat 101 :: Char.ofNat 120 :: Char.ofNat 97 :: Char.ofNat 109 :: Char.ofNat 112 :: Char.ofNat 108 :: Char.ofNat 101 :: Char.ofNat 47 :: Char.ofNat 103 :: Char.ofNat 48 :: Char.ofNat 48 :: Char.ofNat 55 :: Char.ofNat 53 :: Char.ofNat 56 :: Char.ofNat 47 :: Char.ofNat 108 :: Char.ofNat 97 :: Char.ofNat 119 :: Char.ofNat 115 :: Char.ofNat 46 :: Char.ofNat 70 :: Char.ofNat 110 :: Char.ofNat 77 :: Char.ofNat 101 :: Char.ofNat 110 :: Char.ofNat 100 :: Char.ofNat 32 :: Char.ofNat 108 :: Char.ofNat 111 :: Char.ofNat 111 :: Char.ofNat 112 :: Char.ofNat 46 :: Char.ofNat 101 :: Char.ofNat 120 :: Char.ofNat 97 :: Char.ofNat 109 :: Char.ofNat 112 :: Char.ofNat 108 :: Char.ofNat 101 :: Char.ofNat 47 :: Char.ofNat 103 :: Char.ofNat 48 :: Char.ofNat 48 :: Char.ofNat 55 :: Char.ofNat 53 :: Char.ofNat 56 :: Char.ofNat 47 :: Char.ofNat 108 :: Char.ofNat 97 :: Char.ofNat 119 :: Char.ofNat 115 :: Char.ofNat 46 :: Char.ofNat 70 :: Char.ofNat 110 :: Char.ofNat 80 :: Char.ofNat 117 :: Char.ofNat 109 :: Char.ofNat 112 :: Char.ofNat 32 :: Char.ofNat 108 :: Char.ofNat 111 :: Char.ofNat 111 :: Char.ofNat 112 :: Char.ofNat 46 :: Char.ofNat 101 :: Char.ofNat 120 :: Char.ofNat 97 :: Char.ofNat 109 :: Char.ofNat 112 :: Char.ofNat 108 :: Char.ofNat 101 :: Char.ofNat 47 :: Char.ofNat 103 :: Char.ofNat 48 :: Char.ofNat 48 :: Char.ofNat 55 :: Char.ofNat 53 :: Char.ofNat 56 :: Char.ofNat 47 :: Char.ofNat 108 :: Char.ofNat 97 :: Char.ofNat 119 :: Char.ofNat 115 :: Char.ofNat 46 :: Char.ofNat 70 :: Char.ofNat 110 :: Char.ofNat 76 :: Char.ofNat 111 :: Char.ofNat 110 :: Char.ofNat 103 :: Char.ofNat 69 :: Char.ofNat 110 :: Char.ofNat 111 :: Char.ofNat 117 :: Char.ofNat 103 :: Char.ofNat 104 :: Char.ofNat 32 :: Char.ofNat 108 :: Char.ofNat 111 :: Char.ofNat 111 :: Char.ofNat 112 :: Char.ofNat 46 :: Char.ofNat 101 :: Char.ofNat 120 :: Char.ofNat 97 :: Char.ofNat 109 :: Char.ofNat 112 :: Char.ofNat 108 :: Char.ofNat 101 :: Char.ofNat 47 :: Char.ofNat 103 :: Char.ofNat 48 :: Char.ofNat 48 :: Char.ofNat 55 :: Char.ofNat 53 :: Char.ofNat 56 :: Char.ofNat 47 :: Char.ofNat 108 :: Char.ofNat 97 :: Char.ofNat 119 :: Char.ofNat 115 :: Char.ofNat 46 :: Char.ofNat 70 :: Char.ofNat 110 :: Char.ofNat 84 :: Char.ofNat 117 :: Char.ofNat 114 :: Char.ofNat 110 :: Char.ofNat 101 :: Char.ofNat 100 :: []) := by kernel_rfl
theorem io : Try.prog.initOrder = String.ofList (Char.ofNat 104 :: Char.ofNat 97 :: Char.ofNat 114 :: Char.ofNat 110 :: Char.ofNat 101 :: Char.ofNat 115 :: Char.ofNat 115 :: Char.ofNat 32 :: Char.ofNat 54 :: Char.ofNat 56 :: Char.ofNat 98 :: Char.ofNat 99 :: Char.ofNat 101 :: Char.ofNat 53 :: Char.ofNat 101 :: Char.ofNat 51 :: Char.ofNat 48 :: Char.ofNat 98 :: Char.ofNat 99 :: Char.ofNat 100 :: Char.ofNat 53 :: Char.ofNat 48 :: Char.ofNat 57 :: Char.ofNat 53 :: Char.ofNat 50 :: Char.ofNat 99 :: Char.ofNat 57 :: Char.ofNat 55 :: Char.ofNat 55 :: Char.ofNat 51 :: Char.ofNat 57 :: Char.ofNat 97 :: Char.ofNat 99 :: Char.ofNat 97 :: Char.ofNat 98 :: Char.ofNat 101 :: Char.ofNat 102 :: Char.ofNat 48 :: Char.ofNat 52 :: Char.ofNat 57 :: Char.ofNat 51 :: Char.ofNat 48 :: Char.ofNat 48 :: Char.ofNat 48 :: Char.ofNat 56 :: Char.ofNat 52 :: Char.ofNat 101 :: Char.ofNat 101 :: Char.ofNat 57 :: Char.ofNat 53 :: Char.ofNat 57 :: Char.ofNat 50 :: Char.ofNat 101 :: Char.ofNat 52 :: Char.ofNat 50 :: Char.ofNat 50 :: Char.ofNat 48 :: Char.ofNat 98 :: Char.ofNat 48 :: Char.ofNat 51 :: Char.ofNat 100 :: Char.ofNat 98 :: Char.ofNat 56 :: Char.ofNat 101 :: Char.ofNat 54 :: Char.ofNat 52 :: Char.ofNat 99 :: Char.ofNat 98 :: Char.ofNat 53 :: Char.ofNat 55 :: Char.ofNat 49 :: Char.ofNat 98 :: Char.ofNat 32 :: Char.ofNat 99 :: Char.ofNat 117 :: Char.ofNat 116 :: Char.ofNat 32 :: Char.ofNat 97 :: Char.ofNat 116 :: Char.ofNat 32 :: Char.ofNat 108 :: Char.ofNat 111 :: Char.ofNat 111 :: Char.ofNat 112 :: Char.ofNat 46 :: Char.ofNat 101 :: Char.ofNat 120 :: Char.ofNat 97 :: Char.ofNat 109 :: Char.ofNat 112 :: Char.ofNat 108 :: Char.ofNat 101 :: Char.ofNat 47 :: Char.ofNat 103 :: Char.ofNat 48 :: Char.ofNat 48 :: Char.ofNat 55 :: Char.ofNat 53 :: Char.ofNat 56 :: Char.ofNat 47 :: Char.ofNat 108 :: Char.ofNat 97 :: Char.ofNat 119 :: Char.ofNat 115 :: Char.ofNat 46 :: Char.ofNat 70 :: Char.ofNat 110 :: Char.ofNat 68 :: Char.ofNat 101 :: Char.ofNat 114 :: Char.ofNat 105 :: Char.ofNat 118 :: Char.ofNat 101 :: Char.ofNat 115 :: Char.ofNat 32 :: Char.ofNat 108 :: Char.ofNat 111 :: Char.ofNat 111 :: Char.ofNat 112 :: Char.ofNat 46 :: Char.ofNat 101 :: Char.ofNat 120 :: Char.ofNat 97 :: Char.ofNat 109 :: Char.ofNat 112 :: Char.ofNat 108 :: Char.ofNat 101 :: Char.ofNat 47 :: Char.ofNat 103 :: Char.ofNat 48 :: Char.ofNat 48 :: Char.ofNat 55 :: Char.ofNat 53 :: Char.ofNat 56 :: Char.ofNat 47 :: Char.ofNat 108 :: Char.ofNat 97 :: Char.ofNat 119 :: Char.ofNat 115 :: Char.ofNat 46 :: Char.ofNat 70 :: Char.ofNat 110 :: Char.ofNat 70 :: Char.ofNat 105 :: Char.ofNat 114 :: Char.ofNat 115 :: Char.ofNat 116 :: Char.ofNat 115 :: Char.ofNat 32 :: Char.ofNat 108 :: Char.ofNat 111 :: Char.ofNat 111 :: Char.ofNat 112 :: Char.ofNat 46 :: Char.ofNat 101 :: Char.ofNat 120 :: Char.ofNat 97 :: Char.ofNat 109 :: Char.ofNat 112 :: Char.ofNat 108 :: Char.ofNat 101 :: Char.ofNat 47 :: Char.ofNat 103 :: Char.ofNat 48 :: Char.ofNat 48 :: Char.ofNat 55 :: Char.ofNat 53 :: Char.ofNat 56 :: Char.ofNat 47 :: Char.ofNat 108 :: Char.ofNat 97 :: Char.ofNat 119 :: Char.ofNat 115 :: Char.ofNat 46 :: Char.ofNat 70 :: Char.ofNat 110 :: Char.ofNat 66 :: Char.ofNat 101 :: Char.ofNat 115 :: Char.ofNat 105 :: Char.ofNat 100 :: Char.ofNat 101 :: Char.ofNat 32 :: Char.ofNat 108 :: Char.ofNat 111 :: Char.ofNat 111 :: Char.ofNat 112 :: Char.ofNat 46 :: Char.ofNat 101 :: Char.ofNat 120 :: Char.ofNat 97 :: Char.ofNat 109 :: Char.ofNat 112 :: Char.ofNat 108 :: Char.ofNat 101 :: Char.ofNat 47 :: Char.ofNat 103 :: Char.ofNat 48 :: Char.ofNat 48 :: Char.ofNat 55 :: Char.ofNat 53 :: Char.ofNat 56 :: Char.ofNat 47 :: Char.ofNat 108 :: Char.ofNat 97 :: Char.ofNat 119 :: Char.ofNat 115 :: Char.ofNat 46 :: Char.ofNat 70 :: Char.ofNat 110 :: Char.ofNat 82 :: Char.ofNat 101 :: Char.ofNat 119 :: Char.ofNat 114 :: Char.ofNat 105 :: Char.ofNat 116 :: Char.ofNat 101 :: Char.ofNat 115 :: Char.ofNat 32 :: Char.ofNat 108 :: Char.ofNat 111 :: Char.ofNat 111 :: Char.ofNat 112 :: Char.ofNat 46 :: Char.ofNat 101 :: Char.ofNat 120 :: Char.ofNat 97 :: Char.ofNat 109 :: Char.ofNat 112 :: Char.ofNat 108 :: Char.ofNat 101 :: Char.ofNat 47 :: Char.ofNat 103 :: Char.ofNat 48 :: Char.ofNat 48 :: Char.ofNat 55 :: Char.ofNat 53 :: Char.ofNat 56 :: Char.ofNat 47 :: Char.ofNat 108 :: Char.ofNat 97 :: Char.ofNat 119 :: Char.ofNat 115 :: Char.ofNat 46 :: Char.ofNat 70 :: Char.ofNat 110 :: Char.ofNat 70 :: Char.ofNat 105 :: Char.ofNat 110 :: Char.ofNat 105 :: Char.ofNat 116 :: Char.ofNat 101 :: Char.ofNat 32 :: Char.ofNat 108 :: Char.ofNat 111 :: Char.ofNat 111 :: Char.ofNat 112 :: Char.ofNat 46 :: Char.ofNat 101 :: Char.ofNat 120 :: Char.ofNat 97 :: Char.ofNat 109 :: Char.ofNat 112 :: Char.ofNat 108 :: Char.ofNat 101 :: Char.ofNat 47 :: Char.ofNat 103 :: Char.ofNat 48 :: Char.ofNat 48 :: Char.ofNat 55 :: Char.ofNat 53 :: Char.ofNat 56 :: Char.ofNat 47 :: Char.ofNat 108 :: Char.ofNat 97 :: Char.ofNat 119 :: Char.ofNat 115 :: Char.ofNat 46 :: Char.ofNat 70 :: Char.ofNat 110 :: Char.ofNat 85 :: Char.ofNat 115 :: Char.ofNat 101 :: Char.ofNat 102 :: Char.ofNat 117 :: Char.ofNat 108 :: Char.ofNat 32 :: Char.ofNat 108 :: Char.ofNat 111 :: Char.ofNat 111 :: Char.ofNat 112 :: Char.ofNat 46 :: Char.ofNat 101 :: Char.ofNat 120 :: Char.ofNat 97 :: Char.ofNat 109 :: Char.ofNat 112 :: Char.ofNat 108 :: Char.ofNat 101 :: Char.ofNat 47 :: Char.ofNat 103 :: Char.ofNat 48 :: Char.ofNat 48 :: Char.ofNat 55 :: Char.ofNat 53 :: Char.ofNat 56 :: Char.ofNat 47 :: Char.ofNat 108 :: Char.ofNat 97 :: Char.ofNat 119 :: Char.ofNat 115 :: Char.ofNat 46 :: Char.ofNat 70 :: Char.ofNat 110 :: Char.ofNat 85 :: Char.ofNat 110 :: Char.ofNat 108 :: Char.ofNat 105 :: Char.ofNat 107 :: Char.ofNat 101 :: Char.ofNat 32 :: Char.ofNat 108 :: Char.ofNat 111 :: Char.ofNat 111 :: Char.ofNat 112 :: Char.ofNat 46 :: Char.ofNat 101 :: Char.ofNat 120 :: Char.ofNat 97 :: Char.ofNat 109 :: Char.ofNat 112 :: Char.ofNat 108 :: Char.ofNat 101 :: Char.ofNat 47 :: Char.ofNat 103 :: Char.ofNat 48 :: Char.ofNat 48 :: Char.ofNat 55 :: Char.ofNat 53 :: Char.ofNat 56 :: Char.ofNat 47 :: Char.ofNat 108 :: Char.ofNat 97 :: Char.ofNat 119 :: Char.ofNat 115 :: Char.ofNat 46 :: Char.ofNat 70 :: Char.ofNat 110 :: Char.ofNat 67 :: Char.ofNat 101 :: Char.ofNat 108 :: Char.ofNat 108 :: Char.ofNat 115 :: Char.ofNat 32 :: Char.ofNat 108 :: Char.ofNat 111 :: Char.ofNat 111 :: Char.ofNat 112 :: Char.ofNat 46 :: Char.ofNat 101 :: Char.ofNat 120 :: Char.ofNat 97 :: Char.ofNat 109 :: Char.ofNat 112 :: Char.ofNat 108 :: Char.ofNat 101 :: Char.ofNat 47 :: Char.ofNat 103 :: Char.ofNat 48 :: Char.ofNat 48 :: Char.ofNat 55 :: Char.ofNat 53 :: Char.ofNat 56 :: Char.ofNat 47 :: Char.ofNat 108 :: Char.ofNat 97 :: Char.ofNat 119 :: Char.ofNat 115 :: Char.ofNat 46 :: Char.ofNat 70 :: Char.ofNat 110 :: Char.ofNat 77 :: Char.ofNat 101 :: Char.ofNat 110 :: Char.ofNat 100 :: Char.ofNat 32 :: Char.ofNat 108 :: Char.ofNat 111 :: Char.ofNat 111 :: Char.ofNat 112 :: Char.ofNat 46 :: Char.ofNat 101 :: Char.ofNat 120 :: Char.ofNat 97 :: Char.ofNat 109 :: Char.ofNat 112 :: Char.ofNat 108 :: Char.ofNat 101 :: Char.ofNat 47 :: Char.ofNat 103 :: Char.ofNat 48 :: Char.ofNat 48 :: Char.ofNat 55 :: Char.ofNat 53 :: Char.ofNat 56 :: Char.ofNat 47 :: Char.ofNat 108 :: Char.ofNat 97 :: Char.ofNat 119 :: Char.ofNat 115 :: Char.ofNat 46 :: Char.ofNat 70 :: Char.ofNat 110 :: Char.ofNat 80 :: Char.ofNat 117 :: Char.ofNat 109 :: Char.ofNat 112 :: Char.ofNat 32 :: Char.ofNat 108 :: Char.ofNat 111 :: Char.ofNat 111 :: Char.ofNat 112 :: Char.ofNat 46 :: Char.ofNat 101 :: Char.ofNat 120 :: Char.ofNat 97 :: Char.ofNat 109 :: Char.ofNat 112 :: Char.ofNat 108 :: Char.ofNat 101 :: Char.ofNat 47 :: Char.ofNat 103 :: Char.ofNat 48 :: Char.ofNat 48 :: Char.ofNat 55 :: Char.ofNat 53 :: Char.ofNat 56 :: Char.ofNat 47 :: Char.ofNat 108 :: Char.ofNat 97 :: Char.ofNat 119 :: Char.ofNat 115 :: Char.ofNat 46 :: Char.ofNat 70 :: Char.ofNat 110 :: Char.ofNat 76 :: Char.ofNat 111 :: Char.ofNat 110 :: Char.ofNat 103 :: Char.ofNat 69 :: Char.ofNat 110 :: Char.ofNat 111 :: Char.ofNat 117 :: Char.ofNat 103 :: Char.ofNat 104 :: Char.ofNat 32 :: Char.ofNat 108 :: Char.ofNat 111 :: Char.ofNat 111 :: Char.ofNat 112 :: Char.ofNat 46 :: Char.ofNat 101 :: Char.ofNat 120 :: Char.ofNat 97 :: Char.ofNat 109 :: Char.ofNat 112 :: Char.ofNat 108 :: Char.ofNat 101 :: Char.ofNat 47 :: Char.ofNat 103 :: Char.ofNat 48 :: Char.ofNat 48 :: Char.ofNat 55 :: Char.ofNat 53 :: Char.ofNat 56 :: Char.ofNat 47 :: Char.ofNat 108 :: Char.ofNat 97 :: Char.ofNat 119 :: Char.ofNat 115 :: Char.ofNat 46 :: Char.ofNat 70 :: Char.ofNat 110 :: Char.ofNat 84 :: Char.ofNat 117 :: Char.ofNat 114 :: Char.ofNat 110 :: Char.ofNat 101 :: Char.ofNat 100 :: []) := io0.trans io1
theorem io2 : Try.prog.initOrder.toList = signs := by rw [io, String.toList_ofList]; rfl
def behind : List (List Char) := [[Char.ofNat 99, Char.ofNat 117, Char.ofNat 116], [Char.ofNat 97, Char.ofNat 116], [Char.ofNat 108, Char.ofNat 111, Char.ofNat 111, Char.ofNat 112, Char.ofNat 46, Char.ofNat 101, Char.ofNat 120, Char.ofNat 97, Char.ofNat 109, Char.ofNat 112, Char.ofNat 108, Char.ofNat 101, Char.ofNat 47, Char.ofNat 103, Char.ofNat 48, Char.ofNat 48, Char.ofNat 55, Char.ofNat 53, Char.ofNat 56, Char.ofNat 47, Char.ofNat 108, Char.ofNat 97, Char.ofNat 119, Char.ofNat 115, Char.ofNat 46, Char.ofNat 70, Char.ofNat 110, Char.ofNat 68, Char.ofNat 101, Char.ofNat 114, Char.ofNat 105, Char.ofNat 118, Char.ofNat 101, Char.ofNat 115], [Char.ofNat 108, Char.ofNat 111, Char.ofNat 111, Char.ofNat 112, Char.ofNat 46, Char.ofNat 101, Char.ofNat 120, Char.ofNat 97, Char.ofNat 109, Char.ofNat 112, Char.ofNat 108, Char.ofNat 101, Char.ofNat 47, Char.ofNat 103, Char.ofNat 48, Char.ofNat 48, Char.ofNat 55, Char.ofNat 53, Char.ofNat 56, Char.ofNat 47, Char.ofNat 108, Char.ofNat 97, Char.ofNat 119, Char.ofNat 115, Char.ofNat 46, Char.ofNat 70, Char.ofNat 110, Char.ofNat 70, Char.ofNat 105, Char.ofNat 114, Char.ofNat 115, Char.ofNat 116, Char.ofNat 115], [Char.ofNat 108, Char.ofNat 111, Char.ofNat 111, Char.ofNat 112, Char.ofNat 46, Char.ofNat 101, Char.ofNat 120, Char.ofNat 97, Char.ofNat 109, Char.ofNat 112, Char.ofNat 108, Char.ofNat 101, Char.ofNat 47, Char.ofNat 103, Char.ofNat 48, Char.ofNat 48, Char.ofNat 55, Char.ofNat 53, Char.ofNat 56, Char.ofNat 47, Char.ofNat 108, Char.ofNat 97, Char.ofNat 119, Char.ofNat 115, Char.ofNat 46, Char.ofNat 70, Char.ofNat 110, Char.ofNat 66, Char.ofNat 101, Char.ofNat 115, Char.ofNat 105, Char.ofNat 100, Char.ofNat 101], [Char.ofNat 108, Char.ofNat 111, Char.ofNat 111, Char.ofNat 112, Char.ofNat 46, Char.ofNat 101, Char.ofNat 120, Char.ofNat 97, Char.ofNat 109, Char.ofNat 112, Char.ofNat 108, Char.ofNat 101, Char.ofNat 47, Char.ofNat 103, Char.ofNat 48, Char.ofNat 48, Char.ofNat 55, Char.ofNat 53, Char.ofNat 56, Char.ofNat 47, Char.ofNat 108, Char.ofNat 97, Char.ofNat 119, Char.ofNat 115, Char.ofNat 46, Char.ofNat 70, Char.ofNat 110, Char.ofNat 82, Char.ofNat 101, Char.ofNat 119, Char.ofNat 114, Char.ofNat 105, Char.ofNat 116, Char.ofNat 101, Char.ofNat 115], [Char.ofNat 108, Char.ofNat 111, Char.ofNat 111, Char.ofNat 112, Char.ofNat 46, Char.ofNat 101, Char.ofNat 120, Char.ofNat 97, Char.ofNat 109, Char.ofNat 112, Char.ofNat 108, Char.ofNat 101, Char.ofNat 47, Char.ofNat 103, Char.ofNat 48, Char.ofNat 48, Char.ofNat 55, Char.ofNat 53, Char.ofNat 56, Char.ofNat 47, Char.ofNat 108, Char.ofNat 97, Char.ofNat 119, Char.ofNat 115, Char.ofNat 46, Char.ofNat 70, Char.ofNat 110, Char.ofNat 70, Char.ofNat 105, Char.ofNat 110, Char.ofNat 105, Char.ofNat 116, Char.ofNat 101], [Char.ofNat 108, Char.ofNat 111, Char.ofNat 111, Char.ofNat 112, Char.ofNat 46, Char.ofNat 101, Char.ofNat 120, Char.ofNat 97, Char.ofNat 109, Char.ofNat 112, Char.ofNat 108, Char.ofNat 101, Char.ofNat 47, Char.ofNat 103, Char.ofNat 48, Char.ofNat 48, Char.ofNat 55, Char.ofNat 53, Char.ofNat 56, Char.ofNat 47, Char.ofNat 108, Char.ofNat 97, Char.ofNat 119, Char.ofNat 115, Char.ofNat 46, Char.ofNat 70, Char.ofNat 110, Char.ofNat 85, Char.ofNat 115, Char.ofNat 101, Char.ofNat 102, Char.ofNat 117, Char.ofNat 108], [Char.ofNat 108, Char.ofNat 111, Char.ofNat 111, Char.ofNat 112, Char.ofNat 46, Char.ofNat 101, Char.ofNat 120, Char.ofNat 97, Char.ofNat 109, Char.ofNat 112, Char.ofNat 108, Char.ofNat 101, Char.ofNat 47, Char.ofNat 103, Char.ofNat 48, Char.ofNat 48, Char.ofNat 55, Char.ofNat 53, Char.ofNat 56, Char.ofNat 47, Char.ofNat 108, Char.ofNat 97, Char.ofNat 119, Char.ofNat 115, Char.ofNat 46, Char.ofNat 70, Char.ofNat 110, Char.ofNat 85, Char.ofNat 110, Char.ofNat 108, Char.ofNat 105, Char.ofNat 107, Char.ofNat 101], [Char.ofNat 108, Char.ofNat 111, Char.ofNat 111, Char.ofNat 112, Char.ofNat 46, Char.ofNat 101, Char.ofNat 120, Char.ofNat 97, Char.ofNat 109, Char.ofNat 112, Char.ofNat 108, Char.ofNat 101, Char.ofNat 47, Char.ofNat 103, Char.ofNat 48, Char.ofNat 48, Char.ofNat 55, Char.ofNat 53, Char.ofNat 56, Char.ofNat 47, Char.ofNat 108, Char.ofNat 97, Char.ofNat 119, Char.ofNat 115, Char.ofNat 46, Char.ofNat 70, Char.ofNat 110, Char.ofNat 67, Char.ofNat 101, Char.ofNat 108, Char.ofNat 108, Char.ofNat 115], [Char.ofNat 108, Char.ofNat 111, Char.ofNat 111, Char.ofNat 112, Char.ofNat 46, Char.ofNat 101, Char.ofNat 120, Char.ofNat 97, Char.ofNat 109, Char.ofNat 112, Char.ofNat 108, Char.ofNat 101, Char.ofNat 47, Char.ofNat 103, Char.ofNat 48, Char.ofNat 48, Char.ofNat 55, Char.ofNat 53, Char.ofNat 56, Char.ofNat 47, Char.ofNat 108, Char.ofNat 97, Char.ofNat 119, Char.ofNat 115, Char.ofNat 46, Char.ofNat 70, Char.ofNat 110, Char.ofNat 77, Char.ofNat 101, Char.ofNat 110, Char.ofNat 100], [Char.ofNat 108, Char.ofNat 111, Char.ofNat 111, Char.ofNat 112, Char.ofNat 46, Char.ofNat 101, Char.ofNat 120, Char.ofNat 97, Char.ofNat 109, Char.ofNat 112, Char.ofNat 108, Char.ofNat 101, Char.ofNat 47, Char.ofNat 103, Char.ofNat 48, Char.ofNat 48, Char.ofNat 55, Char.ofNat 53, Char.ofNat 56, Char.ofNat 47, Char.ofNat 108, Char.ofNat 97, Char.ofNat 119, Char.ofNat 115, Char.ofNat 46, Char.ofNat 70, Char.ofNat 110, Char.ofNat 80, Char.ofNat 117, Char.ofNat 109, Char.ofNat 112], [Char.ofNat 108, Char.ofNat 111, Char.ofNat 111, Char.ofNat 112, Char.ofNat 46, Char.ofNat 101, Char.ofNat 120, Char.ofNat 97, Char.ofNat 109, Char.ofNat 112, Char.ofNat 108, Char.ofNat 101, Char.ofNat 47, Char.ofNat 103, Char.ofNat 48, Char.ofNat 48, Char.ofNat 55, Char.ofNat 53, Char.ofNat 56, Char.ofNat 47, Char.ofNat 108, Char.ofNat 97, Char.ofNat 119, Char.ofNat 115, Char.ofNat 46, Char.ofNat 70, Char.ofNat 110, Char.ofNat 76, Char.ofNat 111, Char.ofNat 110, Char.ofNat 103, Char.ofNat 69, Char.ofNat 110, Char.ofNat 111, Char.ofNat 117, Char.ofNat 103, Char.ofNat 104], [Char.ofNat 108, Char.ofNat 111, Char.ofNat 111, Char.ofNat 112, Char.ofNat 46, Char.ofNat 101, Char.ofNat 120, Char.ofNat 97, Char.ofNat 109, Char.ofNat 112, Char.ofNat 108, Char.ofNat 101, Char.ofNat 47, Char.ofNat 103, Char.ofNat 48, Char.ofNat 48, Char.ofNat 55, Char.ofNat 53, Char.ofNat 56, Char.ofNat 47, Char.ofNat 108, Char.ofNat 97, Char.ofNat 119, Char.ofNat 115, Char.ofNat 46, Char.ofNat 70, Char.ofNat 110, Char.ofNat 84, Char.ofNat 117, Char.ofNat 114, Char.ofNat 110, Char.ofNat 101, Char.ofNat 100]]
theorem io4 : behindMainWord (wordsSigns signs) = behind := by kernel_rfl
theorem io3 : behindMainWord (wordsSigns Try.prog.initOrder.toList) = behind := by rw [io2, io4]
theorem may : Try.prog.mayEnter = true := may_of (l := []) io3 (by rfl) (by kernel_rfl) (by kernel_rfl) (by kernel_rfl) (by kernel_rfl) rfl (by kernel_rfl)
theorem fin : Try.prog.liftsFinal = false := lifts_of io3 (by kernel_rfl) (by kernel_rfl)
theorem mk : Try.prog.make = some .cut := make_of io3 (by rfl) (by kernel_rfl) (by kernel_rfl)
theorem own : ownKnob Try.prog.godebug = none := by kernel_rfl
theorem laidOut : laidOutB Try.prog = true := by kernel_rfl
theorem rowed : mapsRowed Try.prog = true := by kernel_rfl
def lightFacts (P : Program) (f : FuncId) (fn : Func) (s : ChangeSpec) (c : OpenClaim) : Bool :=
  c.wf (OpenSpec.ofChange s) && fn.params.all (P.readableRec ·) && namedTie P c.named s.vars && (c.stops == []) && (P.stops == []) && (c.knobs == []) && (P.stopKnobs == []) && (c.inPlace == P.inPlace f) && (c.unfollowed == P.unfollowed f) && (c.recurses == P.recurses f) && (c.named == P.varsNamed f) && (c.maps == (fn.params.toList ++ s.plain.varTypes P).any (P.mapsRec ·)) && (c.ifaces == (fn.params.toList ++ s.plain.varTypes P).any (P.ifacesRec ·)) && (c.mapsOut == P.mapsAmong fn.resultTypes.toList) && (c.loops == (fn.params.toList ++ s.plain.varTypes P).any (P.loopsFrom ·)) && (c.wideKeys == (fn.params.toList ++ s.plain.varTypes P ++ fn.resultTypes.toList).any (P.wideKeysFrom ·)) && s.vars.all (P.varReadable ·) && fn.resultTypes.all (fun t => P.readableRec t && decide (t < P.types.size)) && (c.ifacesOut == fn.resultTypes.toList.any (P.ifacesRec ·)) && (c.loopsOut == fn.resultTypes.toList.any (P.loopsFrom ·)) && (c.plainKeys == P.plainKeys) && c.shortTexts.isNone && P.stopsHeard && (c.kinds == (if c.domain.isEmpty then [] else fn.params.toList.map fun t => match P.underlying t with | some (.int k) => some k | _ => none)) && (c.pinned == c.pinnedBy) && (c.veiled == (fn.params.toList ++ s.plain.varTypes P ++ fn.resultTypes.toList).any (P.veiledRec ·)) && c.veiledFits P fn.params.toList (fn.params.toList ++ s.plain.varTypes P ++ fn.resultTypes.toList)
theorem facts_of {f : FuncId} {fn : Func} {s : ChangeSpec} {c : OpenClaim} (hl : c.lifted = false) (hm : c.make = .cut) (h : lightFacts Try.prog f fn s c = true) : joinedFacts Try.prog f fn s c = true := by
  unfold lightFacts at h
  unfold joinedFacts
  simp only [Bool.and_eq_true] at h ⊢
  obtain ⟨⟨⟨⟨⟨⟨⟨⟨⟨⟨⟨⟨⟨⟨⟨⟨⟨⟨⟨⟨⟨⟨⟨⟨⟨⟨k0, k3⟩, k4⟩, k5⟩, k6⟩, k7⟩, k8⟩, k9⟩, k10⟩, k11⟩, k12⟩, k13⟩, k14⟩, k15⟩, k16⟩, k17⟩, k18⟩, k19⟩, k20⟩, k21⟩, k22⟩, k23⟩, k24⟩, k28⟩, k29⟩, k30⟩, k31⟩ := h
  exact ⟨⟨⟨⟨⟨⟨⟨⟨⟨⟨⟨⟨⟨⟨⟨⟨⟨⟨⟨⟨⟨⟨⟨⟨⟨⟨⟨⟨⟨⟨⟨k0, laidOut⟩, rowed⟩, k3⟩, k4⟩, k5⟩, k6⟩, k7⟩, k8⟩, k9⟩, k10⟩, k11⟩, k12⟩, k13⟩, k14⟩, k15⟩, k16⟩, k17⟩, k18⟩, k19⟩, k20⟩, k21⟩, k22⟩, k23⟩, k24⟩, may⟩, (by rw [hl, fin]; rfl)⟩, (by rw [hm, mk]; rfl)⟩, k28⟩, k29⟩, k30⟩, k31⟩
end Go.Proofs.Ytegcjkhebecgbaa
