/- Contract: what comes again and again, by the reference. -/
import Derived.Test.YtiohaeckagjebaaShH2
set_option linter.unusedVariables false
set_option linter.unusedSimpArgs false
set_option maxRecDepth 100000
namespace Go.Sh
open Go
def starFirst : List RuleL := [(0, []), (0, [1, 0])]
def madeV (first : List RuleL) (nons toks : Int) (gs : List Gram) : Option Gram :=
  if goodG ⟨nons, toks, moreN first gs gs.length⟩ = true then some ⟨nons, toks, moreN first gs gs.length⟩ else none
def starV (g : Gram) : Option Gram := if goodG g = true then madeV starFirst (IntKind.i64.wrap (1 + g.nons)) g.toks [g] else none
/-- A grammar that may not be there, of the call's own. -/
def GramR (w : World) (B : Nat) (v : Value) : Option Gram → Prop
  | some m => GramO w B v m
  | none => v = zeroGram
theorem rul_cons {r : RuleL} {rs : List RuleL} : rul (r :: rs) 0 = r := rfl
theorem box_ne {w : World} {b b' t t' : Nat} {cs cs' : List Value} (h : Box w b cs t) (h' : Box w b' cs' t') (ht : t ≠ t') : b ≠ b' := by
  intro e
  subst e
  unfold Box at h h'
  rw [h] at h'
  simp at h'
  exact ht h'.2
theorem GramR.put {w w' : World} {B b t : Nat} {v : Value} {o : Option Gram} {cs : List Value} (h : GramR w B v o) (hb : Box w b cs t) (h1 : 77 ≠ t) (h2 : 3 ≠ t) (g : w.grownBy w' (some b)) : GramR w' B v o := by
  cases o with
  | none => exact h
  | some m =>
    obtain ⟨X, c, ps, e, ho⟩ := h
    exact ⟨X, c, ps, e, ho.put hb h1 h2 g⟩
theorem GramR.three {w : World} {B : Nat} {v : Value} {o : Option Gram} (h : GramR w B v o) : ∃ x y z, v = .agg #[x, y, z] ∧ x.oneCell' = true ∧ y.oneCell' = true ∧ z.oneCell' = true := by
  cases o with
  | none => exact ⟨_, _, _, h, rfl, rfl, rfl⟩
  | some m =>
    obtain ⟨X, c, ps, e, ho⟩ := h
    exact ⟨_, _, _, e, rfl, rfl, rfl⟩
end Go.Sh
namespace Go.Proofs.Ytiohaeckagjebaa
open Go Go.Sh Go.RowKit

theorem specStarOf_c {F : Nat → Prop} {w : World} {v : Value} {gm : Gram} (hv : GramV F w v gm) (hF : ∀ q, F q → q < w.heap.size) {k : Value → World → Prop}
    (hk : ∀ v w', Gr w w' → GramR w' w.heap.size v (starV gm) → k (.tuple #[v, .bool (starV gm).isSome]) w') :
    CallK Try.prog 34 [v] k w := by
  obtain ⟨Y, c, rfl, hc, hy⟩ := hv
  refine enter34 ?_
  unfold S34
  refine do_box fun b1 w1 g1 hb1 h1 => ?_
  refine do_alloc_of inf37 fun b3 w2 g2 hb3 h3 => ?_
  have n3 := h1.ne hb3
  have h1 := h1.gr g2
  have q3 := Nat.le_trans g1.size hb3
  rw [ldB_agg agg37 sz37 rfl h1]
  have g := gr_trans g1 g2
  refine goodGrammar_c (gm := gm) ⟨Y, c, rfl, hc, hy.gr g⟩ fun w4 g4 => ?_
  have g := gr_trans g g4
  have h1 := h1.gr g4
  have h3 := h3.gr g4
  cases hg : goodG gm
  · simp only [Bool.not_false, go_sem, Nat.reduceEqDiff]
    rw [bd37 (cells := #[.int .i64 0, .int .i64 0, .slice none 0 0]) rfl]
    refine do_store sz37 rfl (by intro u hu; simp [Value.cells] at hu; rcases hu with rfl | rfl | rfl <;> rfl) h3 (by simp [Value.cells]) fun w5 g5 s5 h5 => ?_
    rw [rd_loadVar, ldB_agg agg37 sz37 rfl h5]
    have := hk zeroGram w5 (gr_put g g5 q3)
    simp only [starV, hg] at this
    exact this rfl
  simp only [Bool.not_true, go_sem, Nat.reduceEqDiff]
  rw [ldB3 h1 rfl]
  simp only [go_sem, Nat.reduceEqDiff]
  rw [ldB3 h1 rfl, bd77 (cells := #[.int .i64 0, .slice none 0 0]) rfl]
  refine bs22 [.int .i64 1, .int .i64 0] (by decide) (by simp [Instr.fill, madeCells, Value.cells, rng2]) rfl fun b5 w5 hb5 hb5' g5 hbox5 hrow5 => ?_
  rw [bd77 (cells := #[.int .i64 0, .slice (some ⟨b5, 0, none⟩) 2 2]) rfl]
  refine bs35 [.int .i64 0, .slice none 0 0, .int .i64 0, .slice (some ⟨b5, 0, none⟩) 2 2] (by decide) (by simp [Instr.fill, madeCells, Value.cells, rng4]) rfl fun b6 w6 hb6 hb6' g6 hbox6 hrow6 => ?_
  have h1 := h1.gr (gr_trans g5 g6)
  rw [ldB_agg agg37 sz37 rfl h1]
  refine bs154 [.int .i64 gm.nons, .int .i64 gm.toks, .slice Y gm.rules.length c] (by decide) (by simp [Instr.fill, madeCells, Value.cells, rng3]) rfl fun b7 w7 hb7 hb7' g7 hbox7 hrow7 => ?_
  have g57 := gr_trans g5 (gr_trans g6 g7)
  have g0 := gr_trans g g57
  have o5 : Own 3 w7 w.heap.size (some ⟨b5, 0, none⟩) 2 [1, 0] := Row.gr (Row.mono (hrow5 _ (Nat.le_refl _)) g.size) (gr_trans g6 g7)
  have hfirst : OwnR 77 3 w7 w.heap.size (some ⟨b6, 0, none⟩) 2 starFirst (fun j => if j = 0 then (none, 0) else (some ⟨b5, 0, none⟩, 2)) := by
    refine ⟨⟨_, Row.gr (Row.mono (hrow6 _ (Nat.le_refl _)) (gr_trans g g5).size) g7, fun j hj => ?_⟩, fun j hj => ?_, fun i j hi hj hij => ?_⟩
    · match j, hj with
      | 0, _ => exact ⟨rfl, rfl⟩
      | 1, _ => exact ⟨rfl, rfl⟩
    · match j, hj with
      | 0, _ => exact Row.nil _ _ _ _
      | 1, _ => exact o5
    · match i, j, hi, hj, hij with
      | 0, 1, _, _, _ => exact .inl rfl
      | 1, 0, _, _, _ => exact .inr (by simp [blk])
      | 0, 0, _, _, h => exact absurd rfl h
      | 1, 1, _, _, h => exact absurd rfl h
  have hlt6 : b6 < w6.heap.size := hb6'
  have hgs : GramsF (fun q => q ≠ b6) w7 (some ⟨b7, 0, none⟩) [gm] := by
    refine ⟨by simp, fun _ => rfl, fun _ => ?_, fun j hj => ?_⟩
    · show b7 ≠ b6
      omega
    · obtain rfl : j = 0 := by simpa using hj
      refine ⟨Y, c, ?_, ?_, ?_, hc, (hy.gr g0).mono fun q hq e => ?_⟩
      · exact hbox7.cell 0
      · exact hbox7.cell 1
      · exact hbox7.cell 2
      · have := hF q hq
        have := g.size
        have := g5.size
        omega
  refine l20Made_c (gs := [gm]) hfirst rfl (by decide) hgs (by simp) (fun j hj => by
    obtain rfl : j = 0 := by simpa using hj
    exact hg) (fun q hq e => hq (by simpa [blk] using e.symm)) g0.size fun v w8 g8 hres => ?_
  have h3 := (h3.gr g57)
  have hb63 : b3 ≠ b6 := box_ne h3 (hbox6.gr g7) (by decide)
  have h38 := h3.gx g8 (by simpa [blk] using fun e => hb63 e.symm)
  have g08 : Gr w w8 := Gx.gr_after g0 g8 fun q hq => by
    have : b6 = q := by simpa [blk] using hq
    have := g.size
    have := g5.size
    omega
  have hres' : GramR w8 w.heap.size v (starV gm) ∧ goodG ⟨IntKind.i64.wrap (1 + gm.nons), gm.toks, moreN starFirst [gm] [gm].length⟩ = (starV gm).isSome := by
    unfold starV madeV
    rw [if_pos hg]
    split at hres
    · rename_i hh
      rw [if_pos hh, hh]
      exact ⟨hres, rfl⟩
    · rename_i hh
      rw [if_neg hh]
      exact ⟨hres, by simpa using hh⟩
  rw [hres'.2]
  obtain ⟨x, y, z, rfl, hx1, hy1, hz1⟩ := hres'.1.three
  simp only [go_sem, Nat.reduceEqDiff]
  refine do_store sz37 rfl (by intro u hu; simp [Value.cells] at hu; rcases hu with rfl | rfl | rfl <;> assumption) h38 (by simp [Value.cells]) fun w9 g9 s9 h9 => ?_
  rw [rd_loadVar, ldB_agg agg37 sz37 rfl h9]
  exact hk _ w9 (gr_put g08 g9 q3) (hres'.1.put h38 (by decide) (by decide) g9)
end Go.Proofs.Ytiohaeckagjebaa
