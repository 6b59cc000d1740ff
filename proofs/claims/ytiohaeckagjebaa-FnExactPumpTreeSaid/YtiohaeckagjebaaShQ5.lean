/- Contracts: what of a tree can be pumped, by the reference. -/
import Derived.Test.YtiohaeckagjebaaShQ4
set_option linter.unusedVariables false
set_option linter.unusedSimpArgs false
set_option maxRecDepth 100000
namespace Go.Sh
open Go
theorem rgt_rowsP {ps : List PT} {i : Nat} (h : i < ps.length) : rgt (rowsP ps) i = (ptn ps i).row := by
  simp [rgt, rowsP, ptn, List.getD_eq_getElem?_getD, h]
theorem row_cells {w : World} {Y : Option Addr} {p : PT} (h : Ints w Y p.row) : Y = some (ad Y) ∧ w.cell? ((ad Y).add 0) = some (.int .i64 p.non) ∧ w.cell? ((ad Y).add 1) = some (.int .i64 p.fin) ∧ w.cell? ((ad Y).add 2) = some (.int .i64 p.fr) ∧ w.cell? ((ad Y).add 3) = some (.int .i64 p.to) :=
  ⟨h.ptr (by simp [PT.row]), h.cell 0 (by simp [PT.row]), h.cell 1 (by simp [PT.row]), h.cell 2 (by simp [PT.row]), h.cell 3 (by simp [PT.row])⟩
def pumpR (ps : List PT) (i j : Nat) : List Int := [i, j, (ptn ps i).fr, (ptn ps j).fr, (ptn ps j).to, (ptn ps i).to]
theorem dry_next {ps : List PT} {p q : Nat} (h : Dry ps p q) (hf : pairT (ptn ps p) (ptn ps q) = false) : Dry ps p (q + 1) := fun q' h1 h2 => by
  by_cases e : q' = q
  · rw [e]; exact hf
  · exact h q' h1 (by omega)
/-- The whole tree that a list of rules is. -/
structure Whole (gm : Gram) (tree : List Int) (p : PT) (ws : List Int) : Prop where
  good : goodG gm = true
  le : tree.length ≤ 60
  read : readT gm.rules tree tree.length 0 0 [] = some (p, ws)
  fin : p.fin = tree.length
theorem Whole.laid {gm : Gram} {tree : List Int} {p : PT} {ws : List Int} (h : Whole gm tree p ws) : Laid p.parts 0 := (readT_laid _ _ _ _ _ _ _ _ h.read).1
theorem Whole.len {gm : Gram} {tree : List Int} {p : PT} {ws : List Int} (h : Whole gm tree p ws) : p.parts.length = tree.length := by
  have := (readT_laid _ _ _ _ _ _ _ _ h.read).2.1
  have := h.fin
  omega
theorem Whole.words {gm : Gram} {tree : List Int} {p : PT} {ws : List Int} (h : Whole gm tree p ws) : ws.length ≤ 240 := by
  have := (readT_words (good_rule h.good) _ _ _ _ _ _ h.read).2
  have := h.len
  have := h.le
  simp at *
  omega
theorem asked_whole {gm : Gram} {tree : List Int} : (askedT gm tree = true → ∃ p ws, Whole gm tree p ws) ∧ (askedT gm tree = false → ∀ p ws, ¬ Whole gm tree p ws) := by
  have he := endT_eq gm.rules tree tree.length 0 0 []
  constructor
  · intro h
    simp only [askedT, isT, Bool.and_eq_true, decide_eq_true_eq] at h
    rw [h.2.2] at he
    cases hz : readT gm.rules tree tree.length 0 0 [] with
    | none => rw [hz] at he; cases he
    | some z =>
      rw [hz] at he
      exact ⟨z.1, z.2, h.1.1, h.1.2, hz, by simpa using he.symm⟩
  · intro h p ws hw
    have h1 : askedT gm tree = true := by
      simp only [askedT, isT, Bool.and_eq_true, decide_eq_true_eq]
      refine ⟨⟨hw.good, hw.le⟩, ?_, ?_⟩
      · have := hw.len
        rw [parts_cons] at this
        simp at this
        omega
      · rw [he, hw.read]
        simp [hw.fin]
    rw [h] at h1
    cases h1
end Go.Sh
namespace Go.Proofs.Ytiohaeckagjebaa
open Go Go.Sh Go.RowKit

theorem l18Pump_c {F : Nat → Prop} {w : World} {v : Value} {gm : Gram} {tree : List Int} {X : Option Addr} {n c : Nat} {p : PT} {ws : List Int} (hW : Whole gm tree p ws) (hv : GramV F w v gm) (hx : Ints w X tree) (hn : n = tree.length) {k : Value → World → Prop}
    (hk0 : pumpV p.parts = none → ∀ w', Gr w w' → k (.slice none 0 0) w') (hk1 : ∀ i j, pumpV p.parts = some (i, j) → ∀ w' U d, Gr w w' → Own 3 w' w.heap.size U d (pumpR p.parts i j) → k (.slice U 6 d) w') :
    CallK Try.prog 92 [v, .slice X n c] k w := by
  subst hn
  obtain ⟨Y, cy, rfl, hc, hy⟩ := hv
  have hlen := hW.len
  have h60 := hW.le
  have hlaid := hW.laid
  refine enter92 ?_
  unfold S92
  have H := Apt.nil w
  refine boxH H fun b1 w1 H => ?_
  rw [ldB_agg agg37 sz37 rfl (H.box 0 rfl)]
  refine l18Parts_c hW.good (by omega) tree.length (a := 0) (ws := []) ⟨Y, cy, rfl, hc, hy.gr H.gr⟩ (hx.gr H.gr) hW.read (by have := hW.words; omega) fun w2 U d ps g2 o2 => ?_
  have H := H.step g2
  have hss := o2.read
  simp only [go_sem, Nat.reduceEqDiff]
  rw [rowsP_length]
  generalize hP : p.parts = P at *
  refine loop_to P.length 0 (fun i f w' => i ≤ P.length ∧ f 19 = .int .i64 i ∧ (∀ p', p' < i → Dry P p' (ptn P p').fin) ∧ Gr w2 w' ∧ Apt w w' [bx b1 [.int .i64 gm.nons, .int .i64 gm.toks, .slice Y gm.rules.length cy] 37]) ⟨Nat.zero_le _, rfl, fun p' h => absurd h (Nat.not_lt_zero _), Gr.refl _, H⟩ ?_
  rintro i f w3 N hag ⟨hi, h19, hdry, G, H⟩ hN
  have f17 : f 17 = .slice U P.length d := hag 17 (by decide)
  have f18 : f 18 = .int .i64 P.length := hag 18 (by decide)
  have f5 : f 5 = .slice U P.length d := hag 5 (by decide)
  simp only [f17, f18, f5, h19, go_sem, Nat.reduceEqDiff]
  by_cases hlt : i < P.length
  case neg =>
    simp only [show ¬ (i : Int) < P.length from by omega, decide_false, go_sem, Nat.reduceEqDiff]
    obtain rfl : i = P.length := by omega
    exact hk0 (pumpV_none hdry) _ H.gr
  simp only [show (i : Int) < P.length from by omega, decide_true, go_sem, Nat.reduceEqDiff]
  obtain ⟨V, cV, hv1, hv2, hv3⟩ := hss.row i (by rw [rowsP_length]; exact hlt)
  rw [rgt_rowsP hlt] at hv1 hv2 hv3
  obtain ⟨x0, x1, x2, x3, x4⟩ := row_cells hv3
  have hU : 0 < P.length → U = some (ad U) := fun h => hss.ptr (by rw [rowsP_length]; exact h)
  rw [ixn48 hU hlt, ld22 (G.cell hv1)]
  rw [i64_of (by omega) (by omega)]
  obtain ⟨l1, l2, l3, l4⟩ := hlaid i hlt
  rw [← ptn_eq hlt] at l1 l2 l3 l4
  refine loop_to (ptn P i).fin (i + 1) (fun j f' w' => i + 1 ≤ j ∧ j ≤ (ptn P i).fin ∧ f' 9 = .int .i64 j ∧ Dry P i j ∧ Gr w2 w' ∧ Apt w w' [bx b1 [.int .i64 gm.nons, .int .i64 gm.toks, .slice Y gm.rules.length cy] 37]) ⟨Nat.le_refl _, by omega, rfl, fun q' h1 h2 => by omega, G, H⟩ ?_
  rintro j f' w4 N' hag' ⟨hj1, hj2, h9, hd, G, H⟩ hN'
  have f8 : f' 8 = .slice V 4 cV := hag' 8 (by decide)
  have f5' : f' 5 = .slice U P.length d := (hag' 5 (by decide)).trans f5
  have f7 : f' 7 = .int .i64 i := hag' 7 (by decide)
  have f19 : f' 19 = .int .i64 i := (hag' 19 (by decide)).trans h19
  simp only [f8, f5', f7, f19, h9, go_sem, Nat.reduceEqDiff]
  rw [ix22_1 (fun _ => x0) (by decide), ld3 (G.cell x2)]
  simp only [go_sem, Nat.reduceEqDiff]
  by_cases hltj : j < (ptn P i).fin
  case neg =>
    simp only [show ¬ (j : Int) < (ptn P i).fin from by omega, decide_false, go_sem, Nat.reduceEqDiff]
    obtain rfl : j = (ptn P i).fin := by omega
    rw [i64_of (by omega) (by omega)]
    refine hN _ _ hlt ⟨hlt, rfl, fun p' hp' => ?_, G, H⟩
    by_cases e : p' = i
    · rw [e]; exact hd
    · exact hdry p' (by omega)
  simp only [show (j : Int) < (ptn P i).fin from by omega, decide_true, go_sem, Nat.reduceEqDiff]
  have hjl : j < P.length := by omega
  obtain ⟨V2, cV2, hw1, hw2, hw3⟩ := hss.row j (by rw [rowsP_length]; exact hjl)
  rw [rgt_rowsP hjl] at hw1 hw2 hw3
  replace hw1 : w2.cell? ((ad U).add j) = some (.slice V2 4 cV2) := hw1
  obtain ⟨y0, y1, y2, y3, y4⟩ := row_cells hw3
  rw [ixn48 hU hjl, ld22 (G.cell hw1)]
  have Gd := gr_trans G (gr_drew w4)
  have Hd := H.drew
  rw [ix22_0 (fun _ => x0) (by decide), ld3 (Gd.cell x1), ix22_0 (fun _ => y0) (show 0 < 4 by decide), ld3 (Gd.cell y1)]
  simp only [go_sem, Nat.reduceEqDiff]
  by_cases hnon : (ptn P i).non = (ptn P j).non
  case neg =>
    simp only [hnon, decide_false, go_sem, Nat.reduceEqDiff]
    rw [i64_of (by omega) (by omega)]
    exact hN' _ _ hltj ⟨by omega, hltj, rfl, dry_next hd (by simp [pairT, hnon]), Gd, Hd⟩
  simp only [hnon, decide_true, go_sem, Nat.reduceEqDiff]
  rw [ix22_2 (fun _ => x0) (by decide), ld3 (Gd.cell x3), ix22_2 (fun _ => y0) (show 2 < 4 by decide), ld3 (Gd.cell y3)]
  simp only [Int.natCast_inj, go_sem, Nat.reduceEqDiff]
  have found : pairT (ptn P i) (ptn P j) = true → N' = N' → ∀ (w5 : World), Apt w w5 [bx b1 [.int .i64 gm.nons, .int .i64 gm.toks, .slice Y gm.rules.length cy] 37] → ∀ U d, Own 3 w5 w.heap.size U d (pumpR P i j) → k (.slice U 6 d) w5 := fun hp _ w5 H5 U d o =>
    hk1 i j (pumpV_some hlt (by omega) hltj hp hd hdry) w5 U d H5.gr o
  have Gd2 := gr_trans Gd (gr_drew _)
  have Hd2 := Hd.drew
  by_cases hfr : (ptn P i).fr = (ptn P j).fr
  case neg =>
    simp only [hfr, decide_false, Bool.not_false, go_sem, Nat.reduceEqDiff]
    rw [ix22_2 (fun _ => x0) (by decide), ld3 (Gd2.cell x3), ix22_2 (fun _ => y0) (show 2 < 4 by decide), ld3 (Gd2.cell y3), ix22_3 (fun _ => y0) (show 3 < 4 by decide), ld3 (Gd2.cell y4), ix22_3 (fun _ => x0) (by decide), ld3 (Gd2.cell x4)]
    refine buildH Hd2 u22 inf3 (ints (pumpR P i j)) (by decide) (by decide) (by simp [Instr.fill, madeCells, Value.cells, rng6, ints, pumpR]) rfl fun b5 w5 H5 => ?_
    exact found (by simp [pairT, hnon, hfr]) rfl w5 (H5.take 1) _ _ (H5.row 1 rfl)
  simp only [hfr, decide_true, Bool.not_true, go_sem, Nat.reduceEqDiff]
  rw [ix22_3 (fun _ => x0) (by decide), ld3 (Gd.cell x4), ix22_3 (fun _ => y0) (show 3 < 4 by decide), ld3 (Gd.cell y4)]
  simp only [Int.natCast_inj, go_sem, Nat.reduceEqDiff]
  by_cases hto : (ptn P i).to = (ptn P j).to
  case pos =>
    simp only [hto, decide_true, Bool.not_true, go_sem, Nat.reduceEqDiff]
    rw [i64_of (by omega) (by omega)]
    exact hN' _ _ hltj ⟨by omega, hltj, rfl, dry_next hd (by simp [pairT, hfr, hto]), Gd, Hd⟩
  simp only [hto, decide_false, Bool.not_false, go_sem, Nat.reduceEqDiff]
  rw [ix22_2 (fun _ => x0) (by decide), ld3 (Gd2.cell x3), ix22_2 (fun _ => y0) (show 2 < 4 by decide), ld3 (Gd2.cell y3), ix22_3 (fun _ => y0) (show 3 < 4 by decide), ld3 (Gd2.cell y4), ix22_3 (fun _ => x0) (by decide), ld3 (Gd2.cell x4)]
  refine buildH Hd2 u22 inf3 (ints (pumpR P i j)) (by decide) (by decide) (by simp [Instr.fill, madeCells, Value.cells, rng6, ints, pumpR]) rfl fun b5 w5 H5 => ?_
  exact found (by simp [pairT, hnon, hto]) rfl w5 (H5.take 1) _ _ (H5.row 1 rfl)
end Go.Proofs.Ytiohaeckagjebaa
