/- Contracts: PumpOf, PathIn, PumpTree of the reference. -/
import Derived.Test.YtiohaeckagjebaaShQ5
set_option linter.unusedVariables false
set_option linter.unusedSimpArgs false
set_option maxRecDepth 100000
namespace Go.Sh
open Go
def wholeP (gm : Gram) (tree : List Int) : Option PT := if askedT gm tree = true then (readT gm.rules tree tree.length 0 0 []).map fun z => z.1 else none
theorem whole_no {gm : Gram} {tree : List Int} (h : askedT gm tree = false) : wholeP gm tree = none := by
  unfold wholeP
  rw [h]
  rfl
theorem Whole.eq {gm : Gram} {tree : List Int} {p : PT} {ws : List Int} (h : Whole gm tree p ws) : wholeP gm tree = some p := by
  have ha : askedT gm tree = true := by
    cases e : askedT gm tree with
    | true => rfl
    | false => exact absurd h (asked_whole.2 e p ws)
  unfold wholeP
  rw [if_pos ha, h.read]
  rfl
def pumpOfV (gm : Gram) (tree : List Int) : List Int × Bool := match wholeP gm tree with
  | none => ([], false)
  | some p => match pumpV p.parts with
    | none => ([], false)
    | some (i, j) => (pumpR p.parts i j, true)
def pathInV (gm : Gram) (tree : List Int) : List (List Int) × Bool := match wholeP gm tree with
  | none => ([], false)
  | some p => (rowsP p.parts, true)
def treeCuts (ps : List PT) (i j : Nat) : List Int := [i, j, (ptn ps j).fin, (ptn ps i).fin]
def pumpTreeV (gm : Gram) (tree : List Int) (m : Int) : List Int × Bool := match wholeP gm tree with
  | none => ([], false)
  | some p => if inB m 0 4 = true then match pumpV p.parts with
      | none => ([], false)
      | some (i, j) => if (pumpL tree (treeCuts p.parts i j) m.toNat).length ≤ 60 then (pumpL tree (treeCuts p.parts i j) m.toNat, true) else ([], false)
    else ([], false)
def Good1 (q : PT) : Prop := Laid q.parts q.at_ ∧ q.fin = q.at_ + q.parts.length
theorem readR_each {rec : Int → Nat → List Int → Option (PT × List Int)} (h : ∀ x a w p w', rec x a w = some (p, w') → ∀ q ∈ p.parts, Good1 q) : ∀ (xs : List Int) (e : Nat) (w : List Int) (ks : List PT) {ks' : List PT} {e' : Nat} {w' : List Int}, readR rec xs e w ks = some (ks', e', w') → (∀ q ∈ PT.partsL ks, Good1 q) → ∀ q ∈ PT.partsL ks', Good1 q := by
  intro xs
  induction xs with
  | nil =>
    intro e w ks ks' e' w' hr hq
    simp only [readR, Option.some.injEq, Prod.mk.injEq] at hr
    obtain ⟨rfl, rfl, rfl⟩ := hr
    exact hq
  | cons x xs ih =>
    intro e w ks ks' e' w' hr hq
    unfold readR at hr
    split at hr
    · exact ih _ _ _ hr hq
    · split at hr
      · cases hr
      · rename_i k w1 hz
        refine ih _ _ _ hr fun q hm => ?_
        rw [partsL_append] at hm
        rcases List.mem_append.1 hm with hm | hm
        · exact hq q hm
        · simp only [PT.partsL, List.append_nil] at hm
          exact h _ _ _ _ _ hz q hm
theorem readT_each {rs : List RuleL} {tree : List Int} : ∀ (f : Nat) (non : Int) (a : Nat) (w : List Int) (p : PT) (w' : List Int), readT rs tree f non a w = some (p, w') → ∀ q ∈ p.parts, Good1 q := by
  intro f
  induction f with
  | zero => intro non a w p w' h; cases h
  | succ f ih =>
    intro non a w p w' h q hq
    obtain ⟨h1, h2, h3, _⟩ := readT_laid _ _ _ _ _ _ _ _ h
    rw [parts_cons] at hq
    rcases List.mem_cons.1 hq with rfl | hq
    · exact ⟨by rw [h3]; exact h1, by rw [h3]; exact h2⟩
    · obtain ⟨_, ks, e, _, _, _, _, hR, rfl⟩ := readT_some h
      exact readR_each (fun x a w p w' hh => ih x a w p w' hh) _ _ _ _ hR (fun q hm => by simp [PT.partsL] at hm) q hq
theorem Whole.nest {gm : Gram} {tree : List Int} {p : PT} {ws : List Int} (hW : Whole gm tree p ws) {i j : Nat} (hi : i < p.parts.length) (hij : i ≤ j) (hj : j < (ptn p.parts i).fin) : (ptn p.parts j).fin ≤ (ptn p.parts i).fin := by
  obtain ⟨l1, l2, l3, l4⟩ := hW.laid i hi
  have hg := readT_each _ _ _ _ _ _ hW.read (ptn p.parts i) (by rw [ptn_eq hi]; exact List.getElem_mem hi)
  rw [← ptn_eq hi] at l1 l2 l3 l4
  obtain ⟨g1, g2⟩ := hg
  have hd : j - i < (ptn p.parts i).parts.length := by omega
  have := (g1 (j - i) hd).2.1
  rw [← ptn_eq hd, l4, ptn_drop (by omega), show i + (j - i) = j from by omega, ← l4] at this
  omega
end Go.Sh
namespace Go.Proofs.Ytiohaeckagjebaa
open Go Go.Sh Go.RowKit

theorem specPumpOf_c {F : Nat → Prop} {w : World} {v : Value} {gm : Gram} {tree : List Int} {X : Option Addr} {n c : Nat} (hv : GramV F w v gm) (hx : Ints w X tree) (hn : n = tree.length) {k : Value → World → Prop}
    (hk : ∀ w' U d, Gr w w' → Own 3 w' w.heap.size U d (pumpOfV gm tree).1 → k (.tuple #[.slice U (pumpOfV gm tree).1.length d, .bool (pumpOfV gm tree).2]) w') :
    CallK Try.prog 42 [v, .slice X n c] k w := by
  subst hn
  obtain ⟨Y, cy, rfl, hc, hy⟩ := hv
  refine enter42 ?_
  unfold S42
  have H := Apt.nil w
  refine boxH H fun b1 w1 H => ?_
  rw [ldB_agg agg37 sz37 rfl (H.box 0 rfl)]
  refine l18Asked_c (gm := gm) (tree := tree) ⟨Y, cy, rfl, hc, hy.gr H.gr⟩ (hx.gr H.gr) rfl fun w2 g2 => ?_
  have H := H.step g2
  unfold pumpOfV at hk
  cases ha : askedT gm tree
  · simp only [Bool.not_false, go_sem, Nat.reduceEqDiff]
    rw [whole_no ha] at hk
    exact hk _ none 0 H.gr (Row.nil _ _ _ _)
  obtain ⟨p, ws, hW⟩ := asked_whole.1 ha
  rw [hW.eq] at hk
  simp only [Bool.not_true, go_sem, Nat.reduceEqDiff]
  rw [ldB_agg agg37 sz37 rfl (H.box 0 rfl)]
  refine l18Pump_c hW ⟨Y, cy, rfl, hc, hy.gr H.gr⟩ (hx.gr H.gr) rfl (fun he w3 g3 => ?_) fun i j he w3 U d g3 o3 => ?_
  · have H := H.step g3
    simp only [go_sem, Nat.reduceEqDiff]
    simp only [he] at hk
    exact hk _ none 0 H.gr (Row.nil _ _ _ _)
  · have G := H.gr
    have H := H.step g3
    simp only [go_sem, Nat.reduceEqDiff]
    simp only [he] at hk
    exact hk _ U d H.gr (Row.mono o3 G.size)
theorem specPathIn_c {F : Nat → Prop} {w : World} {v : Value} {gm : Gram} {tree : List Int} {X : Option Addr} {n c : Nat} (hv : GramV F w v gm) (hx : Ints w X tree) (hn : n = tree.length) {k : Value → World → Prop}
    (hk : ∀ w' U d ps, Gr w w' → OwnSS 22 3 w' w.heap.size U d (pathInV gm tree).1 ps → k (.tuple #[.slice U (pathInV gm tree).1.length d, .bool (pathInV gm tree).2]) w') :
    CallK Try.prog 44 [v, .slice X n c] k w := by
  subst hn
  obtain ⟨Y, cy, rfl, hc, hy⟩ := hv
  refine enter44 ?_
  unfold S44
  have H := Apt.nil w
  refine boxH H fun b1 w1 H => ?_
  rw [ldB_agg agg37 sz37 rfl (H.box 0 rfl)]
  refine l18Asked_c (gm := gm) (tree := tree) ⟨Y, cy, rfl, hc, hy.gr H.gr⟩ (hx.gr H.gr) rfl fun w2 g2 => ?_
  have H := H.step g2
  unfold pathInV at hk
  cases ha : askedT gm tree
  · simp only [Bool.not_false, go_sem, Nat.reduceEqDiff]
    rw [whole_no ha] at hk
    exact hk _ none 0 (fun _ => (none, 0)) H.gr (OwnSS.nil _ _ _ _ _)
  obtain ⟨p, ws, hW⟩ := asked_whole.1 ha
  rw [hW.eq] at hk
  simp only [Bool.not_true, go_sem, Nat.reduceEqDiff]
  rw [ldB_agg agg37 sz37 rfl (H.box 0 rfl)]
  have h60 := hW.le
  refine l18Parts_c hW.good (by omega) tree.length (a := 0) (ws := []) ⟨Y, cy, rfl, hc, hy.gr H.gr⟩ (hx.gr H.gr) hW.read (by have := hW.words; omega) fun w3 U d ps g3 o3 => ?_
  simp only [go_sem, Nat.reduceEqDiff]
  exact hk _ U d ps (gr_trans H.gr g3) (OwnSS.mono o3 H.gr.size)
theorem cuts_of {p : PT} {gm : Gram} {tree : List Int} {ws : List Int} (hW : Whole gm tree p ws) {i j : Nat} (he : pumpV p.parts = some (i, j)) : i < p.parts.length ∧ i < j ∧ j < (ptn p.parts i).fin ∧ j < p.parts.length ∧ Cuts (treeCuts p.parts i j) tree.length := by
  have hlen := hW.len
  have hlaid := hW.laid
  have key : i < p.parts.length ∧ i < j ∧ j < (ptn p.parts i).fin := by
    unfold pumpV at he
    obtain ⟨a, ha, h1⟩ := List.exists_of_findSome?_eq_some he
    obtain ⟨b, hb, h2⟩ := List.exists_of_findSome?_eq_some h1
    rw [List.mem_range] at ha
    rw [List.mem_range'_1] at hb
    split at h2
    · simp only [Option.some.injEq, Prod.mk.injEq] at h2
      obtain ⟨rfl, rfl⟩ := h2
      exact ⟨ha, by omega, by omega⟩
    · cases h2
  obtain ⟨h1, h2, h3⟩ := key
  obtain ⟨l1, l2, l3, l4⟩ := hlaid i h1
  rw [← ptn_eq h1] at l1 l2 l3 l4
  have hj : j < p.parts.length := by omega
  have hsub := hW.nest h1 (by omega) h3
  obtain ⟨m1, m2, m3, m4⟩ := hlaid j hj
  rw [← ptn_eq hj] at m1 m2 m3 m4
  refine ⟨h1, h2, h3, hj, rfl, ?_, ?_, ?_, ?_, ?_⟩ <;> simp only [treeCuts, List.getD_cons_zero, List.getD_cons_succ] <;> omega
theorem specPumpTree_c {F : Nat → Prop} {w : World} {v : Value} {gm : Gram} {tree : List Int} {X : Option Addr} {n c : Nat} {m : Int} (hv : GramV F w v gm) (hx : Ints w X tree) (hn : n = tree.length) (hcap : tree.length ≤ c) {k : Value → World → Prop}
    (hk : ∀ w' U d, Gr w w' → Own 3 w' w.heap.size U d (pumpTreeV gm tree m).1 → k (.tuple #[.slice U (pumpTreeV gm tree m).1.length d, .bool (pumpTreeV gm tree m).2]) w') :
    CallK Try.prog 59 [v, .slice X n c, .int .i64 m] k w := by
  subst hn
  obtain ⟨Y, cy, rfl, hc, hy⟩ := hv
  refine enter59 ?_
  unfold S59
  have H := Apt.nil w
  refine boxH H fun b1 w1 H => ?_
  rw [ldB_agg agg37 sz37 rfl (H.box 0 rfl)]
  refine l18Asked_c (gm := gm) (tree := tree) ⟨Y, cy, rfl, hc, hy.gr H.gr⟩ (hx.gr H.gr) rfl fun w2 g2 => ?_
  have H := H.step g2
  unfold pumpTreeV at hk
  cases ha : askedT gm tree
  · simp only [Bool.not_false, go_sem, Nat.reduceEqDiff]
    rw [whole_no ha] at hk
    exact hk _ none 0 H.gr (Row.nil _ _ _ _)
  obtain ⟨p, ws, hW⟩ := asked_whole.1 ha
  rw [hW.eq] at hk
  simp only [Bool.not_true, go_sem, Nat.reduceEqDiff]
  refine l1In_c ?_
  cases hm : inB m 0 4
  · simp only [Bool.not_false, go_sem, Nat.reduceEqDiff]
    simp only [hm, Bool.false_eq_true, if_false] at hk
    exact hk _ none 0 H.gr (Row.nil _ _ _ _)
  simp only [hm, if_true] at hk
  obtain ⟨m, rfl⟩ : ∃ m' : Nat, m = m' := by
    simp only [inB, Bool.and_eq_true, decide_eq_true_eq] at hm
    exact ⟨m.toNat, by omega⟩
  have hm4 : m ≤ 4 := by
    simp only [inB, Bool.and_eq_true, decide_eq_true_eq] at hm
    omega
  rw [Int.toNat_natCast] at hk
  simp only [Bool.not_true, go_sem, Nat.reduceEqDiff]
  rw [ldB_agg agg37 sz37 rfl (H.box 0 rfl)]
  have h60 := hW.le
  refine l18Pump_c hW ⟨Y, cy, rfl, hc, hy.gr H.gr⟩ (hx.gr H.gr) rfl (fun he w3 g3 => ?_) fun i j he w3 U d g3 o3 => ?_
  · have H := H.step g3
    simp only [go_sem, Nat.reduceEqDiff]
    simp only [he] at hk
    exact hk _ none 0 H.gr (Row.nil _ _ _ _)
  simp only [he] at hk
  obtain ⟨hi, hij, hjf, hj, hcuts⟩ := cuts_of hW he
  have H := H.addOwn g3 o3
  simp only [show ¬ (((6 : Nat) : Int) = 0) from by decide, decide_false, go_sem, Nat.reduceEqDiff]
  rw [ldB_agg agg37 sz37 rfl (H.box 0 rfl)]
  refine l18Parts_c hW.good (by omega) tree.length (a := 0) (ws := []) ⟨Y, cy, rfl, hc, hy.gr H.gr⟩ (hx.gr H.gr) hW.read (by have := hW.words; omega) fun w4 V d4 ps g4 o4 => ?_
  have H := ((H.step g4).drew).drew
  have hss := o4.read.gr (gr_trans (gr_drew _) (gr_drew _))
  have hUi := H.ints 1 rfl
  have hU0 : U = some (ad U) := hUi.ptr (by simp [pumpR])
  simp only [go_sem, Nat.reduceEqDiff]
  have hrl := rowsP_length p.parts
  obtain ⟨V1, c1, a1, a2, a3⟩ := hss.row j (by omega)
  obtain ⟨V2, c2, b1', b2', b3'⟩ := hss.row i (by omega)
  rw [rgt_rowsP hj] at a1 a2 a3
  rw [rgt_rowsP hi] at b1' b2' b3'
  obtain ⟨x0, x1, x2, x3, x4⟩ := row_cells a3
  obtain ⟨y0, y1, y2, y3, y4⟩ := row_cells b3'
  have hU2 := o3.ints.gr g4
  have hV : 0 < (rowsP p.parts).length → V = some (ad V) := fun h => hss.ptr h
  replace a1 : World.cell? _ _ = some (.slice V1 4 c1) := a1
  replace b1' : World.cell? _ _ = some (.slice V2 4 c2) := b1'
  refine rdi (ix22_0 (fun _ => hU0) (show 0 < 6 by decide)) (rdi (ld3 ((hU2.gr (gr_drew _)).cell 0 (by simp [pumpR]))) (rdi (ix22_1 (fun _ => hU0) (show 1 < 6 by decide)) (rdi (ld3 ((hU2.gr (gr_drew _)).cell 1 (by simp [pumpR]))) ?_)))
  refine rdi (ixn48 (i := j) hV (by omega)) (rdi (ld22 a1) (rdi (ix22_1 (fun _ => x0) (show 1 < 4 by decide)) (rdi (ld3 x2) ?_)))
  refine rdi (ixn48 (i := i) hV (by omega)) (rdi (ld22 b1') (rdi (ix22_1 (fun _ => y0) (show 1 < 4 by decide)) (rdi (ld3 y2) ?_)))
  refine buildH H u22 inf3 (ints (treeCuts p.parts i j)) (by decide) (by decide) (by simp [Instr.fill, madeCells, Value.cells, rng4, ints, treeCuts, pumpR]) rfl fun b5 w5 H => ?_
  refine l18Word_c (cs := treeCuts p.parts i j) (hx.gr H.gr) hcap (Own.ints (show Own 3 w5 w.heap.size _ 4 (treeCuts p.parts i j) from H.row 2 rfl)) hcuts (by omega) hm4 fun U6 d6 w6 g6 o6 => ?_
  have G := H.gr.size
  have H := H.step g6
  simp only [go_sem, Nat.reduceEqDiff]
  by_cases h60' : (pumpL tree (treeCuts p.parts i j) m).length ≤ 60
  · simp only [show ¬ ((60 : Int) < (pumpL tree (treeCuts p.parts i j) m).length) from by omega, decide_false, go_sem, Nat.reduceEqDiff]
    simp only [if_pos h60'] at hk
    exact hk _ U6 d6 H.gr (Row.mono o6 G)
  · simp only [show ((60 : Int) < (pumpL tree (treeCuts p.parts i j) m).length) from by omega, decide_true, go_sem, Nat.reduceEqDiff]
    simp only [if_neg h60'] at hk
    exact hk _ none 0 H.gr (Row.nil _ _ _ _)
end Go.Proofs.Ytiohaeckagjebaa
