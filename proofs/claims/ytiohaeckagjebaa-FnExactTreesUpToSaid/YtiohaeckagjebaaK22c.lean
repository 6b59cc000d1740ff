/- Texts of this repository put together: ShS1, ShQ3, ShQ4, ShQ5, ShQ6, ShQ7, ShQ8, ShS2, ShS3, ShS4, ShC3, ShC5, ShT1, ShQ9, Bg, ShU1, ShU2, Bm, ShJ0, ShU4, ShU5, ShU6, ShM4, ShM5, Bj, ShN1, Bh, ShM6, ShM7, ShN2, Bo, ShO2, ShY1, ShX2, ShY2, Bp, ShY3, ShY4. -/
import Derived.Test.YtiohaeckagjebaaK22b
import Derived.Test.YtiohaeckagjebaaK22a
import Derived.Test.YtiohaeckagjebaaProg

/- Contracts: what derives a part of a word, by the reference. -/
set_option linter.unusedVariables false
set_option linter.unusedSimpArgs false
set_option maxRecDepth 100000
namespace Go.Sh
open Go
/-- The reference's table in memory. -/
structure TabS (w : World) (U : Option Addr) (nons n : Nat) (T : Tab) : Prop where
  ptr : 0 < nons → U = some (ad U)
  row : ∀ x, x < nons → ∃ R c, w.cell? ((ad U).add x) = some (.slice R (n * n) c) ∧ R = some (ad R) ∧ ∀ i j, i < n → j < n → w.cell? ((ad R).add (i * n + j)) = some (.bool (T x i j))
theorem TabS.gr {w w' : World} {U : Option Addr} {nons n : Nat} {T : Tab} (h : TabS w U nons n T) (g : Gr w w') : TabS w' U nons n T := ⟨h.ptr, fun x hx => by
  obtain ⟨R, c, h1, h2, h3⟩ := h.row x hx
  exact ⟨R, c, g.cell h1, h2, fun i j hi hj => g.cell (h3 i j hi hj)⟩⟩
/-- The rows of a table. -/
def rowB (T : Tab) (n x : Nat) : List Value := (List.range (n * n)).map fun p => .bool (T x (p / n) (p % n))
def rowsB (T : Tab) (nons n : Nat) : List (List Value) := (List.range nons).map (rowB T n)
theorem rowB_length (T : Tab) (n x : Nat) : (rowB T n x).length = n * n := by simp [rowB]
theorem rowsB_length (T : Tab) (nons n : Nat) : (rowsB T nons n).length = nons := by simp [rowsB]
theorem vls_rowsB {T : Tab} {nons n x : Nat} (h : x < nons) : vls (rowsB T nons n) x = rowB T n x := by
  rw [vls_eq (by rw [rowsB_length]; exact h)]
  simp [rowsB]
theorem place_lt {n i j : Nat} (hi : i < n) (hj : j < n) : i * n + j < n * n := by
  have : (i + 1) * n ≤ n * n := Nat.mul_le_mul_right n hi
  rw [Nat.add_mul] at this
  omega
theorem rowB_at {T : Tab} {n x i j : Nat} (hi : i < n) (hj : j < n) : (rowB T n x)[i * n + j]? = some (.bool (T x i j)) := by
  have hn : 0 < n := by omega
  have e1 : (i * n + j) / n = i := by rw [Nat.mul_comm, Nat.mul_add_div hn, Nat.div_eq_of_lt hj, Nat.add_zero]
  have e2 : (i * n + j) % n = j := by rw [Nat.mul_comm, Nat.mul_add_mod, Nat.mod_eq_of_lt hj]
  simp [rowB, place_lt hi hj, e1, e2]
theorem OwnV.tab {e1 e2 : Nat} {w : World} {B c nons n : Nat} {X : Option Addr} {T : Tab} {ps : Nat → Option Addr × Nat} (h : OwnV e1 e2 w B X c (rowsB T nons n) ps) (hn : 0 < n) : TabS w X nons n T := by
  refine ⟨fun hp => h.ptr (by rw [rowsB_length]; exact hp), fun x hx => ?_⟩
  have hx' : x < (rowsB T nons n).length := by rw [rowsB_length]; exact hx
  have hc := h.cell hx'
  have ho := h.own x hx'
  rw [vls_rowsB hx, rowB_length] at hc ho
  refine ⟨_, _, hc, ho.ptr (Nat.mul_pos hn hn), fun i j hi hj => ho.src.cell _ _ (rowB_at hi hj)⟩
theorem foldl_range {α : Type} (f : α → Nat → α) (s : α) (n : Nat) : (List.range (n + 1)).foldl f s = f ((List.range n).foldl f s) n := by
  rw [List.range_succ, List.foldl_append]
  rfl
theorem foldl_range' {α : Type} (f : α → Nat → α) (s : α) (a n : Nat) : (List.range' a (n + 1)).foldl f s = f ((List.range' a n).foldl f s) (a + n) := by
  rw [List.range'_concat, List.foldl_append]
  simp
theorem foldl_take {α : Type} (f : α → RuleL → α) (s : α) (rs : List RuleL) {n : Nat} (h : n < rs.length) : (rs.take (n + 1)).foldl f s = f ((rs.take n).foldl f s) (rul rs n) := by
  rw [List.take_succ_eq_append_getElem h, List.foldl_append, rul_eq h]
  rfl
end Go.Sh
namespace Go.Proofs.Ytiohaeckagjebaa
open Go Go.Sh Go.RowKit

end Go.Proofs.Ytiohaeckagjebaa

/- Contract: the parts of a tree, told by the reference. -/
set_option linter.unusedVariables false
set_option linter.unusedSimpArgs false
set_option maxRecDepth 100000
namespace Go.Sh
open Go
end Go.Sh
namespace Go.Proofs.Ytiohaeckagjebaa
open Go Go.Sh Go.RowKit

end Go.Proofs.Ytiohaeckagjebaa

/- Contracts: the parts of a tree in memory, and the two that can be pumped, by the program. -/
set_option linter.unusedVariables false
set_option linter.unusedSimpArgs false
set_option maxRecDepth 100000
namespace Go.Sh
open Go
end Go.Sh
namespace Go.Proofs.Ytiohaeckagjebaa
open Go Go.Sh Go.RowKit

end Go.Proofs.Ytiohaeckagjebaa

/- Contracts: what of a tree can be pumped, by the reference. -/
set_option linter.unusedVariables false
set_option linter.unusedSimpArgs false
set_option maxRecDepth 100000
namespace Go.Sh
open Go
/-- The whole tree that a list of rules is. -/
structure Whole (gm : Gram) (tree : List Int) (p : PT) (ws : List Int) : Prop where
  good : goodG gm = true
  le : tree.length ≤ 60
  read : readT gm.rules tree tree.length 0 0 [] = some (p, ws)
  fin : p.fin = tree.length
theorem Whole.laid {gm : Gram} {tree : List Int} {p : PT} {ws : List Int} (h : Whole gm tree p ws) : Laid p.parts 0 := (readT_laid _ _ _ _ _ _ _ _ h.read).1
theorem Whole.len {gm : Gram} {tree : List Int} {p : PT} {ws : List Int} (h : Whole gm tree p ws) : p.parts.length = tree.length := by
  have := (readT_laid _ _ _ _ _ _ _ _ h.read).2.1
  have := h.fin
  omega
theorem Whole.words {gm : Gram} {tree : List Int} {p : PT} {ws : List Int} (h : Whole gm tree p ws) : ws.length ≤ 240 := by
  have := (readT_words (good_rule h.good) _ _ _ _ _ _ h.read).2
  have := h.len
  have := h.le
  simp at *
  omega
theorem asked_whole {gm : Gram} {tree : List Int} : (askedT gm tree = true → ∃ p ws, Whole gm tree p ws) ∧ (askedT gm tree = false → ∀ p ws, ¬ Whole gm tree p ws) := by
  have he := endT_eq gm.rules tree tree.length 0 0 []
  constructor
  · intro h
    simp only [askedT, isT, Bool.and_eq_true, decide_eq_true_eq] at h
    rw [h.2.2] at he
    cases hz : readT gm.rules tree tree.length 0 0 [] with
    | none => rw [hz] at he; cases he
    | some z =>
      rw [hz] at he
      exact ⟨z.1, z.2, h.1.1, h.1.2, hz, by simpa using he.symm⟩
  · intro h p ws hw
    have h1 : askedT gm tree = true := by
      simp only [askedT, isT, Bool.and_eq_true, decide_eq_true_eq]
      refine ⟨⟨hw.good, hw.le⟩, ?_, ?_⟩
      · have := hw.len
        rw [parts_cons] at this
        simp at this
        omega
      · rw [he, hw.read]
        simp [hw.fin]
    rw [h] at h1
    cases h1
end Go.Sh
namespace Go.Proofs.Ytiohaeckagjebaa
open Go Go.Sh Go.RowKit

end Go.Proofs.Ytiohaeckagjebaa

/- Contracts: PumpOf, PathIn, PumpTree of the reference. -/
set_option linter.unusedVariables false
set_option linter.unusedSimpArgs false
set_option maxRecDepth 100000
namespace Go.Sh
open Go
def wholeP (gm : Gram) (tree : List Int) : Option PT := if askedT gm tree = true then (readT gm.rules tree tree.length 0 0 []).map fun z => z.1 else none
theorem Whole.eq {gm : Gram} {tree : List Int} {p : PT} {ws : List Int} (h : Whole gm tree p ws) : wholeP gm tree = some p := by
  have ha : askedT gm tree = true := by
    cases e : askedT gm tree with
    | true => rfl
    | false => exact absurd h (asked_whole.2 e p ws)
  unfold wholeP
  rw [if_pos ha, h.read]
  rfl
end Go.Sh
namespace Go.Proofs.Ytiohaeckagjebaa
open Go Go.Sh Go.RowKit

end Go.Proofs.Ytiohaeckagjebaa

/- Contract: the first two parts that can be pumped, by the program. -/
set_option linter.unusedVariables false
set_option linter.unusedSimpArgs false
set_option maxRecDepth 100000
namespace Go.Proofs.Ytiohaeckagjebaa
open Go Go.Sh Go.RowKit

end Go.Proofs.Ytiohaeckagjebaa

/- Contract: the tree that a list of rules begins with, read by the program. -/
set_option linter.unusedVariables false
set_option linter.unusedSimpArgs false
set_option maxRecDepth 100000
namespace Go.Sh
open Go
theorem AllPt.same {F : Nat → Prop} {w w' : World} {ps : List PT} {bs : List Nat} (h : AllPt F w ps bs) (hs : ∀ q, F q → w'.heap[q]? = w.heap[q]?) : AllPt F w' ps bs := ⟨h.1, fun i hi => PartAt.same hs _ _ (h.2 i hi)⟩
theorem AllPt.mono {F E : Nat → Prop} {w : World} {ps : List PT} {bs : List Nat} (h : AllPt F w ps bs) (he : ∀ q, F q → E q) : AllPt E w ps bs := ⟨h.1, fun i hi => PartAt.mono he _ _ (h.2 i hi)⟩
theorem good_symb {g : Gram} (hg : goodG g = true) {q : Nat} (hq : q < g.rules.length) {i : Nat} (hi : i < (rul g.rules q).2.length) : -4 ≤ (rul g.rules q).2.getD i 0 ∧ (rul g.rules q).2.getD i 0 ≤ 5 ∧ -g.toks ≤ (rul g.rules q).2.getD i 0 ∧ (rul g.rules q).2.getD i 0 ≤ g.nons - 1 := by
  have hn := good_nons hg
  have ht := good_toks hg
  simp only [goodG, Bool.and_eq_true, List.all_eq_true] at hg
  have h1 := hg.2 q (List.mem_range.2 hq)
  simp only [goodR, Bool.and_eq_true, List.all_eq_true] at h1
  have h2 := h1.1.2 _ (getD_mem hi)
  simp only [symB, inB, Bool.and_eq_true, decide_eq_true_eq] at h2
  omega
end Go.Sh
namespace Go.Proofs.Ytiohaeckagjebaa
open Go Go.Sh Go.RowKit
theorem symbolOf_c {x : Int} {w : World} {k : Value → World → Prop} (hk : k (.int .i64 (IntKind.i64.wrap (-1 - x))) w) : CallK Try.prog 179 [.int .i64 x] k w := by
  refine enter179 ?_
  unfold S179
  simp only [go_sem, Nat.reduceEqDiff]
  exact hk
abbrev readF (bR bG bW bF : Nat) : Value := .func (.func 178) #[] #[ptrv bR, ptrv bG, ptrv bW, ptrv bF]
end Go.Proofs.Ytiohaeckagjebaa

/- Contracts: what derives a part of a word, by the program. -/
set_option linter.unusedVariables false
set_option linter.unusedSimpArgs false
set_option maxRecDepth 100000
namespace Go.Sh
open Go
def cellsT (T : Tab) : List Value := (List.range 726).map fun p => .bool (cellT T p)
theorem cellsT_length (T : Tab) : (cellsT T).length = 726 := by simp [cellsT]
theorem cellT_at {T : Tab} {x i j : Nat} (hi : i < 11) (hj : j < 11) : cellT T (x * 121 + i * 11 + j) = T x i j := by
  have e1 : (x * 121 + i * 11 + j) / 121 = x := by omega
  have e2 : (x * 121 + i * 11 + j) / 11 % 11 = i := by omega
  have e3 : (x * 121 + i * 11 + j) % 11 = j := by omega
  simp [cellT, e1, e2, e3]
theorem cellsT_at {T : Tab} {v : Value} {x i j : Nat} (hx : x < 6) (hi : i < 11) (hj : j < 11) : (v :: cellsT T)[x * 121 + i * 11 + j + 1]? = some (.bool (T x i j)) := by
  rw [List.getElem?_cons_succ]
  simp only [cellsT, List.getElem?_map]
  rw [List.getElem?_range (by omega)]
  simp only [Option.map_some, cellT_at hi hj]
theorem cellsT_put {T : Tab} {v : Value} {x i j : Nat} (hx : x < 6) (hi : i < 11) (hj : j < 11) : (v :: cellsT T).set (x * 121 + i * 11 + j + 1) (.bool true) = v :: cellsT (T.put x i j) := by
  rw [List.set_cons_succ]
  congr 1
  refine List.ext_getElem? fun p => ?_
  rw [List.getElem?_set]
  by_cases hp : x * 121 + i * 11 + j = p
  · subst hp
    rw [if_pos rfl, if_pos (by rw [cellsT_length]; omega)]
    simp only [cellsT, List.getElem?_map]
    rw [List.getElem?_range (by omega)]
    simp only [Option.map_some, cellT_at hi hj]
    simp [Tab.put]
  · rw [if_neg hp]
    simp only [cellsT, List.getElem?_map]
    by_cases hlt : p < 726
    · rw [List.getElem?_range hlt]
      simp only [Option.map_some, cellT, Tab.put]
      have : ¬ (p / 121 = x ∧ p / 11 % 11 = i ∧ p % 11 = j) := by omega
      rw [if_neg this]
    · rw [List.getElem?_eq_none (by simp; omega)]
      rfl
theorem take_put_drop {l : List Value} {m : Nat} {v : Value} (h : m < l.length) : l.take m ++ [v] ++ l.drop (m + 1) = l.set m v := by
  rw [List.set_eq_take_append_cons_drop, if_pos h]
  simp
end Go.Sh
namespace Go.Proofs.Ytiohaeckagjebaa
open Go Go.Sh Go.RowKit

theorem sequence_c {ws : List Int} (hl : ws.length ≤ 10) (hw : ∀ t ∈ ws, 0 ≤ t ∧ t ≤ 100) : ∀ (right : List Int) {w : World} {b : Nat} {X Y : Option Addr} {cx cy : Nat} {T : Tab} {i j : Nat} {k : Value → World → Prop}, Box w b (.slice X ws.length cx :: cellsT T) 111 → Ints w X ws → Ints w Y right → right.length ≤ cy → (∀ x ∈ right, x < 6 ∧ -100 ≤ x) → i ≤ j → j ≤ ws.length → k (.bool (fitsT T ws right i j)) w →
    CallK Try.prog 149 [ptrv b, .slice Y right.length cy, .int .i64 i, .int .i64 j] k w := by
  intro right
  induction right with
  | nil =>
    intro w b X Y cx cy T i j k hB hX hY hcy hr hi hj hk
    refine enter149 ?_
    unfold S149
    simp only [go_sem, List.length_nil]
    simp only [Int.natCast_zero, decide_true, go_sem, Nat.reduceEqDiff, Int.natCast_inj]
    exact hk
  | cons x right ih =>
    intro w b X Y cx cy T i j k hB hX hY hcy hr hi hj hk
    refine enter149 ?_
    unfold S149
    simp only [go_sem, List.length_cons]
    simp only [show ¬ (((right.length + 1 : Nat) : Int) = 0) from by omega, decide_false, go_sem, Nat.reduceEqDiff]
    have hx := hr x (List.mem_cons_self ..)
    have hr' : ∀ y ∈ right, y < 6 ∧ -100 ≤ y := fun y hy => hr y (List.mem_cons_of_mem _ hy)
    simp only [List.length_cons] at hcy
    have hY' : Ints w (sub Y 1 cy 1) right := by
      have := hY.sub (l := 1) (c := cy) (by simp) (by simp; omega) (right.length)
      simpa using this
    rw [ix22_0 (fun _ => hY.ptr (by simp)) (by omega), ld3 (hY.cell 0 (by simp))]
    simp only [List.getD_cons_zero, go_sem, Nat.reduceEqDiff]
    by_cases hneg : x < 0
    · simp only [hneg, decide_true, go_sem, Nat.reduceEqDiff]
      rw [fits_tok hneg] at hk
      by_cases hij : i < j
      case neg =>
        simp only [show ¬ ((i : Int) < j) from by omega, decide_false, go_sem, Nat.reduceEqDiff]
        simpa only [hij, decide_false, Bool.false_and] using hk
      simp only [show ((i : Int) < j) from by omega, decide_true, go_sem, Nat.reduceEqDiff]
      rw [decide_eq_true hij, Bool.true_and] at hk
      rw [ldB22 hB rfl, ixn22 hX.ptr (by omega), ld3 (hX.cell i (by omega))]
      refine symbolOf_c ?_
      have hwi := hw _ (getD_mem (show i < ws.length by omega))
      rw [i64_of (by omega) (by omega)]
      simp only [go_sem, Nat.reduceEqDiff]
      by_cases he : ws.getD i 0 = -1 - x
      case neg =>
        simp only [show ¬ (-1 - ws.getD i 0 = x) from by omega, decide_false, go_sem, Nat.reduceEqDiff]
        simpa only [he, decide_false, Bool.false_and] using hk
      simp only [show (-1 - ws.getD i 0 = x) from by omega, decide_true, go_sem, Nat.reduceEqDiff]
      rw [decide_eq_true he, Bool.true_and] at hk
      rw [sll22 (by decide) (by omega), i64_of (by omega) (by omega)]
      rw [show (1 : Int).toNat = 1 from rfl, Nat.add_sub_cancel]
      refine ih (i := i + 1) hB hX hY' (by omega) hr' (by omega) hj ?_
      exact hk
    · simp only [hneg, decide_false, go_sem, Nat.reduceEqDiff]
      rw [fits_non hneg] at hk
      obtain ⟨x, rfl⟩ : ∃ x' : Nat, x = x' := ⟨x.toNat, by omega⟩
      rw [Int.toNat_natCast] at hk
      refine loop_to (j + 1) i (fun m f w' => i ≤ m ∧ m ≤ j + 1 ∧ f 10 = .int .i64 m ∧ (∀ m', i ≤ m' → m' < m → (T x i m' && fitsT T ws right m' j) = false) ∧ w' = w) ⟨Nat.le_refl _, by omega, rfl, fun m' h1 h2 => by omega, rfl⟩ ?_
      rintro m f w' N hag ⟨hm1, hm2, h10, hno, rfl⟩ hN
      have f0 : f 0 = ptrv b := hag 0 (by decide)
      have f1 : f 1 = .slice Y (right.length + 1) cy := hag 1 (by decide)
      have f2 : f 2 = .int .i64 i := hag 2 (by decide)
      have f3 : f 3 = .int .i64 j := hag 3 (by decide)
      have f9 : f 9 = .int .i64 (x : Nat) := hag 9 (by decide)
      simp only [f0, f1, f2, f3, f9, h10, go_sem, Nat.reduceEqDiff]
      by_cases hle : m ≤ j
      case neg =>
        simp only [show ¬ ((m : Int) ≤ j) from by omega, decide_false, go_sem, Nat.reduceEqDiff]
        rw [any_upto (fun m' h1 h2 => hno m' h1 (by omega))] at hk
        exact hk
      simp only [show ((m : Int) ≤ j) from by omega, decide_true, go_sem, Nat.reduceEqDiff]
      rw [ixa109 (by omega) (by omega), ixa108 (by omega) (by omega), ixa107 (by omega) (by omega)]
      simp only [Int.toNat_natCast, go_sem, Nat.reduceEqDiff]
      rw [ldB4 (off := 0 + 1 + x * 121 + i * 11 + m) hB (by rw [show 0 + 1 + x * 121 + i * 11 + m = x * 121 + i * 11 + m + 1 from by omega]; exact cellsT_at (by omega) (by omega) (by omega))]
      cases hs : T x i m
      · simp only [go_sem, Nat.reduceEqDiff]
        rw [i64_of (by omega) (by omega)]
        exact hN _ _ (by omega) ⟨by omega, by omega, rfl, fun m' h1 h2 => by
          by_cases e : m' = m
          · rw [e, hs, Bool.false_and]
          · exact hno m' h1 (by omega), rfl⟩
      · simp only [go_sem, Nat.reduceEqDiff]
        rw [sll22 (by decide) (by omega)]
        rw [show (1 : Int).toNat = 1 from rfl, Nat.add_sub_cancel]
        refine ih hB hX hY' (by omega) hr' (by omega) hj ?_
        cases hf : fitsT T ws right m j
        · simp only [go_sem, Nat.reduceEqDiff]
          rw [i64_of (by omega) (by omega)]
          exact hN _ _ (by omega) ⟨by omega, by omega, rfl, fun m' h1 h2 => by
            by_cases e : m' = m
            · rw [e, hf, Bool.and_false]
            · exact hno m' h1 (by omega), rfl⟩
        · simp only [go_sem, Nat.reduceEqDiff]
          rw [any_at hm1 hle (by rw [hs, hf]; rfl)] at hk
          exact hk
end Go.Proofs.Ytiohaeckagjebaa

/- Contracts: the reference's table of what derives what. -/
set_option linter.unusedVariables false
set_option linter.unusedSimpArgs false
set_option maxRecDepth 100000
namespace Go.Sh
open Go
theorem madeCells_one (v : Value) (n : Nat) : (madeCells #[v] (n * 1)).toList = List.replicate n v := by
  rw [Nat.mul_one]
  refine List.ext_getElem? fun i => ?_
  unfold madeCells
  by_cases h : i < n
  · simp [h, Nat.mod_one]
  · rw [List.getElem?_eq_none (by simp; omega), List.getElem?_eq_none (by simp; omega)]
def tabSt (rs : List RuleL) (ws : List Int) (s : Tab × Bool) : Prop := if s.2 = true then ∀ U, Span rs ws s.1 U → Span rs ws noTab U else Span rs ws noTab s.1
theorem tabSt_next {rs : List RuleL} {ws : List Int} {T : Tab} (h : tabSt rs ws (T, true)) : tabSt rs ws (passT rs ws (T, false)) := by
  unfold tabSt at h ⊢
  rw [if_pos rfl] at h
  cases hc : (passT rs ws (T, false)).2
  · rw [if_neg (by decide)]
    exact h _ (.done hc)
  · rw [if_pos rfl]
    exact fun U hU => h U (.more hc hU)
theorem good_right {g : Gram} (hg : goodG g = true) {q : Nat} (hq : q < g.rules.length) : ∀ x ∈ (rul g.rules q).2, x < g.nons ∧ -100 ≤ x := fun x hx => by
  obtain ⟨i, hi, rfl⟩ := List.getElem_of_mem hx
  have := good_symb hg hq hi
  rw [List.getD_eq_getElem?_getD, List.getElem?_eq_getElem hi] at this
  simp only [Option.getD_some] at this
  omega
theorem good_left {g : Gram} (hg : goodG g = true) {q : Nat} (hq : q < g.rules.length) : 0 ≤ (rul g.rules q).1 ∧ (rul g.rules q).1 ≤ g.nons - 1 := by
  simp only [goodG, Bool.and_eq_true, List.all_eq_true] at hg
  have h1 := hg.2 q (List.mem_range.2 hq)
  simp only [goodR, Bool.and_eq_true, inB, decide_eq_true_eq] at h1
  exact h1.1.1.1
theorem good_left6 {g : Gram} (hg : goodG g = true) : ∀ r ∈ g.rules, r.1.toNat < 6 := fun r hr => by
  obtain ⟨i, hi, rfl⟩ := List.getElem_of_mem hr
  have := good_left hg hi
  have := good_nons hg
  rw [rul_eq hi] at *
  omega
end Go.Sh
namespace Go.Proofs.Ytiohaeckagjebaa
open Go Go.Sh Go.RowKit
end Go.Proofs.Ytiohaeckagjebaa

/- Contract: the program's table of what derives what. -/
set_option linter.unusedVariables false
set_option linter.unusedSimpArgs false
set_option maxRecDepth 100000
namespace Go.Sh
open Go
theorem map_const_range (n : Nat) (v : Value) : (List.range n).map (fun _ => v) = List.replicate n v := by
  rw [List.map_const', List.length_range]
theorem cellsT_none : cellsT noTab = List.replicate 726 (.bool false) := map_const_range 726 (.bool false)
theorem fill_one {place : Nat → Option (Nat × Nat)} {cells : Array Value} {v : Value} (hp : place 0 = some (0, 1)) (hv : v.cells = #[v]) (h0 : 0 < cells.size) : Instr.fill place cells [(0, v)] = some (cells.setIfInBounds 0 v) := by
  simp only [Instr.fill, hp, hv]
  have e : (decide ((#[v] : Array Value).size ≠ 1) || decide (0 + (#[v] : Array Value).size > cells.size)) = false := by
    rw [Bool.or_eq_false_iff]
    exact ⟨by simp, decide_eq_false (by show ¬ (0 + 1 > cells.size); omega)⟩
  rw [if_neg (by rw [e]; exact Bool.false_ne_true)]
  simp
theorem set_head {a v : Value} {R : Array Value} : (#[a] ++ R).setIfInBounds 0 v = #[v] ++ R := by
  apply Array.ext'
  simp
theorem agg_pos (v : Value) (R : Array Value) : 0 < (Value.agg (#[v] ++ R)).cells.size := by
  show 0 < (#[v] ++ R).size
  simp
  omega
theorem agg_list (v : Value) (R : Array Value) : (Value.agg (#[v] ++ R)).cells.toList = v :: R.toList := by
  show (#[v] ++ R).toList = _
  simp
theorem rep_list (n : Nat) (v : Value) : (Array.replicate n v).toList = List.replicate n v := Array.toList_replicate
end Go.Sh
namespace Go.Proofs.Ytiohaeckagjebaa
open Go Go.Sh Go.RowKit
theorem inf111' : Inf Try.prog 111 (.agg (#[.slice none 0 0] ++ Array.replicate 726 (.bool false))) 727 752 := inf_of (by kernel_rfl)
theorem sz109' : szOf Try.prog 109 726 := szOf_of (by kernel_rfl)
theorem bd111 (X : Option Addr) (n c : Nat) : ∃ z : Value, (∀ (S : WS) (k : Value → Prop), Rd Try.prog S (sBuild 111 [(0, .slice X n c)]) k = k z) ∧ z.cells.toList = .slice X n c :: cellsT noTab := by
  refine ⟨.agg (#[.slice X n c] ++ Array.replicate 726 (.bool false)), fun S k => ?_, ?_⟩
  · refine rd_buildN (ps := [(0, 1), (1, 726)]) Try.underlying111 inf111' ⟨⟨rfl, sz22⟩, ⟨rfl, sz109'⟩, trivial⟩ ((fill_one rfl rfl ?_).trans (congrArg some set_head))
    exact agg_pos _ _
  · rw [agg_list, cellsT_none]
    exact congrArg _ (rep_list _ _)

theorem spans_c {F : Nat → Prop} {w : World} {v : Value} {gm : Gram} {X : Option Addr} {cx n0 : Nat} {ws : List Int} (hv : GramV F w v gm) (hg : goodG gm = true) (hX : Ints w X ws) (hn : n0 = ws.length) (hl : ws.length ≤ 10) (hw : ∀ t ∈ ws, 0 ≤ t ∧ t ≤ 100) {k : Value → World → Prop}
    (hk : ∀ w' b, Apt w w' [bx b (.slice X ws.length cx :: cellsT (spanT gm.rules ws)) 111] → k (ptrv b) w') :
    CallK Try.prog 104 [v, .slice X n0 cx] k w := by
  subst hn
  obtain ⟨Y, cy, rfl, hc, hy⟩ := hv
  have hn6 := good_nons hg
  have hr16 := good_len hg
  have hleft6 := good_left6 hg
  refine enter104 ?_
  unfold S104
  have H := Apt.nil w
  refine boxH H fun b1 w1 H => ?_
  obtain ⟨z, hz1, hz2⟩ := bd111 X ws.length cx
  refine rdi (hz1 _ _) ?_
  refine boxH H fun b2 w2 H => ?_
  rw [hz2] at H
  simp only [List.nil_append, List.cons_append] at H
  refine loop_ghost (fun (s : Tab × Bool) f w' => tabSt gm.rules ws s ∧ f 6 = .bool s.2 ∧ Apt w w' [bx b1 [.int .i64 gm.nons, .int .i64 gm.toks, .slice Y gm.rules.length cy] 37, bx b2 (.slice X ws.length cx :: cellsT s.1) 111]) (fun s => if s.2 = true then openT s.1 + 1 else 0) (noTab, true)
    ⟨by unfold tabSt; rw [if_pos rfl]; exact fun U h => h, rfl, H⟩ ?_
  rintro ⟨T, more⟩ f7 w6 N2 hag2 ⟨hst, h8, H⟩ hN2
  have f2' : f7 2 = ptrv b1 := hag2 2 (by decide)
  have f5' : f7 5 = ptrv b2 := hag2 5 (by decide)
  have f1' : f7 1 = .slice X ws.length cx := hag2 1 (by decide)
  simp only [h8, f2', go_sem, Nat.reduceEqDiff]
  cases more
  · simp only [go_sem, Nat.reduceEqDiff]
    rw [f5']
    have hsp : T = spanT gm.rules ws := by
      unfold tabSt at hst
      rw [if_neg Bool.false_ne_true] at hst
      exact hst.eq
    rw [← hsp] at hk
    exact hk _ b2 (H.erase 0)
  simp only [go_sem, Nat.reduceEqDiff]
  rw [ldB35 (H.box 0 rfl) rfl]
  simp only [go_sem, Nat.reduceEqDiff]
  refine loop_to gm.rules.length 0 (fun q f w' => q ≤ gm.rules.length ∧ f 18 = .int .i64 q ∧ f 6 = .bool ((gm.rules.take q).foldl (ruleT ws) (T, false)).2 ∧ Apt w w' [bx b1 [.int .i64 gm.nons, .int .i64 gm.toks, .slice Y gm.rules.length cy] 37, bx b2 (.slice X ws.length cx :: cellsT ((gm.rules.take q).foldl (ruleT ws) (T, false)).1) 111])
    ⟨Nat.zero_le _, rfl, rfl, H⟩ ?_
  rintro q g1 w7 N3 hag3 ⟨hq, h36, h8', H⟩ hN3
  have e34 : g1 16 = .slice Y gm.rules.length cy := hag3 16 (by decide)
  have e35 : g1 17 = .int .i64 gm.rules.length := hag3 17 (by decide)
  have e5 : g1 5 = ptrv b2 := (hag3 5 (by decide)).trans f5'
  have e1 : g1 1 = .slice X ws.length cx := (hag3 1 (by decide)).trans f1'
  simp only [e34, e35, e1, h36, go_sem, Nat.reduceEqDiff]
  by_cases hlq : q < gm.rules.length
  case neg =>
    simp only [show ¬ ((q : Int) < gm.rules.length) from by omega, decide_false, go_sem, Nat.reduceEqDiff]
    rw [List.take_of_length_le (by omega)] at h8' H
    have hinc := passT_inc hleft6 hl (T, false)
    refine hN2 (passT gm.rules ws (T, false)) _ _ ⟨tabSt_next hst, h8', H⟩ ?_
    rw [if_pos rfl]
    rcases hinc with he | ⟨h1, h2⟩
    · rw [he, if_neg Bool.false_ne_true]
      omega
    · rw [if_pos h1]
      dsimp only at h2 ⊢
      omega
  simp only [show ((q : Int) < gm.rules.length) from by omega, decide_true, go_sem, Nat.reduceEqDiff]
  obtain ⟨Z, cz, t1, t2, t3, t4⟩ := hy.row q hlq
  have hleft := good_left hg hlq
  have hright := good_right hg hlq
  have hR4 := good_rule hg q hlq
  generalize hr : rul gm.rules q = r at *
  obtain ⟨xl, hxl⟩ : ∃ x : Nat, r.1 = x := ⟨r.1.toNat, by omega⟩
  rw [hxl] at t1 hleft
  rw [ixn35 hy.ptr hlq, ld_agg agg77 sz77 (cs := [.int .i64 xl, .slice Z r.2.length cz]) rfl (fun j hj => by
    match j, hj with
    | 0, _ => rw [add_add, Nat.add_zero]; exact H.gr.cell t1
    | 1, _ => rw [add_add]; exact H.gr.cell t2)]
  refine allocH H inf77 fun b3 w8 H => ?_
  refine storeH H 2 rfl sz77 rfl rfl rfl fun w9 H => ?_
  simp only [List.nil_append, List.cons_append, List.set_cons_zero, List.set_cons_succ] at H
  generalize hN : ws.length + 1 = n at *
  have hNi : ((ws.length : Int) + 1) = (n : Int) := by omega
  rw [hNi, i64_of (n := (n : Int)) (by omega) (by omega)]
  generalize hs0 : (gm.rules.take q).foldl (ruleT ws) (T, false) = s0 at *
  refine loop_to n 0 (fun a f w' => a ≤ n ∧ f 25 = .int .i64 a ∧ f 6 = .bool ((List.range a).foldl (rowT ws r) s0).2 ∧ Apt w w' [bx b1 [.int .i64 gm.nons, .int .i64 gm.toks, .slice Y gm.rules.length cy] 37, bx b2 (.slice X ws.length cx :: cellsT ((List.range a).foldl (rowT ws r) s0).1) 111, bx b3 [.int .i64 xl, .slice Z r.2.length cz] 77])
    ⟨Nat.zero_le _, rfl, h8', H⟩ ?_
  rintro a g2 w10 N4 hag4 ⟨ha, h11, h8a, H⟩ hN4
  have k24 : g2 24 = .int .i64 n := hag4 24 (by decide)
  have k5 : g2 5 = ptrv b2 := (hag4 5 (by decide)).trans e5
  have k1 : g2 1 = .slice X ws.length cx := (hag4 1 (by decide)).trans e1
  have k8 : g2 8 = ptrv b3 := hag4 8 (by decide)
  have k18 : g2 18 = .int .i64 q := (hag4 18 (by decide)).trans h36
  simp only [k24, h11, k18, go_sem, Nat.reduceEqDiff]
  by_cases hla : a < n
  case neg =>
    simp only [show ¬ ((a : Int) < n) from by omega, decide_false, go_sem, Nat.reduceEqDiff]
    rw [i64_of (by omega) (by omega)]
    have han : a = n := by omega
    rw [han] at h8a H
    have hstep : (gm.rules.take (q + 1)).foldl (ruleT ws) (T, false) = (List.range n).foldl (rowT ws r) s0 := by
      rw [foldl_take _ _ _ hlq, hs0, hr, ← hN]
      rfl
    refine hN3 _ _ hlq ⟨hlq, rfl, ?_, ?_⟩
    · rw [hstep]
      exact h8a
    · rw [hstep]
      exact H.take 2
  simp only [show ((a : Int) < n) from by omega, decide_true, go_sem, Nat.reduceEqDiff]
  generalize hs1 : (List.range a).foldl (rowT ws r) s0 = s1 at *
  refine loop_to n a (fun b f w' => a ≤ b ∧ b ≤ n ∧ f 10 = .int .i64 b ∧ f 6 = .bool ((List.range' a (b - a)).foldl (Sh.stepT ws r a) s1).2 ∧ Apt w w' [bx b1 [.int .i64 gm.nons, .int .i64 gm.toks, .slice Y gm.rules.length cy] 37, bx b2 (.slice X ws.length cx :: cellsT ((List.range' a (b - a)).foldl (Sh.stepT ws r a) s1).1) 111, bx b3 [.int .i64 xl, .slice Z r.2.length cz] 77])
    ⟨Nat.le_refl _, by omega, rfl, by rw [Nat.sub_self]; exact h8a, by rw [Nat.sub_self]; exact H⟩ ?_
  rintro b g3 w11 N5 hag5 ⟨hb1, hb2, h12, h8b, H⟩ hN5
  have m5 : g3 5 = ptrv b2 := (hag5 5 (by decide)).trans k5
  have m1 : g3 1 = .slice X ws.length cx := (hag5 1 (by decide)).trans k1
  have m8 : g3 8 = ptrv b3 := (hag5 8 (by decide)).trans k8
  have m9 : g3 9 = .int .i64 a := hag5 9 (by decide)
  have m25 : g3 25 = .int .i64 a := (hag5 25 (by decide)).trans h11
  simp only [m5, m1, m8, m9, m25, h12, go_sem, Nat.reduceEqDiff]
  by_cases hlb : b < n
  case neg =>
    simp only [show ¬ ((b : Int) ≤ ws.length) from by omega, decide_false, go_sem, Nat.reduceEqDiff]
    rw [i64_of (by omega) (by omega)]
    have hbn : b = n := by omega
    rw [hbn] at h8b H
    have hstep : (List.range (a + 1)).foldl (rowT ws r) s0 = (List.range' a (n - a)).foldl (Sh.stepT ws r a) s1 := by
      rw [foldl_range, hs1, ← hN]
      rfl
    refine hN4 _ _ hla ⟨hla, rfl, ?_, ?_⟩
    · rw [hstep]
      exact h8b
    · rw [hstep]
      exact H
  simp only [show ((b : Int) ≤ ws.length) from by omega, decide_true, go_sem, Nat.reduceEqDiff]
  have hstep : (List.range' a (b + 1 - a)).foldl (Sh.stepT ws r a) s1 = Sh.stepT ws r a ((List.range' a (b - a)).foldl (Sh.stepT ws r a) s1) b := by
    rw [show b + 1 - a = b - a + 1 from by omega, foldl_range', show a + (b - a) = b from by omega]
  generalize hs2 : (List.range' a (b - a)).foldl (Sh.stepT ws r a) s1 = s2 at *
  have hxn : xl < 6 := by omega
  have hstepT : Sh.stepT ws r a s2 b = if (!s2.1 xl a b && fitsT s2.1 ws r.2 a b) = true then (s2.1.put xl a b, true) else s2 := by
    unfold Sh.stepT
    rw [hxl, Int.toNat_natCast]
  have H := H.drew
  have stay : Sh.stepT ws r a s2 b = s2 → ∀ f', f' 10 = .int .i64 (b + 1 : Nat) → f' 6 = .bool s2.2 → N5 f' w11.drew := fun he f' q12 q8 => hN5 f' w11.drew hlb ⟨by omega, hlb, q12, by rw [hstep, he]; exact q8, by rw [hstep, he]; exact H⟩
  rw [ldB3 (H.box 2 rfl) rfl]
  rw [ixa109 (by omega) (by omega), ixa108 (by omega) (by omega), ixa107 (by omega) (by omega)]
  simp only [Int.toNat_natCast, go_sem, Nat.reduceEqDiff]
  have hoff : 0 + 1 + xl * 121 + a * 11 + b = xl * 121 + a * 11 + b + 1 := by omega
  rw [hoff, ldB4 (H.box 1 rfl) (cellsT_at hxn (by omega) (by omega))]
  simp only [go_sem, Nat.reduceEqDiff]
  cases hc0 : s2.1 xl a b
  case true =>
    simp only [Bool.not_true, go_sem, Nat.reduceEqDiff]
    rw [i64_of (n := (b : Int) + 1) (by omega) (by omega)]
    exact stay (by rw [hstepT, hc0]; rfl) _ rfl h8b
  simp only [Bool.not_false, go_sem, Nat.reduceEqDiff]
  rw [ldB22 (H.box 2 rfl) rfl]
  refine sequence_c hl hw r.2 (H.box 1 rfl) (hX.gr H.gr) (t4.is.gr H.gr) t3 (fun x hx => by have := hright x hx; omega) hb1 (by omega) ?_
  cases hft : fitsT s2.1 ws r.2 a b
  · simp only [go_sem, Nat.reduceEqDiff]
    rw [i64_of (n := (b : Int) + 1) (by omega) (by omega)]
    exact stay (by rw [hstepT, hc0, hft]; rfl) _ rfl h8b
  simp only [go_sem, Nat.reduceEqDiff]
  have H := H.drew
  rw [ldB3 (H.box 2 rfl) rfl]
  rw [ixa109 (by omega) (by omega), ixa108 (by omega) (by omega), ixa107 (by omega) (by omega)]
  simp only [Int.toNat_natCast, go_sem, Nat.reduceEqDiff]
  rw [hoff]
  refine storeH H 1 rfl sz4 rfl rfl (by rw [Nat.ble_eq, List.length_cons, cellsT_length]; omega) fun w12 H => ?_
  have hset : List.take (xl * 121 + a * 11 + b + 1) (.slice X ws.length cx :: cellsT s2.1) ++ (Value.bool true).cells.toList ++ List.drop (xl * 121 + a * 11 + b + 1 + 1) (.slice X ws.length cx :: cellsT s2.1) = .slice X ws.length cx :: cellsT (s2.1.put xl a b) := by
    rw [show (Value.bool true).cells.toList = [.bool true] from rfl, take_put_drop (by rw [List.length_cons, cellsT_length]; omega)]
    exact cellsT_put hxn (by omega) (by omega)
  rw [hset] at H
  rw [i64_of (n := (b : Int) + 1) (by omega) (by omega)]
  refine hN5 _ _ hlb ⟨by omega, hlb, rfl, ?_, ?_⟩
  · rw [hstep, hstepT, hc0, hft]
    rfl
  · rw [hstep, hstepT, hc0, hft]
    exact H
end Go.Proofs.Ytiohaeckagjebaa

/- Contracts of what PumpWord reaches, third part. -/
set_option linter.unusedVariables false
set_option linter.unusedSimpArgs false
set_option maxRecDepth 100000
namespace Go.Sh
open Go
end Go.Sh
namespace Go.Proofs.Ytiohaeckagjebaa
open Go Go.Sh Go.RowKit

end Go.Proofs.Ytiohaeckagjebaa

/- The law of PumpWord, over its contracts. -/
set_option linter.unusedVariables false
set_option linter.unusedSimpArgs false
set_option maxRecDepth 100000
namespace Go.Proofs.Ytiohaeckagjebaa
open Go Go.Sh Go.RowKit

end Go.Proofs.Ytiohaeckagjebaa

/- Contracts: words of tokens, by the reference and by the program; what can be pumped at given places. -/
set_option linter.unusedVariables false
set_option linter.unusedSimpArgs false
set_option maxRecDepth 100000
namespace Go.Sh
open Go
def wordB (toks : Int) (ws : List Int) : Bool := decide (ws.length ≤ 10) && allB ws 0 (toks - 1)
theorem wordB_len {toks : Int} {ws : List Int} (h : wordB toks ws = true) : ws.length ≤ 10 := by
  simp only [wordB, Bool.and_eq_true, decide_eq_true_eq] at h
  exact h.1
theorem wordB_tok {toks : Int} {ws : List Int} (h : wordB toks ws = true) (ht : toks ≤ 4) : ∀ t ∈ ws, 0 ≤ t ∧ t ≤ 100 := fun t hm => by
  simp only [wordB, Bool.and_eq_true, decide_eq_true_eq, allB, List.all_eq_true, inB] at h
  have := h.2 t hm
  omega
end Go.Sh
namespace Go.Proofs.Ytiohaeckagjebaa
open Go Go.Sh Go.RowKit

theorem l1Word_c {F : Nat → Prop} {w : World} {v : Value} {gm : Gram} {X : Option Addr} {n cx : Nat} {ws : List Int} (hv : GramV F w v gm) (hg : goodG gm = true) (hX : Ints w X ws) (hn : n = ws.length) {k : Value → World → Prop} (hk : ∀ w', Gr w w' → k (.bool (wordB gm.toks ws)) w') :
    CallK Try.prog 112 [v, .slice X n cx] k w := by
  subst hn
  obtain ⟨Y, cy, rfl, hc, hy⟩ := hv
  have ht := good_toks hg
  refine enter112 ?_
  unfold S112
  have H := Apt.nil w
  refine boxH H fun b1 w1 H => ?_
  simp only [go_sem, Nat.reduceEqDiff]
  unfold wordB at hk
  by_cases hl : ws.length ≤ 10
  case neg =>
    simp only [show ¬ ((ws.length : Int) ≤ 10) from by omega, decide_false, go_sem, Nat.reduceEqDiff]
    simpa only [hl, decide_false, Bool.false_and] using hk _ H.gr
  simp only [show ((ws.length : Int) ≤ 10) from by omega, decide_true, go_sem, Nat.reduceEqDiff]
  rw [ldB3 (H.box 0 rfl) rfl]
  simp only [go_sem, Nat.reduceEqDiff]
  rw [i64_of (by omega) (by omega)]
  refine l1All_c (hX.gr H.gr) fun w2 g2 => ?_
  have H := H.step g2
  simpa only [hl, decide_true, Bool.true_and] using hk _ H.gr
theorem goodWord_c {F : Nat → Prop} {w : World} {v : Value} {gm : Gram} {X : Option Addr} {n cx : Nat} {ws : List Int} (hv : GramV F w v gm) (hX : Ints w X ws) (hn : n = ws.length) {k : Value → World → Prop} (hk : ∀ w', Gr w w' → k (.bool (goodG gm && wordB gm.toks ws)) w') :
    CallK Try.prog 101 [v, .slice X n cx] k w := by
  subst hn
  obtain ⟨Y, cy, rfl, hc, hy⟩ := hv
  refine enter101 ?_
  unfold S101
  have H := Apt.nil w
  refine boxH H fun b1 w1 H => ?_
  rw [ldB_agg agg37 sz37 rfl (H.box 0 rfl)]
  refine goodGrammar_c (gm := gm) ⟨Y, cy, rfl, hc, hy.gr H.gr⟩ fun w2 g2 => ?_
  have H := H.step g2
  cases hg : goodG gm
  · simp only [go_sem, Nat.reduceEqDiff]
    simpa only [hg, Bool.false_and] using hk _ H.gr
  simp only [go_sem, Nat.reduceEqDiff]
  rw [ldB_agg agg37 sz37 rfl (H.box 0 rfl)]
  refine l1Word_c (gm := gm) ⟨Y, cy, rfl, hc, hy.gr H.gr⟩ hg (hX.gr H.gr) rfl fun w3 g3 => ?_
  have H := H.step g3
  simpa only [hg, Bool.true_and] using hk _ H.gr
theorem isWord1_c {x toks : Int} {w : World} {b t : Nat} (hB : Box w b [.int .i64 toks] t) (h1 : 1 ≤ toks) (h4 : toks ≤ 4) {k : Value → World → Prop} (hk : k (.bool (!inB x 0 (toks - 1))) w) : CallK Try.prog 146 [.int .i64 x, ptrv b] k w := by
  refine enter146 ?_
  unfold S146
  rw [ldB3 hB rfl]
  simp only [go_sem, Nat.reduceEqDiff]
  rw [i64_of (by omega) (by omega)]
  refine in_c ?_
  simp only [go_sem, Nat.reduceEqDiff]
  exact hk
theorem isWord_c {w : World} {X : Option Addr} {n cx : Nat} {toks : Int} {ws : List Int} (hX : Ints w X ws) (hn : n = ws.length) (h1 : 1 ≤ toks) (h4 : toks ≤ 4) {k : Value → World → Prop} (hk : ∀ w', Gr w w' → k (.bool (wordB toks ws)) w') :
    CallK Try.prog 99 [.int .i64 toks, .slice X n cx] k w := by
  subst hn
  refine enter99 ?_
  unfold S99
  have H := Apt.nil w
  refine boxH H fun b1 w1 H => ?_
  simp only [go_sem, Nat.reduceEqDiff]
  unfold wordB at hk
  by_cases hl : ws.length ≤ 10
  case neg =>
    simp only [show ¬ ((ws.length : Int) ≤ 10) from by omega, decide_false, go_sem, Nat.reduceEqDiff]
    simpa only [hl, decide_false, Bool.false_and] using hk _ H.gr
  simp only [show ((ws.length : Int) ≤ 10) from by omega, decide_true, go_sem, Nat.reduceEqDiff]
  have hb : Box w1 b1 [.int .i64 toks] 3 := H.box 0 rfl
  have hp : Pred 4 (.func (.func 146) [].toArray [ptrv b1].toArray) (fun x => !inB x 0 (toks - 1)) w1 := fun w3 g3 x k hk =>
    callVc (isWord1_c (hb.gr g3) h1 h4 (hk w3 (Gr.refl w3)))
  refine containsFunc_c (hX.gr H.gr) hp fun w3 g3 => ?_
  have H := H.step g3
  simp only [go_sem, Nat.reduceEqDiff]
  have := hk _ H.gr
  simp only [hl, decide_true, Bool.true_and] at this
  rwa [show allB ws 0 (toks - 1) = !ws.any (fun x => !inB x 0 (toks - 1)) from by simp [allB, List.not_any_eq_all_not]] at this
end Go.Proofs.Ytiohaeckagjebaa

/- Contracts: PumpOf and PathIn of the program. -/
set_option linter.unusedVariables false
set_option linter.unusedSimpArgs false
set_option maxRecDepth 100000
namespace Go.Sh
open Go
end Go.Sh
namespace Go.Proofs.Ytiohaeckagjebaa
open Go Go.Sh Go.RowKit

end Go.Proofs.Ytiohaeckagjebaa

/- Bg: bodies of functions as terms of the frame calculus, printed by shgen.py of this repository. -/
set_option linter.unusedVariables false
set_option maxRecDepth 100000
namespace Go.Proofs.Ytiohaeckagjebaa
open Go Go.Sh

/-! loop.example/g00758/laws.FnExactCountByLong -/
/-! loop.example/g00758/laws.FnExactSameUpTo -/
/-! loop.example/g00758/laws.FnExactNearWord -/
/-! loop.example/g00758/laws.FnExactFirstUnlike -/
/-! loop.example/g00758/spec.CountByLong -/
/-! loop.example/g00758/impl.CountByLong -/
/-! loop.example/g00758/spec.SameUpTo -/
/-! loop.example/g00758/impl.SameUpTo -/
/-! loop.example/g00758/spec.NearWord -/
/-! loop.example/g00758/impl.NearWord -/
/-! loop.example/g00758/spec.FirstUnlike -/
/-! loop.example/g00758/impl.FirstUnlike -/
/-! loop.example/g00758/spec.ShortWords -/
/-! loop.example/g00758/impl.ShortWords -/
/-! loop.example/g00758/spec.l20Unlike -/
/-! slices.EqualFunc[[][]int,[][]int,[]int,[]int] -/
/-! loop.example/g00758/impl.SameUpTo$1 -/
/-! loop.example/g00758/spec.l17Apart -/
/-! loop.example/g00758/impl.apart -/
/-! loop.example/g00758/impl.compareWords -/
/-! loop.example/g00758/impl.wordsOf -/
/-! loop.example/g00758/spec.l20Less -/
/-! loop.example/g00758/spec.l1Least -/
def pl161 : Plans := fun _ => ⟨false, [], .nil⟩
def S161 (v0 v1 : Value) (k : Value → World → Prop) (w : World) : Prop :=
 Rd Try.prog (WS.at w) (sBin .lss 3 false v0 v1) fun t1 =>
 CondK t1
  (k v0 w)
  (k v1 w)
theorem body161 : Try.f161.body = some (bodyOf Try.f161) := by kernel_rfl
theorem same161 (v0 v1 : Value) (k : Value → World → Prop) (w : World) : wpF Try.prog pl161 (bodyOf Try.f161) (bodyQ Try.prog Try.f161.results.toList k) (initF [v0, v1]) w = S161 v0 v1 k w := by kernel_rfl
theorem enter161 {v0 v1 : Value} {k : Value → World → Prop} {w : World} (h : S161 v0 v1 k w) : CallK Try.prog 161 [v0, v1] k w :=
  call_of_wpF (pl := pl161) mixed Try.func161 body161 (by kernel_rfl) (of_decide_eq_true (by kernel_rfl)) (by kernel_rfl) (by kernel_rfl) (same161 v0 v1 k w ▸ h)

/-! cmp.Or[int] -/
/-! cmp.Compare[int] -/
def pl163 : Plans := fun _ => ⟨false, [], .nil⟩
def S163 (v0 v1 : Value) (k : Value → World → Prop) (w : World) : Prop :=
 CallK Try.prog 187 [v0] (fun t1 w2 =>
 CallK Try.prog 187 [v1] (fun t3 w4 =>
 CondK t1
  (CondK t3
   (k (.int .i64 0) w4)
   (k (.int .i64 (-1)) w4))
  (CondK t3
   (k (.int .i64 1) w4)
   (Rd Try.prog (WS.at w4) (sBin .lss 3 false v0 v1) fun t5 =>
   CondK t5
    (k (.int .i64 (-1)) w4)
    (Rd Try.prog (WS.at w4) (sBin .gtr 3 false v0 v1) fun t6 =>
    CondK t6
     (k (.int .i64 1) w4)
     (k (.int .i64 0) w4))))) w2) w
theorem body163 : Try.f163.body = some (bodyOf Try.f163) := by kernel_rfl
theorem same163 (v0 v1 : Value) (k : Value → World → Prop) (w : World) : wpF Try.prog pl163 (bodyOf Try.f163) (bodyQ Try.prog Try.f163.results.toList k) (initF [v0, v1]) w = S163 v0 v1 k w := by kernel_rfl
theorem enter163 {v0 v1 : Value} {k : Value → World → Prop} {w : World} (h : S163 v0 v1 k w) : CallK Try.prog 163 [v0, v1] k w :=
  call_of_wpF (pl := pl163) mixed Try.func163 body163 (by kernel_rfl) (of_decide_eq_true (by kernel_rfl)) (by kernel_rfl) (by kernel_rfl) (same163 v0 v1 k w ▸ h)

/-! slices.Compare[[]int,int] -/
def pl164 : Plans := fun _ => ⟨false, [], .nil⟩
def S164 (v0 v1 : Value) (k : Value → World → Prop) (w : World) : Prop :=
 Rd Try.prog (WS.at w) (sBuiltin .len #[22] 3 [false] [v0]) fun t1 =>
 LoopF [12, 13, 14, 15, 5, 6, 16, 17, 18, 19, 4, 20, 21, 22, 23, 7, 24, 25, 26, 8, 27, 28, 29, 4, 30, 11] (fun Q2 f3 w4 =>
  Rd Try.prog (WS.at w4) (sBin .lss 3 false (f3 11) (f3 10)) fun t5 =>
  CondK t5
   (Rd Try.prog (WS.at w4) (sIndexAddr 22 (f3 9) (f3 11)) fun t6 =>
   Rd Try.prog (WS.at w4) (sLoad 3 t6) fun t7 =>
   Rd Try.prog (WS.at w4) (sBuiltin .len #[22] 3 [false] [(f3 1)]) fun t8 =>
   Rd Try.prog (WS.at w4) (sBin .geq 3 false (f3 11) t8) fun t9 =>
   CondK t9
    (Q2 .ret (F.upd (F.upd (F.upd (F.upd (F.upd (F.upd (F.upd (F.upd (F.upd (F.upd (F.upd f3 12 t5) 13 (f3 11)) 14 t6) 15 t7) 5 (f3 11)) 6 t7) 16 (f3 11)) 17 (f3 1)) 18 t8) 19 t9) 4 (.int .i64 1)) w4)
    (Rd Try.prog (WS.at w4) (sIndexAddr 22 (f3 1) (f3 11)) fun t10 =>
    Rd Try.prog (WS.at w4) (sLoad 3 t10) fun t11 =>
    CallK Try.prog 163 [t7, t11] (fun t12 w13 =>
    Rd Try.prog (WS.at w13) (sBin .neq 3 true t12 (.int .i64 0)) fun t14 =>
    CondK t14
     (Q2 .ret (F.upd (F.upd (F.upd (F.upd (F.upd (F.upd (F.upd (F.upd (F.upd (F.upd (F.upd (F.upd (F.upd (F.upd (F.upd (F.upd (F.upd (F.upd (F.upd (F.upd (F.upd (F.upd (F.upd f3 12 t5) 13 (f3 11)) 14 t6) 15 t7) 5 (f3 11)) 6 t7) 16 (f3 11)) 17 (f3 1)) 18 t8) 19 t9) 20 (f3 1)) 21 (f3 11)) 22 t10) 23 t11) 7 t11) 24 t7) 25 t11) 26 t12) 8 t12) 27 t12) 28 t14) 29 t12) 4 t12) w13)
     (Rd Try.prog (WS.at w13) (sBin .add 3 true (f3 11) (.int .i64 1)) fun t15 =>
     Q2 .normal (F.upd (F.upd (F.upd (F.upd (F.upd (F.upd (F.upd (F.upd (F.upd (F.upd (F.upd (F.upd (F.upd (F.upd (F.upd (F.upd (F.upd (F.upd (F.upd (F.upd (F.upd (F.upd (F.upd f3 12 t5) 13 (f3 11)) 14 t6) 15 t7) 5 (f3 11)) 6 t7) 16 (f3 11)) 17 (f3 1)) 18 t8) 19 t9) 20 (f3 1)) 21 (f3 11)) 22 t10) 23 t11) 7 t11) 24 t7) 25 t11) 26 t12) 8 t12) 27 t12) 28 t14) 30 t15) 11 t15) w13)) w4))
   (Q2 (.exit 0) (F.upd f3 12 t5) w4))
  (blockQ 0 (seqQ (fun f16 w17 =>
 Rd Try.prog (WS.at w17) (sBuiltin .len #[22] 3 [false] [(f16 0)]) fun t18 =>
 Rd Try.prog (WS.at w17) (sBuiltin .len #[22] 3 [false] [(f16 1)]) fun t19 =>
 Rd Try.prog (WS.at w17) (sBin .lss 3 false t18 t19) fun t20 =>
 CondK t20
  (k (.int .i64 (-1)) w17)
  (k (.int .i64 0) w17)) (bodyQ Try.prog [.tmp 4] k)))
  (F.upd (F.upd (F.upd (F.upd (initF [v0, v1]) 4 (.int .i64 0)) 9 v0) 10 t1) 11 (.int .i64 0)) w
theorem body164 : Try.f164.body = some (bodyOf Try.f164) := by kernel_rfl
theorem same164 (v0 v1 : Value) (k : Value → World → Prop) (w : World) : wpF Try.prog pl164 (bodyOf Try.f164) (bodyQ Try.prog Try.f164.results.toList k) (initF [v0, v1]) w = S164 v0 v1 k w := by kernel_rfl
theorem enter164 {v0 v1 : Value} {k : Value → World → Prop} {w : World} (h : S164 v0 v1 k w) : CallK Try.prog 164 [v0, v1] k w :=
  call_of_wpF (pl := pl164) mixed Try.func164 body164 (by kernel_rfl) (of_decide_eq_true (by kernel_rfl)) (by kernel_rfl) (by kernel_rfl) (same164 v0 v1 k w ▸ h)

/-! loop.example/g00758/spec.l5Less -/
/-! cmp.isNaN[int] -/
def pl187 : Plans := fun _ => ⟨false, [], .nil⟩
def S187 (v0 : Value) (k : Value → World → Prop) (w : World) : Prop :=
 Rd Try.prog (WS.at w) (sBin .neq 3 false v0 v0) fun t1 =>
 k t1 w
theorem body187 : Try.f187.body = some (bodyOf Try.f187) := by kernel_rfl
theorem same187 (v0 : Value) (k : Value → World → Prop) (w : World) : wpF Try.prog pl187 (bodyOf Try.f187) (bodyQ Try.prog Try.f187.results.toList k) (initF [v0]) w = S187 v0 k w := by kernel_rfl
theorem enter187 {v0 : Value} {k : Value → World → Prop} {w : World} (h : S187 v0 k w) : CallK Try.prog 187 [v0] k w :=
  call_of_wpF (pl := pl187) mixed Try.func187 body187 (by kernel_rfl) (of_decide_eq_true (by kernel_rfl)) (by kernel_rfl) (by kernel_rfl) (same187 v0 k w ▸ h)

end Go.Proofs.Ytiohaeckagjebaa

/- Contract: all short words of a language, by the reference. -/
set_option linter.unusedVariables false
set_option linter.unusedSimpArgs false
set_option maxRecDepth 100000
namespace Go.Sh
open Go
theorem rgt_mem {ls : List (List Int)} {i : Nat} (h : i < ls.length) : rgt ls i ∈ ls := by
  rw [rgt_eq h]
  exact List.getElem_mem h
end Go.Sh
namespace Go.Proofs.Ytiohaeckagjebaa
open Go Go.Sh Go.RowKit

end Go.Proofs.Ytiohaeckagjebaa

/- Contracts: words of so many tokens, and all short words of a language, by the program. -/
set_option linter.unusedVariables false
set_option linter.unusedSimpArgs false
set_option maxRecDepth 100000
namespace Go.Sh
open Go
/-- Slices of numbers of which those from place n on are the call's own still. -/
structure OwnSF (e1 e2 : Nat) (w : World) (B : Nat) (X : Option Addr) (c : Nat) (ls : List (List Int)) (ps : Nat → Option Addr × Nat) (n : Nat) : Prop where
  row : ∃ cells, Row w B e1 1 X ls.length c cells ∧ ∀ j, j < ls.length → cells[j]? = some (.slice (ps j).1 (rgt ls j).length (ps j).2)
  own : ∀ j, n ≤ j → j < ls.length → Own e2 w B (ps j).1 (ps j).2 (rgt ls j)
  two : ∀ i j, n ≤ i → n ≤ j → i < ls.length → j < ls.length → i ≠ j → blk (ps i).1 = none ∨ blk (ps i).1 ≠ blk (ps j).1
def FootF (X : Option Addr) (ps : Nat → Option Addr × Nat) (n m : Nat) (q : Nat) : Prop := blk X = some q ∨ ∃ l, n ≤ l ∧ l < m ∧ blk (ps l).1 = some q
section
variable {e1 e2 c n B : Nat} {w w' w0 : World} {X : Option Addr} {ls : List (List Int)} {ps : Nat → Option Addr × Nat} {L : List Thing}
theorem OwnSF.same (h : OwnSF e1 e2 w B X c ls ps n) (hs : ∀ q, FootF X ps n ls.length q → w'.heap[q]? = w.heap[q]?) : OwnSF e1 e2 w' B X c ls ps n := by
  obtain ⟨⟨cells, hr, hc⟩, ho, ht⟩ := h
  exact ⟨⟨cells, hr.same fun q hq => hs q (.inl hq), hc⟩, fun j hn hj => Row.same (ho j hn hj) fun q hq => hs q (.inr ⟨j, hn, hj, hq⟩), ht⟩
theorem OwnSF.up {B' : Nat} (h : OwnSF e1 e2 w B X c ls ps n) (hs : ∀ q, FootF X ps n ls.length q → B' ≤ q) : OwnSF e1 e2 w B' X c ls ps n := by
  obtain ⟨⟨cells, hr, hc⟩, ho, ht⟩ := h
  exact ⟨⟨cells, hr.up fun q hq => hs q (.inl hq), hc⟩, fun j hn hj => Row.up (ho j hn hj) fun q hq => hs q (.inr ⟨j, hn, hj, hq⟩), ht⟩
theorem OwnSF.mono {B' : Nat} (h : OwnSF e1 e2 w B X c ls ps n) (hb : B' ≤ B) : OwnSF e1 e2 w B' X c ls ps n := by
  obtain ⟨⟨cells, hr, hc⟩, ho, ht⟩ := h
  exact ⟨⟨cells, Row.mono hr hb, hc⟩, fun j hn hj => Row.mono (ho j hn hj) hb, ht⟩
theorem OwnSF.foot (h : OwnSF e1 e2 w B X c ls ps n) {q : Nat} (hq : FootF X ps n ls.length q) : B ≤ q ∧ q < w.heap.size := by
  obtain ⟨⟨cells, hr, hc⟩, ho, ht⟩ := h
  rcases hq with hq | ⟨l, hn, hl, hq⟩
  · exact hr.ge hq
  · exact Row.ge (ho l hn hl) hq
theorem OwnSF.ptr (h : OwnSF e1 e2 w B X c ls ps n) (hl : 0 < ls.length) : X = some (ad X) := by
  obtain ⟨⟨cells, hr, hc⟩, _⟩ := h
  exact hr.ptr hl
theorem OwnSF.cell (h : OwnSF e1 e2 w B X c ls ps n) {j : Nat} (hj : j < ls.length) : w.cell? ((ad X).add j) = some (.slice (ps j).1 (rgt ls j).length (ps j).2) := by
  obtain ⟨⟨cells, hr, hc⟩, _⟩ := h
  exact hr.src.cell _ _ (hc j hj)
end
end Go.Sh
namespace Go.Proofs.Ytiohaeckagjebaa
open Go Go.Sh Go.RowKit
end Go.Proofs.Ytiohaeckagjebaa

/- Bm: bodies of functions as terms of the frame calculus, printed by shgen.py of this repository. -/
set_option linter.unusedVariables false
set_option maxRecDepth 100000
namespace Go.Proofs.Ytiohaeckagjebaa
open Go Go.Sh

/-! loop.example/g00758/spec.l20Two -/
end Go.Proofs.Ytiohaeckagjebaa

/- Contract: whether two grammars may be set beside each other (the reference's l20Two). -/
set_option linter.unusedVariables false
set_option linter.unusedSimpArgs false
set_option maxRecDepth 100000
namespace Go.Sh
open Go
end Go.Sh
namespace Go.Proofs.Ytiohaeckagjebaa
open Go Go.Sh Go.RowKit

end Go.Proofs.Ytiohaeckagjebaa

/- Contracts: words in order, the first unlike word of two lists (the reference), equal lists (the program's library). -/
set_option linter.unusedVariables false
set_option linter.unusedSimpArgs false
set_option maxRecDepth 100000
namespace Go.Sh
open Go
end Go.Sh
namespace Go.Proofs.Ytiohaeckagjebaa
open Go Go.Sh Go.RowKit
end Go.Proofs.Ytiohaeckagjebaa

/- Contracts: equal lists (the program's library), SameUpTo of the reference and of the program. -/
set_option linter.unusedVariables false
set_option linter.unusedSimpArgs false
set_option maxRecDepth 100000
namespace Go.Sh
open Go
end Go.Sh
namespace Go.Proofs.Ytiohaeckagjebaa
open Go Go.Sh Go.RowKit
end Go.Proofs.Ytiohaeckagjebaa

/- Contracts: words compared (the program's library), FirstUnlike of the reference and of the program. -/
set_option linter.unusedVariables false
set_option linter.unusedSimpArgs false
set_option maxRecDepth 100000
namespace Go.Sh
open Go
def cmpI (x y : Int) : Int := if x < y then -1 else if y < x then 1 else 0
def cmpL : List Int → List Int → Int
  | x :: xs, y :: ys => if cmpI x y ≠ 0 then cmpI x y else cmpL xs ys
  | [], [] => 0
  | [], _ :: _ => -1
  | _ :: _, [] => 1
theorem cmpI_lt {x y : Int} : cmpI x y < 0 ↔ x < y := by
  unfold cmpI
  split
  · omega
  · split <;> omega
theorem cmpI_eq {x y : Int} : cmpI x y = 0 ↔ x = y := by
  unfold cmpI
  split
  · omega
  · split <;> omega
theorem cmpL_drop {a b : List Int} {i : Nat} (hi : i < a.length) (hj : i < b.length) : cmpL (a.drop i) (b.drop i) = if cmpI (a.getD i 0) (b.getD i 0) ≠ 0 then cmpI (a.getD i 0) (b.getD i 0) else cmpL (a.drop (i + 1)) (b.drop (i + 1)) := by
  rw [List.drop_eq_getElem_cons hi, List.drop_eq_getElem_cons hj, cmpL]
  simp [List.getD_eq_getElem?_getD, hi, hj]
theorem cmpL_right {a b : List Int} {i : Nat} (hi : i < a.length) (hj : b.length ≤ i) : cmpL (a.drop i) (b.drop i) = 1 := by
  rw [List.drop_eq_getElem_cons hi, List.drop_of_length_le hj, cmpL]
theorem cmpL_left {a b : List Int} {i : Nat} (hi : a.length ≤ i) (hj : i < b.length) : cmpL (a.drop i) (b.drop i) = -1 := by
  rw [List.drop_eq_getElem_cons hj, List.drop_of_length_le hi, cmpL]
theorem cmpL_none {a b : List Int} {i : Nat} (hi : a.length ≤ i) (hj : b.length ≤ i) : cmpL (a.drop i) (b.drop i) = 0 := by
  rw [List.drop_of_length_le hi, List.drop_of_length_le hj, cmpL]
/-- The rest of a list of slices, from place i on. -/
structure AtS (w : World) (X : Option Addr) (n c : Nat) (ls : List (List Int)) (ps : Nat → Option Addr × Nat) (i : Nat) : Prop where
  len : n = ls.length - i
  le : n ≤ c
  ptr : 0 < n → X = some (ad X)
  cell : ∀ j, j < n → w.cell? ((ad X).add j) = some (.slice (ps (i + j)).1 (rgt ls (i + j)).length (ps (i + j)).2)
theorem AtS.gr {w w' : World} {X : Option Addr} {n c i : Nat} {ls : List (List Int)} {ps : Nat → Option Addr × Nat} (h : AtS w X n c ls ps i) (g : Gr w w') : AtS w' X n c ls ps i := ⟨h.len, h.le, h.ptr, fun j hj => g.cell (h.cell j hj)⟩
theorem AtS.first {w : World} {X : Option Addr} {n c i : Nat} {ls : List (List Int)} {ps : Nat → Option Addr × Nat} (h : AtS w X n c ls ps i) (h0 : 0 < n) : w.cell? ((ad X).add 0) = some (.slice (ps i).1 (rgt ls i).length (ps i).2) := h.cell 0 h0
theorem AtS.next {w : World} {X : Option Addr} {n c i : Nat} {ls : List (List Int)} {ps : Nat → Option Addr × Nat} (h : AtS w X n c ls ps i) (h0 : 0 < n) : AtS w (sub X 1 c 1) (n - 1) (c - 1) ls ps (i + 1) := by
  have hl := h.len
  have hle := h.le
  have hX := h.ptr h0
  refine ⟨by omega, by omega, fun h1 => ?_, fun j hj => ?_⟩
  · unfold Sh.sub
    rw [if_neg (by omega), hX]
    rfl
  · have := h.cell (j + 1) (by omega)
    unfold Sh.sub
    rw [if_neg (by omega), hX]
    show w.cell? (((ad X).add (1 * 1)).add j) = _
    rw [add_add, show 1 * 1 + j = j + 1 from by omega, this, show i + (j + 1) = i + 1 + j from by omega]
theorem AtS.of {w : World} {e1 e2 B c : Nat} {X : Option Addr} {ls : List (List Int)} {ps : Nat → Option Addr × Nat} (o : OwnSS e1 e2 w B X c ls ps) : AtS w X ls.length c ls ps 0 := by
  refine ⟨by omega, ?_, fun h => o.ptr h, fun j hj => ?_⟩
  · obtain ⟨⟨cells, hr, hc⟩, _⟩ := o
    exact hr.cap.1
  · rw [Nat.zero_add]
    exact o.cell hj
end Go.Sh
namespace Go.Proofs.Ytiohaeckagjebaa
open Go Go.Sh Go.RowKit
theorem compare_c {w : World} {x y : Int} {k : Value → World → Prop} (hk : k (.int .i64 (cmpI x y)) w) : CallK Try.prog 163 [.int .i64 x, .int .i64 y] k w := by
  refine enter163 ?_
  unfold S163
  refine enter187 ?_
  unfold S187
  simp only [decide_true, Bool.not_true, go_sem, Nat.reduceEqDiff]
  refine enter187 ?_
  unfold S187
  simp only [decide_true, Bool.not_true, go_sem, Nat.reduceEqDiff]
  unfold cmpI at hk
  by_cases h1 : x < y
  · simp only [h1, decide_true, go_sem, Nat.reduceEqDiff]
    rwa [if_pos h1] at hk
  · simp only [h1, decide_false, go_sem, Nat.reduceEqDiff]
    rw [if_neg h1] at hk
    by_cases h2 : y < x
    · simp only [h2, decide_true, go_sem, Nat.reduceEqDiff]
      rwa [if_pos h2] at hk
    · simp only [h2, decide_false, go_sem, Nat.reduceEqDiff]
      rwa [if_neg h2] at hk
theorem compareL_c {w : World} {X Y : Option Addr} {c d : Nat} {a b : List Int} (hX : Ints w X a) (hY : Ints w Y b) {k : Value → World → Prop} (hk : k (.int .i64 (cmpL a b)) w) :
    CallK Try.prog 164 [.slice X a.length c, .slice Y b.length d] k w := by
  refine enter164 ?_
  unfold S164
  simp only [go_sem, Nat.reduceEqDiff]
  have hle := hX.le
  refine loop_to a.length 0 (fun i f w' => i ≤ a.length ∧ i ≤ b.length ∧ f 11 = .int .i64 i ∧ w' = w ∧ cmpL a b = cmpL (a.drop i) (b.drop i)) ⟨Nat.zero_le _, Nat.zero_le _, rfl, rfl, by simp⟩ ?_
  rintro i f w1 N hag ⟨hi, hib, h11, rfl, hE⟩ hN
  have f0 : f 0 = .slice X a.length c := hag 0 (by decide)
  have f1 : f 1 = .slice Y b.length d := hag 1 (by decide)
  have f9 : f 9 = .slice X a.length c := hag 9 (by decide)
  have f10 : f 10 = .int .i64 a.length := hag 10 (by decide)
  simp only [f0, f1, f9, f10, h11, go_sem, Nat.reduceEqDiff]
  by_cases hlt : i < a.length
  case neg =>
    simp only [show ¬ ((i : Int) < a.length) from by omega, decide_false, go_sem, Nat.reduceEqDiff]
    by_cases hb : a.length < b.length
    · simp only [show ((a.length : Int) < b.length) from by omega, decide_true, go_sem, Nat.reduceEqDiff]
      rw [cmpL_left (by omega) (by omega)] at hE
      rwa [hE] at hk
    · simp only [show ¬ ((a.length : Int) < b.length) from by omega, decide_false, go_sem, Nat.reduceEqDiff]
      rw [cmpL_none (by omega) (by omega)] at hE
      rwa [hE] at hk
  simp only [show ((i : Int) < a.length) from by omega, decide_true, go_sem, Nat.reduceEqDiff]
  refine rdi (ixn22 hX.ptr hlt) (rdi (ld3 (hX.cell i hlt)) ?_)
  by_cases hb : i < b.length
  case neg =>
    simp only [show ((b.length : Int) ≤ i) from by omega, decide_true, go_sem, Nat.reduceEqDiff]
    rw [cmpL_right hlt (by omega)] at hE
    rwa [hE] at hk
  simp only [show ¬ ((b.length : Int) ≤ i) from by omega, decide_false, go_sem, Nat.reduceEqDiff]
  refine rdi (ixn22 hY.ptr hb) (rdi (ld3 (hY.cell i hb)) ?_)
  refine compare_c ?_
  simp only [go_sem, Nat.reduceEqDiff]
  rw [cmpL_drop hlt hb] at hE
  by_cases e : cmpI (a.getD i 0) (b.getD i 0) = 0
  · simp only [e, decide_true, Bool.not_true, go_sem, Nat.reduceEqDiff]
    rw [i64_of (by omega) (by omega)]
    rw [if_neg (fun h => h e)] at hE
    exact hN _ _ hlt ⟨by omega, by omega, rfl, rfl, hE⟩
  · simp only [e, decide_false, Bool.not_false, go_sem, Nat.reduceEqDiff]
    rw [if_pos e] at hE
    rwa [hE] at hk
end Go.Proofs.Ytiohaeckagjebaa

/- The least tree with the least cost: the plain law. -/
set_option linter.unusedVariables false
set_option linter.unusedSimpArgs false
set_option maxRecDepth 100000
namespace Go.Sh
open Go
section
variable {rs : List RuleL} {ws cs : List Int} {T : CT}
end
end Go.Sh

/- Tables of costs in memory: rows of the reference, cells of the program. -/
set_option linter.unusedVariables false
set_option linter.unusedSimpArgs false
set_option maxRecDepth 100000
namespace Go.Sh
open Go
structure TabE (enc : Option Nat → Int) (w : World) (U : Option Addr) (nons n : Nat) (T : CT) : Prop where
  ptr : 0 < nons → U = some (ad U)
  row : ∀ x, x < nons → ∃ R c, w.cell? ((ad U).add x) = some (.slice R (n * n) c) ∧ R = some (ad R) ∧ ∀ i j, i < n → j < n → w.cell? ((ad R).add (i * n + j)) = some (.int .i64 (enc (T x i j)))
  cap : ∀ x R c, x < nons → w.cell? ((ad U).add x) = some (.slice R (n * n) c) → n * n ≤ c
theorem TabE.gr {enc : Option Nat → Int} {w w' : World} {U : Option Addr} {nons n : Nat} {T : CT} (h : TabE enc w U nons n T) (g : Gr w w') : TabE enc w' U nons n T := ⟨h.ptr, fun x hx => by
  obtain ⟨R, c, h1, h2, h3⟩ := h.row x hx
  exact ⟨R, c, g.cell h1, h2, fun i j hi hj => g.cell (h3 i j hi hj)⟩, fun x R c hx hc => by
  obtain ⟨R', c', h1, _, _⟩ := h.row x hx
  have h4 := g.cell h1
  rw [hc] at h4
  cases h4
  exact h.cap x _ _ hx h1⟩
section
variable {enc : Option Nat → Int} {T : CT}
end
/-! The program's cells. -/
/-! What tables tell. -/
def rowN (enc : Option Nat → Int) (T : CT) (n x : Nat) : List Int := (List.range (n * n)).map fun p => enc (T x (p / n) (p % n))
theorem rowN_length (enc : Option Nat → Int) (T : CT) (n x : Nat) : (rowN enc T n x).length = n * n := by simp [rowN]
theorem TabE.ints {enc : Option Nat → Int} {w : World} {U : Option Addr} {nons n : Nat} {T : CT} (h : TabE enc w U nons n T) (hn : n ≤ 11) {x : Nat} (hx : x < nons) : ∃ R c, w.cell? ((ad U).add x) = some (.slice R (n * n) c) ∧ n * n ≤ c ∧ Ints w R (rowN enc T n x) := by
  obtain ⟨R, c, h1, h2, h3⟩ := h.row x hx
  have hnn : n * n ≤ 11 * 11 := Nat.mul_le_mul hn hn
  refine ⟨R, c, h1, h.cap x R c hx h1, by rw [rowN_length]; omega, fun _ => h2, fun j hj => ?_⟩
  rw [rowN_length] at hj
  have hn0 : 0 < n := by
    cases n with
    | zero => simp at hj
    | succ n => omega
  have h4 := h3 (j / n) (j % n) (Nat.div_lt_of_lt_mul hj) (Nat.mod_lt _ hn0)
  rw [Nat.mul_comm (j / n), Nat.div_add_mod] at h4
  rw [h4]
  congr 2
  simp [rowN, List.getD_eq_getElem?_getD, hj]
/-! Comparing. -/
end Go.Sh

/- Bj: bodies of functions as terms of the frame calculus, printed by shgen.py of this repository. -/
set_option linter.unusedVariables false
set_option maxRecDepth 100000
namespace Go.Proofs.Ytiohaeckagjebaa
open Go Go.Sh

/-! loop.example/g00758/laws.FnExactCostTable -/
/-! loop.example/g00758/spec.CostTable -/
/-! loop.example/g00758/impl.CostTable -/
/-! loop.example/g00758/spec.l12Costs -/
/-! loop.example/g00758/spec.l12Table -/
/-! loop.example/g00758/impl.areCosts -/
/-! (loop.example/g00758/impl.Grammar).costs -/
/-! loop.example/g00758/spec.l10Best -/
/-! loop.example/g00758/impl.areCosts$1 -/
/-! (*loop.example/g00758/impl.costing).rest -/
/-! (*loop.example/g00758/impl.costing).one -/
end Go.Proofs.Ytiohaeckagjebaa

/- Contracts: least costs of a row of symbols: the reference's l10Best, the program's one and rest. -/
set_option linter.unusedVariables false
set_option linter.unusedSimpArgs false
set_option maxRecDepth 100000
namespace Go.Sh
open Go
end Go.Sh
namespace Go.Proofs.Ytiohaeckagjebaa
open Go Go.Sh Go.RowKit
end Go.Proofs.Ytiohaeckagjebaa

/- Bh: bodies of functions as terms of the frame calculus, printed by shgen.py of this repository. -/
set_option linter.unusedVariables false
set_option maxRecDepth 100000
namespace Go.Proofs.Ytiohaeckagjebaa
open Go Go.Sh

/-! loop.example/g00758/laws.FnExactLeastMend -/
/-! loop.example/g00758/laws.FnExactMendTable -/
/-! loop.example/g00758/spec.LeastMend -/
/-! loop.example/g00758/impl.LeastMend -/
/-! loop.example/g00758/spec.MendTable -/
/-! loop.example/g00758/impl.MendTable -/
/-! loop.example/g00758/spec.l17Word -/
/-! loop.example/g00758/spec.l17Table -/
/-! (loop.example/g00758/impl.Grammar).mends -/
/-! loop.example/g00758/spec.l17Row -/
/-! (*loop.example/g00758/impl.mending).rest -/
/-! loop.example/g00758/spec.l17Token -/
/-! (*loop.example/g00758/impl.mending).one -/
/-! slices.Contains[[]int,int] -/
/-! slices.Index[[]int,int] -/
end Go.Proofs.Ytiohaeckagjebaa

/- Contracts: how few changes make a token, a row of symbols (the reference's l17Token, l17Row). -/
set_option linter.unusedVariables false
set_option linter.unusedSimpArgs false
set_option maxRecDepth 100000
namespace Go.Sh
open Go
end Go.Sh
namespace Go.Proofs.Ytiohaeckagjebaa
open Go Go.Sh Go.RowKit
end Go.Proofs.Ytiohaeckagjebaa

/- Contract: the reference's table of mending (l17Table). -/
set_option linter.unusedVariables false
set_option linter.unusedSimpArgs false
set_option maxRecDepth 100000
namespace Go.Sh
open Go
section
variable {c : CandG} {rs : List RuleL} {n : Nat}
end
end Go.Sh
namespace Go.Proofs.Ytiohaeckagjebaa
open Go Go.Sh Go.RowKit
end Go.Proofs.Ytiohaeckagjebaa

/- Contract: the reference's table of least costs (l12Table). -/
set_option linter.unusedVariables false
set_option linter.unusedSimpArgs false
set_option maxRecDepth 100000
namespace Go.Sh
open Go
section
variable {ws cs : List Int} {rs : List RuleL} {n : Nat}
end
/-- Costs that are asked for. -/
structure CostsOk (gm : Gram) (cs : List Int) : Prop where
  len : cs.length = gm.rules.length
  all : ∀ c ∈ cs, 1 ≤ c ∧ c ≤ 100
theorem CostsOk.at {gm : Gram} {cs : List Int} (h : CostsOk gm cs) {q : Nat} (hq : q < gm.rules.length) : cs.getD q 0 = (costQ cs q : Int) ∧ 0 < costQ cs q ∧ costQ cs q ≤ 100 := by
  have hq' : q < cs.length := by rw [h.len]; exact hq
  have hm : cs.getD q 0 ∈ cs := by
    rw [List.getD_eq_getElem?_getD, List.getElem?_eq_getElem hq', Option.getD_some]
    exact List.getElem_mem hq'
  have := h.all _ hm
  unfold costQ
  omega
end Go.Sh
namespace Go.Proofs.Ytiohaeckagjebaa
open Go Go.Sh Go.RowKit
end Go.Proofs.Ytiohaeckagjebaa

/- Bo: bodies of functions as terms of the frame calculus, printed by shgen.py of this repository. -/
set_option linter.unusedVariables false
set_option maxRecDepth 100000
namespace Go.Proofs.Ytiohaeckagjebaa
open Go Go.Sh

/-! loop.example/g00758/laws.FnExactBestTree -/
/-! loop.example/g00758/spec.BestTree -/
/-! loop.example/g00758/impl.BestTree -/
/-! loop.example/g00758/spec.BestCost -/
/-! loop.example/g00758/spec.l12Tree -/
/-! (*loop.example/g00758/impl.costing).least -/
def S126 (v0 v1 v2 v3 : Value) (k : Value → World → Prop) (w : World) : Prop :=
 Rd Try.prog (WS.at w) (sBuild 172 [(0, v1), (1, v2), (2, v3)]) fun t1 =>
 Do Try.prog (sAlloc 172) (fun t2 w3 =>
 Do Try.prog (sStore 172 t2 t1) (fun _ w4 =>
 Rd Try.prog WS.any (sNilCheck v0) fun t5 =>
 Rd Try.prog WS.any (sFieldAddr 125 t5 4) fun t6 =>
 Rd Try.prog (WS.at w4.drew) (sLoad 123 t6) fun t7 =>
 Rd Try.prog (WS.at w4.drew) (sLoad 172 t2) fun t8 =>
 Do Try.prog (sLookup 123 t7 t8 true) (fun t9 w10 =>
 Rd Try.prog WS.any (sExtract t9 0) fun t11 =>
 Rd Try.prog WS.any (sExtract t9 1) fun t12 =>
 CondK t12
  (k t11 w10)
  (Join (fun K13 =>
  Rd Try.prog (WS.at w10) (sNilCheck v0) fun t16 =>
  Rd Try.prog (WS.at w10) (sFieldAddr 125 t16 0) fun t17 =>
  Rd Try.prog (WS.at w10) (sFieldAddr 37 t17 2) fun t18 =>
  Rd Try.prog (WS.at w10) (sLoad 35 t18) fun t19 =>
  Rd Try.prog (WS.at w10) (sBuiltin .len #[35] 3 [false] [t19]) fun t20 =>
  LoopF [37, 38, 39, 40, 13, 12, 14, 41, 42, 43, 44, 45, 46, 47, 48, 49, 50, 14, 51, 52, 53, 54, 55, 56, 57, 58, 59, 60, 61, 62, 63, 64, 65, 66, 67, 68, 69, 70, 71, 72, 73, 74, 75, 76, 77, 78, 79, 80, 81, 82, 83, 84, 85, 86, 87, 88, 89, 36] (fun Q21 f22 w23 =>
   Rd Try.prog (WS.at w23) (sBin .lss 3 false (f22 36) (f22 35)) fun t24 =>
   CondK t24
    (Join (fun K25 =>
    Rd Try.prog (WS.at w23) (sIndexAddr 35 (f22 34) (f22 36)) fun t28 =>
    Rd Try.prog (WS.at w23) (sLoad 77 t28) fun t29 =>
    Do Try.prog (sAlloc 77) (fun t30 w31 =>
    Do Try.prog (sStore 77 t30 t29) (fun _ w32 =>
    Join (fun K33 =>
    Rd Try.prog (WS.at w32) (sFieldAddr 77 t30 0) fun t36 =>
    Rd Try.prog (WS.at w32) (sLoad 3 t36) fun t37 =>
    Rd Try.prog (WS.at w32) (sBin .eql 3 false t37 (f22 1)) fun t38 =>
    CondK t38
     (Rd Try.prog (WS.at w32) (sFieldAddr 77 t30 1) fun t39 =>
     Rd Try.prog (WS.at w32) (sLoad 22 t39) fun t40 =>
     CallK Try.prog 154 [(f22 0), t40, (f22 2), (f22 3)] (fun t41 w42 =>
     K33 (F.upd (F.upd (F.upd (F.upd (F.upd (F.upd (F.upd (F.upd (F.upd (F.upd (F.upd (F.upd (F.upd (F.upd (F.upd (F.upd (F.upd (F.upd f22 37 t24) 38 (f22 36)) 39 t28) 40 t29) 13 t30) 12 (f22 36)) 14 (.int .i64 (-1))) 41 t36) 42 t37) 43 (f22 1)) 44 t38) 45 (f22 0)) 46 t39) 47 t40) 48 (f22 2)) 49 (f22 3)) 50 t41) 14 t41) w42) w32)
     (K33 (F.upd (F.upd (F.upd (F.upd (F.upd (F.upd (F.upd (F.upd (F.upd (F.upd (F.upd f22 37 t24) 38 (f22 36)) 39 t28) 40 t29) 13 t30) 12 (f22 36)) 14 (.int .i64 (-1))) 41 t36) 42 t37) 43 (f22 1)) 44 t38) w32)) (fun f34 w35 =>
    Rd Try.prog WS.any (sBin .geq 3 true (f34 14) (.int .i64 0)) fun t43 =>
    GuardK t43 true (fun k w' => k (f34 14) w') (fun t44 w45 =>
    GuardK t43 true (fun k w' => k (f34 0) w') (fun t46 w47 =>
    GuardK t43 true (fun k w' => Rd Try.prog WS.any (sNilCheck t46) fun v => k v w') (fun t48 w49 =>
    GuardK t43 true (fun k w' => Rd Try.prog WS.any (sFieldAddr 125 t48 2) fun v => k v w') (fun t50 w51 =>
    GuardK t43 true (fun k w' => Rd Try.prog (WS.at w35.drew) (sLoad 22 t50) fun v => k v w') (fun t52 w53 =>
    GuardK t43 true (fun k w' => k (f34 12) w') (fun t54 w55 =>
    GuardK t43 true (fun k w' => Rd Try.prog WS.any (sIndexAddr 22 t52 t54) fun v => k v w') (fun t56 w57 =>
    GuardK t43 true (fun k w' => Rd Try.prog (WS.at w35.drew) (sLoad 3 t56) fun v => k v w') (fun t58 w59 =>
    GuardK t43 true (fun k w' => Rd Try.prog WS.any (sBin .add 3 false t44 t58) fun v => k v w') (fun t60 w61 =>
    GuardK t43 true (fun k w' => k (f34 0) w') (fun t62 w63 =>
    GuardK t43 true (fun k w' => k (f34 1) w') (fun t64 w65 =>
    GuardK t43 true (fun k w' => k (f34 2) w') (fun t66 w67 =>
    GuardK t43 true (fun k w' => k (f34 3) w') (fun t68 w69 =>
    GuardK t43 true (fun k w' => Rd Try.prog WS.any (sNilCheck t62) fun v => k v w') (fun t70 w71 =>
    GuardK t43 true (fun k w' => Rd Try.prog WS.any (sFieldAddr 125 t70 3) fun v => k v w') (fun t72 w73 =>
    GuardK t43 true (fun k w' => Rd Try.prog WS.any (sIndexAddr 122 t72 t64) fun v => k v w') (fun t74 w75 =>
    GuardK t43 true (fun k w' => Rd Try.prog WS.any (sIndexAddr 121 t74 t66) fun v => k v w') (fun t76 w77 =>
    GuardK t43 true (fun k w' => Rd Try.prog WS.any (sIndexAddr 120 t76 t68) fun v => k v w') (fun t78 w79 =>
    GuardK t43 true (fun k w' => Rd Try.prog (WS.at w35.drew) (sLoad 3 t78) fun v => k v w') (fun t80 w81 =>
    GuardK t43 true (fun k w' => Rd Try.prog WS.any (sBin .eql 3 false t60 t80) fun v => k v w') (fun t82 w83 =>
    Rd Try.prog WS.any (sPick t43 t82 (.bool false)) fun t84 =>
    CondK t84
     (Join (fun K87 =>
     ∃ S85 : World → Prop, ∃ h86 : S85 w83.drew,
     Rd Try.prog WS.any (sNilCheck (f34 0)) fun t90 =>
     Rd Try.prog WS.any (sFieldAddr 125 t90 4) fun t91 =>
     Rd Try.prog ⟨S85, w83.drew, h86⟩ (sLoad 123 t91) fun t92 =>
     Rd Try.prog ⟨S85, w83.drew, h86⟩ (sLoad 172 (f34 9)) fun t93 =>
     Rd Try.prog WS.any (sFieldAddr 77 (f34 13) 1) fun t94 =>
     Rd Try.prog ⟨S85, w83.drew, h86⟩ (sLoad 22 t94) fun t95 =>
     ((Do Try.prog (sBuildSlice 22 1 [(0, (f34 12))]) (fun t96 w97 =>
     S85 w97 ∧ CallK Try.prog 167 [(f34 0), t95, (f34 2), (f34 3)] (fun t98 w99 =>
     S85 w99 ∧ Do Try.prog (sBuiltin .append #[22, 22] 22 [false, false] [t96, t98]) (fun t100 w101 =>
     S85 w101 ∧ Do Try.prog (sMapUpdate 123 t92 t93 t100) (fun _ w102 =>
     S85 w102 ∧ K87 (F.upd (F.upd (F.upd (F.upd (F.upd (F.upd (F.upd (F.upd (F.upd (F.upd (F.upd (F.upd (F.upd (F.upd (F.upd (F.upd (F.upd (F.upd (F.upd (F.upd (F.upd (F.upd (F.upd (F.upd (F.upd (F.upd (F.upd (F.upd (F.upd (F.upd (F.upd (F.upd (F.upd (F.upd (F.upd (F.upd (F.upd (F.upd f34 51 (f34 14)) 52 t43) 53 t43) 54 t44) 55 t46) 56 t48) 57 t50) 58 t52) 59 t54) 60 t56) 61 t58) 62 t60) 63 t62) 64 t64) 65 t66) 66 t68) 67 t70) 68 t72) 69 t74) 70 t76) 71 t78) 72 t80) 73 t82) 74 t84) 75 (f34 0)) 76 t90) 77 t91) 78 t92) 79 t93) 80 (f34 12)) 82 (f34 0)) 83 t94) 84 t95) 85 (f34 2)) 86 (f34 3)) 81 t96) 87 t98) 88 t100) w102) w101) w99) w97) w83.drew) ∧
     (CallK Try.prog 167 [(f34 0), t95, (f34 2), (f34 3)] (fun t103 w104 =>
     S85 w104 ∧ Do Try.prog (sBuildSlice 22 1 [(0, (f34 12))]) (fun t105 w106 =>
     S85 w106 ∧ Do Try.prog (sBuiltin .append #[22, 22] 22 [false, false] [t105, t103]) (fun t107 w108 =>
     S85 w108 ∧ Do Try.prog (sMapUpdate 123 t92 t93 t107) (fun _ w109 =>
     S85 w109 ∧ K87 (F.upd (F.upd (F.upd (F.upd (F.upd (F.upd (F.upd (F.upd (F.upd (F.upd (F.upd (F.upd (F.upd (F.upd (F.upd (F.upd (F.upd (F.upd (F.upd (F.upd (F.upd (F.upd (F.upd (F.upd (F.upd (F.upd (F.upd (F.upd (F.upd (F.upd (F.upd (F.upd (F.upd (F.upd (F.upd (F.upd (F.upd (F.upd f34 51 (f34 14)) 52 t43) 53 t43) 54 t44) 55 t46) 56 t48) 57 t50) 58 t52) 59 t54) 60 t56) 61 t58) 62 t60) 63 t62) 64 t64) 65 t66) 66 t68) 67 t70) 68 t72) 69 t74) 70 t76) 71 t78) 72 t80) 73 t82) 74 t84) 75 (f34 0)) 76 t90) 77 t91) 78 t92) 79 t93) 80 (f34 12)) 82 (f34 0)) 83 t94) 84 t95) 85 (f34 2)) 86 (f34 3)) 87 t103) 81 t105) 88 t107) w109) w108) w106) w104) w83.drew))) (fun f88 w89 =>
     Q21 (.exit 0) f88 w89))
     (K25 (F.upd (F.upd (F.upd (F.upd (F.upd (F.upd (F.upd (F.upd (F.upd (F.upd (F.upd (F.upd (F.upd (F.upd (F.upd (F.upd (F.upd (F.upd (F.upd (F.upd (F.upd (F.upd (F.upd (F.upd f34 51 (f34 14)) 52 t43) 53 t43) 54 t44) 55 t46) 56 t48) 57 t50) 58 t52) 59 t54) 60 t56) 61 t58) 62 t60) 63 t62) 64 t64) 65 t66) 66 t68) 67 t70) 68 t72) 69 t74) 70 t76) 71 t78) 72 t80) 73 t82) 74 t84) w83)) w81) w79) w77) w75) w73) w71) w69) w67) w65) w63) w61) w59) w57) w55) w53) w51) w49) w47) w45) w35.drew)) w31) w23) (fun f26 w27 =>
    Rd Try.prog (WS.at w27) (sBin .add 3 true (f26 36) (.int .i64 1)) fun t110 =>
    Q21 .normal (F.upd (F.upd f26 89 t110) 36 t110) w27))
    (Q21 (.exit 0) (F.upd f22 37 t24) w23))
   (blockQ 0 (seqQ K13 (bodyQ Try.prog [.tmp 8] k)))
   (F.upd (F.upd (F.upd (F.upd (F.upd (F.upd (F.upd (F.upd (F.upd (F.upd (F.upd (F.upd (F.upd (F.upd (F.upd (F.upd (F.upd (F.upd (F.upd (F.upd (F.upd (F.upd (F.upd (F.upd (F.upd (initF [v0, v1, v2, v3]) 8 (.slice none 0 0)) 15 v1) 16 v2) 17 v3) 18 t1) 9 t2) 20 v0) 21 t5) 22 t6) 23 t7) 24 t8) 25 t9) 19 t9) 26 t11) 27 t12) 10 t11) 11 t12) 28 t12) 30 v0) 31 t16) 32 t17) 33 t18) 34 t19) 35 t20) 36 (.int .i64 0)) w10) (fun f14 w15 =>
  Rd Try.prog WS.any (sNilCheck (f14 0)) fun t113 =>
  Rd Try.prog WS.any (sFieldAddr 125 t113 4) fun t114 =>
  Rd Try.prog (WS.at w15.drew) (sLoad 123 t114) fun t115 =>
  Rd Try.prog (WS.at w15.drew) (sLoad 172 (f14 9)) fun t116 =>
  Do Try.prog (sLookup 123 t115 t116 false) (fun t117 w118 =>
  k t117 w118) w15.drew))) w4.drew) w3) w
/-! loop.example/g00758/spec.l1Rules -/
def pl165 : Plans := fun _ => ⟨false, [], .nil⟩
def S165 (v0 v1 : Value) (k : Value → World → Prop) (w : World) : Prop :=
 Do Try.prog (sBox 37 v0) (fun t1 w2 =>
 Rd Try.prog (WS.at w2) (sFieldAddr 37 t1 2) fun t3 =>
 Rd Try.prog (WS.at w2) (sLoad 35 t3) fun t4 =>
 Rd Try.prog (WS.at w2) (sBuiltin .len #[35] 3 [false] [t4]) fun t5 =>
 LoopF [12, 13, 14, 15, 7, 6, 16, 17, 18, 19, 20, 21, 22, 23, 5, 24, 11] (fun Q6 f7 w8 =>
  Rd Try.prog (WS.at w8) (sBin .lss 3 false (f7 11) (f7 10)) fun t9 =>
  CondK t9
   (Join (fun K10 =>
   Rd Try.prog (WS.at w8) (sIndexAddr 35 (f7 9) (f7 11)) fun t13 =>
   Rd Try.prog (WS.at w8) (sLoad 77 t13) fun t14 =>
   Do Try.prog (sAlloc 77) (fun t15 w16 =>
   Do Try.prog (sStore 77 t15 t14) (fun _ w17 =>
   Rd Try.prog (WS.at w17) (sFieldAddr 77 t15 0) fun t18 =>
   Rd Try.prog (WS.at w17) (sLoad 3 t18) fun t19 =>
   Rd Try.prog (WS.at w17) (sBin .eql 3 false t19 (f7 1)) fun t20 =>
   CondK t20
    (Do Try.prog (sBuildSlice 22 1 [(0, (f7 11))]) (fun t21 w22 =>
    Do Try.prog (sBuiltin .append #[22, 22] 22 [false, false] [(f7 5), t21]) (fun t23 w24 =>
    K10 (F.upd (F.upd (F.upd (F.upd (F.upd (F.upd (F.upd (F.upd (F.upd (F.upd (F.upd (F.upd (F.upd (F.upd (F.upd f7 12 t9) 13 (f7 11)) 14 t13) 15 t14) 7 t15) 6 (f7 11)) 16 t18) 17 t19) 18 (f7 1)) 19 t20) 20 (f7 5)) 21 (f7 11)) 22 t21) 23 t23) 5 t23) w24) w22) w17)
    (K10 (F.upd (F.upd (F.upd (F.upd (F.upd (F.upd (F.upd (F.upd (F.upd (F.upd f7 12 t9) 13 (f7 11)) 14 t13) 15 t14) 7 t15) 6 (f7 11)) 16 t18) 17 t19) 18 (f7 1)) 19 t20) w17)) w16) w8) (fun f11 w12 =>
   Rd Try.prog (WS.at w12) (sBin .add 3 true (f11 11) (.int .i64 1)) fun t25 =>
   Q6 .normal (F.upd (F.upd f11 24 t25) 11 t25) w12))
   (Q6 (.exit 0) (F.upd f7 12 t9) w8))
  (blockQ 0 (seqQ (fun f26 w27 =>
 k (f26 5) w27) (bodyQ Try.prog [.tmp 4] k)))
  (F.upd (F.upd (F.upd (F.upd (F.upd (F.upd (F.upd (initF [v0, v1]) 2 t1) 4 (.slice none 0 0)) 5 (.slice none 0 0)) 8 t3) 9 t4) 10 t5) 11 (.int .i64 0)) w2) w
theorem body165 : Try.f165.body = some (bodyOf Try.f165) := by kernel_rfl
theorem same165 (v0 v1 : Value) (k : Value → World → Prop) (w : World) : wpF Try.prog pl165 (bodyOf Try.f165) (bodyQ Try.prog Try.f165.results.toList k) (initF [v0, v1]) w = S165 v0 v1 k w := by kernel_rfl
theorem enter165 {v0 v1 : Value} {k : Value → World → Prop} {w : World} (h : S165 v0 v1 k w) : CallK Try.prog 165 [v0, v1] k w :=
  call_of_wpF (pl := pl165) mixed Try.func165 body165 (by kernel_rfl) (of_decide_eq_true (by kernel_rfl)) (by kernel_rfl) (by kernel_rfl) (same165 v0 v1 k w ▸ h)

/-! loop.example/g00758/spec.l12Row -/
/-! (*loop.example/g00758/impl.costing).leastRest -/
/-! loop.example/g00758/spec.l11Less -/
def pl188 : Plans := fun i => match i with
  | 4 => ⟨false, [], .step 0 .any (.step 1 .any (.step 2 .any (.step 3 .any (.step 4 .any (.step 5 .any (.step 6 .any (.step 7 .any (.step 8 .held (.step 9 .any (.step 10 .any (.step 11 .any (.step 12 .held (.step 13 .any (.step 14 .any (.nil)))))))))))))))⟩
  | 5 => ⟨false, [], .step 0 .any (.step 1 .any (.step 2 .any (.step 3 .any (.step 4 .any (.step 5 .any (.step 6 .any (.step 7 .any (.step 8 .held (.step 9 .any (.step 10 .any (.step 11 .any (.step 12 .held (.step 13 .any (.step 14 .any (.step 15 .any (.nil))))))))))))))))⟩
  | _ => ⟨false, [], .nil⟩
def S188 (v0 v1 : Value) (k : Value → World → Prop) (w : World) : Prop :=
 Rd Try.prog (WS.at w) (sBuiltin .len #[22] 3 [false] [v0]) fun t1 =>
 LoopF [9, 10, 5, 11, 12, 13, 14, 15, 16, 17, 18, 19, 20, 21, 22, 23, 24, 25, 26, 27, 28, 29, 30, 31, 32, 33, 34, 35, 36, 37, 38, 39, 40, 4, 41, 8] (fun Q2 f3 w4 =>
  Rd Try.prog (WS.at w4) (sBin .lss 3 false (f3 8) (f3 7)) fun t5 =>
  CondK t5
   (Rd Try.prog WS.any (sBuiltin .len #[22] 3 [false] [(f3 1)]) fun t6 =>
   Rd Try.prog WS.any (sBin .geq 3 false (f3 8) t6) fun t7 =>
   GuardK t7 false (fun k w' => k (f3 0) w') (fun t8 w9 =>
   GuardK t7 false (fun k w' => k (f3 8) w') (fun t10 w11 =>
   GuardK t7 false (fun k w' => Rd Try.prog WS.any (sIndexAddr 22 t8 t10) fun v => k v w') (fun t12 w13 =>
   GuardK t7 false (fun k w' => Rd Try.prog (WS.at w4.drew) (sLoad 3 t12) fun v => k v w') (fun t14 w15 =>
   GuardK t7 false (fun k w' => k (f3 1) w') (fun t16 w17 =>
   GuardK t7 false (fun k w' => k (f3 8) w') (fun t18 w19 =>
   GuardK t7 false (fun k w' => Rd Try.prog WS.any (sIndexAddr 22 t16 t18) fun v => k v w') (fun t20 w21 =>
   GuardK t7 false (fun k w' => Rd Try.prog (WS.at w4.drew) (sLoad 3 t20) fun v => k v w') (fun t22 w23 =>
   GuardK t7 false (fun k w' => Rd Try.prog WS.any (sBin .neq 3 false t14 t22) fun v => k v w') (fun t24 w25 =>
   Rd Try.prog WS.any (sPick t7 (.bool true) t24) fun t26 =>
   CondK t26
    (Rd Try.prog WS.any (sBuiltin .len #[22] 3 [false] [(f3 1)]) fun t27 =>
    Rd Try.prog WS.any (sBin .lss 3 false (f3 8) t27) fun t28 =>
    GuardK t28 true (fun k w' => k (f3 0) w') (fun t29 w30 =>
    GuardK t28 true (fun k w' => k (f3 8) w') (fun t31 w32 =>
    GuardK t28 true (fun k w' => Rd Try.prog WS.any (sIndexAddr 22 t29 t31) fun v => k v w') (fun t33 w34 =>
    GuardK t28 true (fun k w' => Rd Try.prog (WS.at w25.drew) (sLoad 3 t33) fun v => k v w') (fun t35 w36 =>
    GuardK t28 true (fun k w' => k (f3 1) w') (fun t37 w38 =>
    GuardK t28 true (fun k w' => k (f3 8) w') (fun t39 w40 =>
    GuardK t28 true (fun k w' => Rd Try.prog WS.any (sIndexAddr 22 t37 t39) fun v => k v w') (fun t41 w42 =>
    GuardK t28 true (fun k w' => Rd Try.prog (WS.at w25.drew) (sLoad 3 t41) fun v => k v w') (fun t43 w44 =>
    GuardK t28 true (fun k w' => Rd Try.prog WS.any (sBin .lss 3 false t35 t43) fun v => k v w') (fun t45 w46 =>
    Rd Try.prog WS.any (sPick t28 t45 (.bool false)) fun t47 =>
    Q2 .ret (F.upd (F.upd (F.upd (F.upd (F.upd (F.upd (F.upd (F.upd (F.upd (F.upd (F.upd (F.upd (F.upd (F.upd (F.upd (F.upd (F.upd (F.upd (F.upd (F.upd (F.upd (F.upd (F.upd (F.upd (F.upd (F.upd (F.upd (F.upd (F.upd (F.upd (F.upd (F.upd (F.upd (F.upd f3 9 t5) 10 (f3 8)) 5 (f3 8)) 11 (f3 8)) 12 (f3 1)) 13 t6) 14 t7) 15 t7) 16 t8) 17 t10) 18 t12) 19 t14) 20 t16) 21 t18) 22 t20) 23 t22) 24 t24) 25 t26) 26 (f3 8)) 27 (f3 1)) 28 t27) 29 t28) 30 t28) 31 t29) 32 t31) 33 t33) 34 t35) 35 t37) 36 t39) 37 t41) 38 t43) 39 t45) 40 t47) 4 t47) w46) w44) w42) w40) w38) w36) w34) w32) w30) w25.drew)
    (Rd Try.prog (WS.at w25) (sBin .add 3 true (f3 8) (.int .i64 1)) fun t48 =>
    Q2 .normal (F.upd (F.upd (F.upd (F.upd (F.upd (F.upd (F.upd (F.upd (F.upd (F.upd (F.upd (F.upd (F.upd (F.upd (F.upd (F.upd (F.upd (F.upd (F.upd (F.upd f3 9 t5) 10 (f3 8)) 5 (f3 8)) 11 (f3 8)) 12 (f3 1)) 13 t6) 14 t7) 15 t7) 16 t8) 17 t10) 18 t12) 19 t14) 20 t16) 21 t18) 22 t20) 23 t22) 24 t24) 25 t26) 41 t48) 8 t48) w25)) w23) w21) w19) w17) w15) w13) w11) w9) w4.drew)
   (Q2 (.exit 0) (F.upd f3 9 t5) w4))
  (blockQ 0 (seqQ (fun f49 w50 =>
 Rd Try.prog (WS.at w50) (sBuiltin .len #[22] 3 [false] [(f49 0)]) fun t51 =>
 Rd Try.prog (WS.at w50) (sBuiltin .len #[22] 3 [false] [(f49 1)]) fun t52 =>
 Rd Try.prog (WS.at w50) (sBin .lss 3 false t51 t52) fun t53 =>
 k t53 w50) (bodyQ Try.prog [.tmp 4] k)))
  (F.upd (F.upd (F.upd (F.upd (initF [v0, v1]) 4 (.bool false)) 6 v0) 7 t1) 8 (.int .i64 0)) w
theorem body188 : Try.f188.body = some (bodyOf Try.f188) := by kernel_rfl
theorem same188 (v0 v1 : Value) (k : Value → World → Prop) (w : World) : wpF Try.prog pl188 (bodyOf Try.f188) (bodyQ Try.prog Try.f188.results.toList k) (initF [v0, v1]) w = S188 v0 v1 k w := by kernel_rfl
theorem enter188 {v0 v1 : Value} {k : Value → World → Prop} {w : World} (h : S188 v0 v1 k w) : CallK Try.prog 188 [v0, v1] k w :=
  call_of_wpF (pl := pl188) mixed Try.func188 body188 (by kernel_rfl) (of_decide_eq_true (by kernel_rfl)) (by kernel_rfl) (by kernel_rfl) (same188 v0 v1 k w ▸ h)

end Go.Proofs.Ytiohaeckagjebaa

/- Contracts: rules of a nonterminal, lists in order, the least tree with the least cost (the reference). -/
set_option linter.unusedVariables false
set_option linter.unusedSimpArgs false
set_option maxRecDepth 100000
namespace Go.Sh
open Go
def rulesOf (rs : List RuleL) (A : Nat) (n : Nat) : List Int := ((List.range n).filter fun q => decide ((rul rs q).1 = (A : Int))).map fun q : Nat => (q : Int)
theorem rulesOf_yes {rs : List RuleL} {A n : Nat} (h : (rul rs n).1 = (A : Int)) : rulesOf rs A (n + 1) = rulesOf rs A n ++ [(n : Int)] := by
  unfold rulesOf
  rw [List.range_succ, List.filter_append, List.map_append]
  simp [h]
theorem rulesOf_no {rs : List RuleL} {A n : Nat} (h : ¬ (rul rs n).1 = (A : Int)) : rulesOf rs A (n + 1) = rulesOf rs A n := by
  unfold rulesOf
  rw [List.range_succ, List.filter_append, List.map_append]
  simp [h]
theorem rulesOf_len (rs : List RuleL) (A n : Nat) : (rulesOf rs A n).length ≤ n := by
  unfold rulesOf
  rw [List.length_map]
  exact Nat.le_trans (List.length_filter_le _ _) (by simp)
theorem rulesOf_at {rs : List RuleL} {A n l : Nat} (h : l < (rulesOf rs A n).length) : ∃ q : Nat, (rulesOf rs A n).getD l 0 = (q : Int) ∧ q < n ∧ (rul rs q).1 = (A : Int) ∧ ((List.range n).filter fun q => decide ((rul rs q).1 = (A : Int)))[l]? = some q := by
  unfold rulesOf at h ⊢
  rw [List.length_map] at h
  have hm := List.getElem_mem h
  have := List.mem_filter.1 hm
  refine ⟨_, ?_, List.mem_range.1 this.1, of_decide_eq_true this.2, List.getElem?_eq_getElem h⟩
  rw [List.getD_eq_getElem?_getD, List.getElem?_map, List.getElem?_eq_getElem h]
  rfl
end Go.Sh
namespace Go.Proofs.Ytiohaeckagjebaa
open Go Go.Sh Go.RowKit
theorem l1Rules_c {F : Nat → Prop} {w : World} {v : Value} {gm : Gram} {A : Nat} (hv : GramV F w v gm) (hg : goodG gm = true) {k : Value → World → Prop}
    (hk : ∀ w' U d, Gr w w' → Own 3 w' w.heap.size U d (rulesOf gm.rules A gm.rules.length) → k (.slice U (rulesOf gm.rules A gm.rules.length).length d) w') :
    CallK Try.prog 165 [v, .int .i64 A] k w := by
  obtain ⟨Y, cy, rfl, hc, hy⟩ := hv
  have hr16 := good_len hg
  have hn6 := good_nons hg
  refine enter165 ?_
  unfold S165
  have H := Apt.nil w
  refine boxH H fun b1 w1 H => ?_
  simp only [bin_add, bin_sub, bin_mul, bin_eql, bin_neq, bin_lss, bin_leq, bin_gtr, bin_geq, un_not, un_neg, pick_true, pick_false, extract_two_0, extract_two_1, nilCheck_pointer, cond_true', cond_false', guard_tt, guard_ff, guard_tf, guard_ft, guard_undef, seqQ_normal, seqQ_ret, seqQ_exit, blockQ_ret, blockQ_normal, blockQ_exit, bodyQ_ret, bodyQ_normal, resK_nil, resK_tmp, ite_T, ite_F, upd_at, add_plain, add_zero', len22, len35, len48, fa37_0, fa37_1, fa37_2, fa77_0, fa77_1, fa103_0, fa103_1, fa125_0, fa125_1, fa125_2, fa125_3, fa125_4, Nat.reduceEqDiff]
  rw [ldB35 (H.box 0 rfl) rfl]
  simp only [bin_add, bin_sub, bin_mul, bin_eql, bin_neq, bin_lss, bin_leq, bin_gtr, bin_geq, un_not, un_neg, pick_true, pick_false, extract_two_0, extract_two_1, nilCheck_pointer, cond_true', cond_false', guard_tt, guard_ff, guard_tf, guard_ft, guard_undef, seqQ_normal, seqQ_ret, seqQ_exit, blockQ_ret, blockQ_normal, blockQ_exit, bodyQ_ret, bodyQ_normal, resK_nil, resK_tmp, ite_T, ite_F, upd_at, add_plain, add_zero', len22, len35, len48, fa37_0, fa37_1, fa37_2, fa77_0, fa77_1, fa103_0, fa103_1, fa125_0, fa125_1, fa125_2, fa125_3, fa125_4, Nat.reduceEqDiff]
  have H := H.addOwn (Gr.refl w1) (show Own 3 w1 w1.heap.size none 0 [] from Row.nil _ _ _ _)
  simp only [List.nil_append, List.cons_append] at H
  refine loop_to gm.rules.length 0 (fun q f w' => q ≤ gm.rules.length ∧ f 11 = .int .i64 q ∧ ∃ U d, f 5 = .slice U (rulesOf gm.rules A q).length d ∧ Apt w w' [bx b1 [.int .i64 gm.nons, .int .i64 gm.toks, .slice Y gm.rules.length cy] 37, ows U d (rulesOf gm.rules A q)])
    ⟨Nat.zero_le _, rfl, none, 0, rfl, H⟩ ?_
  clear H
  rintro q f w2 N hag ⟨hq, h11, U, d, h5, H⟩ hN
  have f9 : f 9 = .slice Y gm.rules.length cy := hag 9 (by decide)
  have f10 : f 10 = .int .i64 gm.rules.length := hag 10 (by decide)
  have f1 : f 1 = .int .i64 A := hag 1 (by decide)
  simp only [f9, f10, f1, h11, h5, bin_add, bin_sub, bin_mul, bin_eql, bin_neq, bin_lss, bin_leq, bin_gtr, bin_geq, un_not, un_neg, pick_true, pick_false, extract_two_0, extract_two_1, nilCheck_pointer, cond_true', cond_false', guard_tt, guard_ff, guard_tf, guard_ft, guard_undef, seqQ_normal, seqQ_ret, seqQ_exit, blockQ_ret, blockQ_normal, blockQ_exit, bodyQ_ret, bodyQ_normal, resK_nil, resK_tmp, ite_T, ite_F, upd_at, add_plain, add_zero', len22, len35, len48, fa37_0, fa37_1, fa37_2, fa77_0, fa77_1, fa103_0, fa103_1, fa125_0, fa125_1, fa125_2, fa125_3, fa125_4, Nat.reduceEqDiff]
  by_cases hlq : q < gm.rules.length
  case neg =>
    simp only [show ¬ ((q : Int) < gm.rules.length) from by omega, decide_false, go_sem, Nat.reduceEqDiff]
    obtain rfl : q = gm.rules.length := by omega
    exact hk _ U d H.gr (H.own 1 rfl)
  simp only [show ((q : Int) < gm.rules.length) from by omega, decide_true, bin_add, bin_sub, bin_mul, bin_eql, bin_neq, bin_lss, bin_leq, bin_gtr, bin_geq, un_not, un_neg, pick_true, pick_false, extract_two_0, extract_two_1, nilCheck_pointer, cond_true', cond_false', guard_tt, guard_ff, guard_tf, guard_ft, guard_undef, seqQ_normal, seqQ_ret, seqQ_exit, blockQ_ret, blockQ_normal, blockQ_exit, bodyQ_ret, bodyQ_normal, resK_nil, resK_tmp, ite_T, ite_F, upd_at, add_plain, add_zero', len22, len35, len48, fa37_0, fa37_1, fa37_2, fa77_0, fa77_1, fa103_0, fa103_1, fa125_0, fa125_1, fa125_2, fa125_3, fa125_4, Nat.reduceEqDiff]
  obtain ⟨Z, cz, t1, t2, t3, t4⟩ := hy.row q hlq
  have hleft := good_left hg hlq
  obtain ⟨xl, hxl⟩ : ∃ x : Nat, (rul gm.rules q).1 = x := ⟨(rul gm.rules q).1.toNat, by omega⟩
  rw [hxl] at t1
  refine join_as (fun g w' => g 11 = .int .i64 (q : Int) ∧ ∃ U d, g 5 = .slice U (rulesOf gm.rules A (q + 1)).length d ∧ Apt w w' [bx b1 [.int .i64 gm.nons, .int .i64 gm.toks, .slice Y gm.rules.length cy] 37, ows U d (rulesOf gm.rules A (q + 1))]) (fun K hK => ?_) ?_
  case refine_2 =>
    rintro g w' ⟨g11, U, d, g5, H⟩
    simp only [g11, go_sem, Nat.reduceEqDiff]
    rw [i64_of (by omega) (by omega)]
    exact hN _ _ hlq ⟨hlq, rfl, U, d, g5, H⟩
  refine rdi (ixn35 hy.ptr hlq) ?_
  rw [ld_agg agg77 sz77 (cs := [.int .i64 xl, .slice Z (rul gm.rules q).2.length cz]) rfl (fun j hj => by
    match j, hj with
    | 0, _ => rw [add_add, Nat.add_zero]; exact H.gr.cell t1
    | 1, _ => rw [add_add]; exact H.gr.cell t2)]
  refine allocH H inf77 fun b3 w8 H => ?_
  refine storeH H 2 rfl sz77 rfl rfl rfl fun w9 H => ?_
  simp only [List.nil_append, List.cons_append, List.set_cons_zero, List.set_cons_succ] at H
  simp only [bin_add, bin_sub, bin_mul, bin_eql, bin_neq, bin_lss, bin_leq, bin_gtr, bin_geq, un_not, un_neg, pick_true, pick_false, extract_two_0, extract_two_1, nilCheck_pointer, cond_true', cond_false', guard_tt, guard_ff, guard_tf, guard_ft, guard_undef, seqQ_normal, seqQ_ret, seqQ_exit, blockQ_ret, blockQ_normal, blockQ_exit, bodyQ_ret, bodyQ_normal, resK_nil, resK_tmp, ite_T, ite_F, upd_at, add_plain, add_zero', len22, len35, len48, fa37_0, fa37_1, fa37_2, fa77_0, fa77_1, fa103_0, fa103_1, fa125_0, fa125_1, fa125_2, fa125_3, fa125_4, Nat.reduceEqDiff]
  rw [ldB3 (H.box 2 rfl) rfl]
  have H := H.take 2
  simp only [bin_add, bin_sub, bin_mul, bin_eql, bin_neq, bin_lss, bin_leq, bin_gtr, bin_geq, un_not, un_neg, pick_true, pick_false, extract_two_0, extract_two_1, nilCheck_pointer, cond_true', cond_false', guard_tt, guard_ff, guard_tf, guard_ft, guard_undef, seqQ_normal, seqQ_ret, seqQ_exit, blockQ_ret, blockQ_normal, blockQ_exit, bodyQ_ret, bodyQ_normal, resK_nil, resK_tmp, ite_T, ite_F, upd_at, add_plain, add_zero', len22, len35, len48, fa37_0, fa37_1, fa37_2, fa77_0, fa77_1, fa103_0, fa103_1, fa125_0, fa125_1, fa125_2, fa125_3, fa125_4, Nat.reduceEqDiff]
  have hln := rulesOf_len gm.rules A q
  by_cases hA : xl = A
  · simp only [show ((xl : Int) = (A : Int)) from by omega, decide_true, bin_add, bin_sub, bin_mul, bin_eql, bin_neq, bin_lss, bin_leq, bin_gtr, bin_geq, un_not, un_neg, pick_true, pick_false, extract_two_0, extract_two_1, nilCheck_pointer, cond_true', cond_false', guard_tt, guard_ff, guard_tf, guard_ft, guard_undef, seqQ_normal, seqQ_ret, seqQ_exit, blockQ_ret, blockQ_normal, blockQ_exit, bodyQ_ret, bodyQ_normal, resK_nil, resK_tmp, ite_T, ite_F, upd_at, add_plain, add_zero', len22, len35, len48, fa37_0, fa37_1, fa37_2, fa77_0, fa77_1, fa103_0, fa103_1, fa125_0, fa125_1, fa125_2, fa125_3, fa125_4, Nat.reduceEqDiff]
    refine pushH H 1 rfl rfl (by omega) fun t1 U1 d1 w10 H => ?_
    have e := rulesOf_yes (rs := gm.rules) (A := A) (n := q) (by omega)
    exact hK _ _ ⟨h11, U1, d1, by rw [e]; rfl, by rw [e]; exact H⟩
  · simp only [show ¬ ((xl : Int) = (A : Int)) from by omega, decide_false, bin_add, bin_sub, bin_mul, bin_eql, bin_neq, bin_lss, bin_leq, bin_gtr, bin_geq, un_not, un_neg, pick_true, pick_false, extract_two_0, extract_two_1, nilCheck_pointer, cond_true', cond_false', guard_tt, guard_ff, guard_tf, guard_ft, guard_undef, seqQ_normal, seqQ_ret, seqQ_exit, blockQ_ret, blockQ_normal, blockQ_exit, bodyQ_ret, bodyQ_normal, resK_nil, resK_tmp, ite_T, ite_F, upd_at, add_plain, add_zero', len22, len35, len48, fa37_0, fa37_1, fa37_2, fa77_0, fa77_1, fa103_0, fa103_1, fa125_0, fa125_1, fa125_2, fa125_3, fa125_4, Nat.reduceEqDiff]
    have e := rulesOf_no (rs := gm.rules) (A := A) (n := q) (by omega)
    exact hK _ _ ⟨h11, U, d, by rw [e]; exact h5, by rw [e]; exact H⟩
theorem l11Less_c {w : World} {X Y : Option Addr} {c d n m : Nat} {a b : List Int} (hX : Ints w X a) (hY : Ints w Y b) (hn : n = a.length) (hm : m = b.length) {k : Value → World → Prop} (hk : ∀ w', Gr w w' → k (.bool (decide (cmpL a b < 0))) w') :
    CallK Try.prog 188 [.slice X n c, .slice Y m d] k w := by
  subst hn hm
  refine enter188 ?_
  unfold S188
  have hle := hX.le
  simp only [go_sem, Nat.reduceEqDiff]
  refine loop_to a.length 0 (fun i f w' => i ≤ a.length ∧ i ≤ b.length ∧ f 8 = .int .i64 i ∧ Gr w w' ∧ cmpL a b = cmpL (a.drop i) (b.drop i)) ⟨Nat.zero_le _, Nat.zero_le _, rfl, Gr.refl _, by simp⟩ ?_
  rintro i f w1 N hag ⟨hi, hib, h8, gw, hE⟩ hN
  have f0 : f 0 = .slice X a.length c := hag 0 (by decide)
  have f1 : f 1 = .slice Y b.length d := hag 1 (by decide)
  have f7 : f 7 = .int .i64 a.length := hag 7 (by decide)
  simp only [f0, f1, f7, h8, go_sem, Nat.reduceEqDiff]
  by_cases hlt : i < a.length
  case neg =>
    simp only [show ¬ ((i : Int) < a.length) from by omega, decide_false, go_sem, Nat.reduceEqDiff]
    have := hk _ gw
    by_cases hb : a.length < b.length
    · rw [cmpL_left (by omega) (by omega)] at hE
      rw [hE] at this
      rw [decide_eq_true (show (a.length : Int) < (b.length : Int) by omega)]
      exact this
    · rw [cmpL_none (by omega) (by omega)] at hE
      rw [hE] at this
      rw [decide_eq_false (show ¬ (a.length : Int) < (b.length : Int) by omega)]
      exact this
  simp only [show ((i : Int) < a.length) from by omega, decide_true, go_sem, Nat.reduceEqDiff]
  have g1 := gr_trans gw (gr_drew w1)
  have g2 := gr_trans g1 (gr_drew w1.drew)
  by_cases hb : i < b.length
  case neg =>
    simp only [show ((b.length : Int) ≤ i) from by omega, show ¬ ((i : Int) < b.length) from by omega, decide_true, decide_false, go_sem, Nat.reduceEqDiff]
    rw [cmpL_right hlt (by omega)] at hE
    have := hk _ g2
    rw [hE] at this
    exact this
  simp only [show ¬ ((b.length : Int) ≤ i) from by omega, decide_false, go_sem, Nat.reduceEqDiff]
  refine rdi (ixn22 hX.ptr hlt) (rdi (ld3 ((hX.gr g1).cell i hlt)) ?_)
  refine rdi (ixn22 hY.ptr hb) (rdi (ld3 ((hY.gr g1).cell i hb)) ?_)
  simp only [go_sem, Nat.reduceEqDiff]
  rw [cmpL_drop hlt hb] at hE
  by_cases e : a.getD i 0 = b.getD i 0
  · simp only [e, decide_true, Bool.not_true, go_sem, Nat.reduceEqDiff]
    rw [i64_of (by omega) (by omega)]
    rw [if_neg (fun h => h (cmpI_eq.2 e))] at hE
    exact hN _ _ hlt ⟨by omega, by omega, rfl, g1, hE⟩
  · simp only [e, show ((i : Int) < b.length) from by omega, decide_true, decide_false, Bool.not_false, go_sem, Nat.reduceEqDiff]
    refine rdi (ixn22 hX.ptr hlt) (rdi (ld3 ((hX.gr g2).cell i hlt)) ?_)
    refine rdi (ixn22 hY.ptr hb) (rdi (ld3 ((hY.gr g2).cell i hb)) ?_)
    simp only [go_sem, Nat.reduceEqDiff]
    rw [if_pos (fun h => e (cmpI_eq.1 h))] at hE
    have := hk _ g2
    rw [hE] at this
    rw [show decide (a.getD i 0 < b.getD i 0) = decide (cmpI (a.getD i 0) (b.getD i 0) < 0) from by rw [decide_eq_decide, cmpI_lt]]
    exact this
end Go.Proofs.Ytiohaeckagjebaa

/- The first of rising lists: the plain law. -/
set_option linter.unusedVariables false
set_option linter.unusedSimpArgs false
set_option maxRecDepth 100000
namespace Go.Sh
open Go
def ltL (a b : List Int) : Prop := cmpL a b < 0
theorem cmpI_anti (x y : Int) : cmpI y x = - cmpI x y := by
  unfold cmpI
  by_cases h1 : x < y
  · rw [if_pos h1, if_neg (by omega), if_pos h1]
    rfl
  · by_cases h2 : y < x
    · rw [if_pos h2, if_neg h1, if_pos h2]
    · rw [if_neg h2, if_neg h1, if_neg h1, if_neg h2]
      rfl
theorem cmpL_anti : ∀ a b : List Int, cmpL b a = - cmpL a b := by
  intro a
  induction a with
  | nil => intro b; cases b <;> rfl
  | cons x a ih =>
    intro b
    cases b with
    | nil => rfl
    | cons y b =>
      rw [cmpL, cmpL, cmpI_anti x y]
      by_cases h : cmpI x y = 0
      · rw [if_neg (fun e => e (by omega)), if_neg (fun e => e h)]
        exact ih b
      · rw [if_pos h, if_pos (by omega)]
theorem cmpL_zero : ∀ {a b : List Int}, cmpL a b = 0 → a = b := by
  intro a
  induction a with
  | nil => intro b h; cases b with
    | nil => rfl
    | cons y b => cases h
  | cons x a ih =>
    intro b h
    cases b with
    | nil => cases h
    | cons y b =>
      rw [cmpL] at h
      by_cases e : cmpI x y = 0
      · rw [if_neg (fun h => h e)] at h
        rw [cmpI_eq.1 e, ih h]
      · rw [if_pos e] at h
        exact absurd h e
theorem ltL_irrefl (a : List Int) : ¬ ltL a a := by
  intro h
  have := cmpL_anti a a
  unfold ltL at h
  omega
theorem ltL_tri (a b : List Int) : ltL a b ∨ a = b ∨ ltL b a := by
  unfold ltL
  have := cmpL_anti a b
  by_cases h : cmpL a b = 0
  · exact .inr (.inl (cmpL_zero h))
  · omega
theorem ltL_cons {x y : Int} {a b : List Int} : ltL (x :: a) (y :: b) ↔ x < y ∨ (x = y ∧ ltL a b) := by
  unfold ltL
  rw [cmpL]
  by_cases e : cmpI x y = 0
  · rw [if_neg (fun h => h e)]
    have := cmpI_eq.1 e
    omega
  · rw [if_pos e, cmpI_lt]
    have : ¬ x = y := fun h => e (cmpI_eq.2 h)
    omega
theorem ltL_trans : ∀ {a b c : List Int}, ltL a b → ltL b c → ltL a c := by
  intro a
  induction a with
  | nil =>
    intro b c h1 h2
    cases c with
    | nil =>
      cases b with
      | nil => exact h2
      | cons y b => exact absurd h2 (by unfold ltL; show ¬ ((1 : Int) < 0); omega)
    | cons z c => show (-1 : Int) < 0; omega
  | cons x a ih =>
    intro b c h1 h2
    cases b with
    | nil => exact absurd h1 (by unfold ltL; show ¬ ((1 : Int) < 0); omega)
    | cons y b =>
      cases c with
      | nil => exact absurd h2 (by unfold ltL; show ¬ ((1 : Int) < 0); omega)
      | cons z c =>
        rw [ltL_cons] at h1 h2 ⊢
        rcases h1 with h1 | ⟨h1, h1'⟩
        · rcases h2 with h2 | ⟨h2, h2'⟩
          · exact .inl (by omega)
          · exact .inl (by omega)
        · rcases h2 with h2 | ⟨h2, h2'⟩
          · exact .inl (by omega)
          · exact .inr ⟨by omega, ih h1' h2'⟩
theorem ltL_app : ∀ {a b c : List Int}, ltL b c → ltL (a ++ b) (a ++ c) := by
  intro a
  induction a with
  | nil => intro b c h; exact h
  | cons x a ih =>
    intro b c h
    rw [List.cons_append, List.cons_append, ltL_cons]
    exact .inr ⟨rfl, ih h⟩
theorem ltL_pre : ∀ {a b c d : List Int}, ltL a b → (∀ u, b ≠ a ++ u) → ltL (a ++ c) (b ++ d) := by
  intro a
  induction a with
  | nil => intro b c d _ h; exact absurd rfl (h b)
  | cons x a ih =>
    intro b c d h1 h2
    cases b with
    | nil => exact absurd h1 (by unfold ltL; show ¬ ((1 : Int) < 0); omega)
    | cons y b =>
      rw [ltL_cons] at h1
      rw [List.cons_append, List.cons_append, ltL_cons]
      rcases h1 with h1 | ⟨h1, h3⟩
      · exact .inl h1
      · subst h1
        exact .inr ⟨rfl, ih h3 fun u e => h2 u (by rw [e]; rfl)⟩
/-- Rising. -/
abbrev Rise (l : List (List Int)) : Prop := l.Pairwise ltL
theorem rise_sub : ∀ {l' l : List (List Int)}, Rise l → Rise l' → (∀ x ∈ l, x ∈ l') → l.Sublist l' := by
  intro l'
  induction l' with
  | nil =>
    intro l _ _ h
    cases l with
    | nil => exact List.Sublist.slnil
    | cons a l => exact absurd (h a (List.mem_cons_self ..)) (by simp)
  | cons b s ih =>
    intro l hl hl' h
    cases l with
    | nil => exact List.nil_sublist _
    | cons a t =>
      have hl1 := List.pairwise_cons.1 hl
      have hl2 := List.pairwise_cons.1 hl'
      rcases List.mem_cons.1 (h a (List.mem_cons_self ..)) with e | e
      · subst e
        refine List.Sublist.cons_cons _ (ih hl1.2 hl2.2 fun x hx => ?_)
        rcases List.mem_cons.1 (h x (List.mem_cons_of_mem _ hx)) with e | e
        · subst e
          exact absurd (hl1.1 _ hx) (ltL_irrefl _)
        · exact e
      · refine List.Sublist.cons _ (ih hl hl2.2 fun x hx => ?_)
        rcases List.mem_cons.1 (h x hx) with e' | e'
        · subst e'
          rcases List.mem_cons.1 hx with e2 | e2
          · subst e2
            exact e
          · exact absurd (ltL_trans (hl1.1 _ e2) (hl2.1 _ e)) (ltL_irrefl _)
        · exact e'
/-- The first M lists of a set, rising. -/
structure Firsts (M : Nat) (S : List Int → Prop) (l : List (List Int)) : Prop where
  rise : Rise l
  mem : ∀ x ∈ l, S x
  len : l.length ≤ M
  all : ∀ x, S x → x ∈ l ∨ (l.length = M ∧ ∀ y ∈ l, ltL y x)
theorem Firsts.sub {M : Nat} {S : List Int → Prop} {l l' : List (List Int)} (h : Firsts M S l) (h' : Firsts M S l') : ∀ x ∈ l, x ∈ l' := by
  intro x hx
  rcases h'.all x (h.mem x hx) with e | ⟨e1, e2⟩
  · exact e
  · exfalso
    have hs : l'.Sublist l := rise_sub h'.rise h.rise fun y hy => by
      rcases h.all y (h'.mem y hy) with e | ⟨_, e3⟩
      · exact e
      · exact absurd (ltL_trans (e2 y hy) (e3 x hx)) (ltL_irrefl _)
    have := hs.eq_of_length_le (by rw [e1]; exact h.len)
    subst this
    exact ltL_irrefl _ (e2 x hx)
theorem Firsts.uniq {M : Nat} {S : List Int → Prop} {l l' : List (List Int)} (h : Firsts M S l) (h' : Firsts M S l') : l = l' :=
  (rise_sub h.rise h'.rise (h.sub h')).eq_of_length_le (rise_sub h'.rise h.rise (h'.sub h)).length_le
theorem Firsts.nil (M : Nat) {S : List Int → Prop} (h : ∀ x, ¬ S x) : Firsts M S [] := ⟨List.Pairwise.nil, fun x hx => by simp at hx, Nat.zero_le _, fun x hx => absurd hx (h x)⟩
theorem Firsts.zero (S : List Int → Prop) : Firsts 0 S [] := ⟨List.Pairwise.nil, fun x hx => by simp at hx, Nat.zero_le _, fun x hx => .inr ⟨rfl, fun y hy => by simp at hy⟩⟩
theorem Firsts.congr {M : Nat} {S S' : List Int → Prop} {l : List (List Int)} (h : Firsts M S l) (e : ∀ x, S' x ↔ S x) : Firsts M S' l := ⟨h.rise, fun x hx => (e x).2 (h.mem x hx), h.len, fun x hx => h.all x ((e x).1 hx)⟩
/-- M of S that are less than x. -/
def Under (M : Nat) (S : List Int → Prop) (x : List Int) : Prop := ∃ ys, Rise ys ∧ ys.length = M ∧ ∀ y ∈ ys, S y ∧ ltL y x
theorem Firsts.more {M : Nat} {S S' : List Int → Prop} {l : List (List Int)} (h : Firsts M S l) (h1 : ∀ x, S x → S' x) (h2 : ∀ x, S' x → S x ∨ Under M S x) : Firsts M S' l := by
  refine ⟨h.rise, fun x hx => h1 x (h.mem x hx), h.len, fun x hx => ?_⟩
  rcases h2 x hx with e | ⟨ys, hy1, hy2, hy3⟩
  · exact h.all x e
  by_cases hxl : x ∈ l
  · exact .inl hxl
  have key : ∀ z ∈ l, ltL z x := fun z hz => by
    rcases ltL_tri z x with e | e | e
    · exact e
    · subst e
      exact absurd hz hxl
    · exfalso
      have hs : ys.Sublist l := rise_sub hy1 h.rise fun y hy => by
        rcases h.all y (hy3 y hy).1 with e1 | ⟨_, e1⟩
        · exact e1
        · exact absurd (ltL_trans (e1 z hz) (ltL_trans (hy3 y hy).2 e)) (ltL_irrefl _)
      have := hs.eq_of_length_le (by rw [hy2]; exact h.len)
      subst this
      exact absurd (ltL_trans (hy3 z hz).2 e) (ltL_irrefl _)
  refine .inr ⟨?_, key⟩
  by_cases hlt : l.length = M
  · exact hlt
  · exfalso
    have hs : ys.Sublist l := rise_sub hy1 h.rise fun y hy => by
      rcases h.all y (hy3 y hy).1 with e1 | ⟨e1, _⟩
      · exact e1
      · exact absurd e1 hlt
    have := hs.length_le
    have := h.len
    omega
theorem Firsts.of_rise (M : Nat) {l : List (List Int)} (h : Rise l) : Firsts M (fun x => x ∈ l) (l.take M) := by
  refine ⟨h.sublist (List.take_sublist _ _), fun x hx => (List.take_sublist _ _).subset hx, by rw [List.length_take]; omega, fun x hx => ?_⟩
  rw [← List.take_append_drop M l] at hx
  rcases List.mem_append.1 hx with e | e
  · exact .inl e
  · refine .inr ⟨?_, fun y hy => ?_⟩
    · rw [List.length_take]
      have : 0 < (l.drop M).length := List.length_pos_of_mem e
      rw [List.length_drop] at this
      omega
    · have h' := h
      rw [← List.take_append_drop M l] at h'
      exact (List.pairwise_append.1 h').2.2 y hy x e
theorem Firsts.take {M m : Nat} {S : List Int → Prop} {l : List (List Int)} (h : Firsts M S l) (hm : m ≤ M) : Firsts m S (l.take m) := by
  refine (Firsts.of_rise m h.rise).more h.mem fun x hx => ?_
  rcases h.all x hx with e | ⟨e1, e2⟩
  · exact .inl e
  · refine .inr ⟨l.take m, h.rise.sublist (List.take_sublist _ _), by rw [List.length_take]; omega, fun y hy => ?_⟩
    have := (List.take_sublist _ _).subset hy
    exact ⟨this, e2 y this⟩
/-- One more comes. -/
theorem Firsts.add {M : Nat} {S : List Int → Prop} {pre post : List (List Int)} {x : List Int} (h : Firsts M S (pre ++ post)) (h1 : ∀ y ∈ pre, ltL y x) (h2 : ∀ y ∈ post, ltL x y) : Firsts M (fun z => S z ∨ z = x) (if M ≤ pre.length then pre ++ post else (pre ++ x :: post).take M) := by
  have hr : Rise (pre ++ x :: post) := by
    have := List.pairwise_append.1 h.rise
    refine List.pairwise_append.2 ⟨this.1, List.pairwise_cons.2 ⟨h2, this.2.1⟩, fun a ha b hb => ?_⟩
    rcases List.mem_cons.1 hb with e | e
    · subst e
      exact h1 a ha
    · exact this.2.2 a ha b e
  have hlen := h.len
  rw [List.length_append] at hlen
  have hf := Firsts.of_rise M hr
  have he : (pre ++ x :: post).take M = if M ≤ pre.length then pre ++ post else (pre ++ x :: post).take M := by
    split
    · rw [List.take_append_of_le_length (by omega), List.take_of_length_le (by omega)]
      have : post = [] := List.eq_nil_of_length_eq_zero (by omega)
      rw [this, List.append_nil]
    · rfl
  rw [← he]
  refine hf.more (fun z hz => ?_) fun z hz => ?_
  · rcases List.mem_append.1 hz with e | e
    · exact .inl (h.mem z (List.mem_append_left _ e))
    · rcases List.mem_cons.1 e with e | e
      · exact .inr e
      · exact .inl (h.mem z (List.mem_append_right _ e))
  · have hsub : ∀ y ∈ pre ++ post, y ∈ pre ++ x :: post := fun y hy => by
      rcases List.mem_append.1 hy with e | e
      · exact List.mem_append_left _ e
      · exact List.mem_append_right _ (List.mem_cons_of_mem _ e)
    rcases hz with hz | hz
    · rcases h.all z hz with e | ⟨e1, e2⟩
      · exact .inl (hsub z e)
      · exact .inr ⟨pre ++ post, h.rise, e1, fun y hy => ⟨hsub y hy, e2 y hy⟩⟩
    · subst hz
      exact .inl (List.mem_append_right _ (List.mem_cons_self ..))
/-- Others come behind. -/
theorem Firsts.append {M : Nat} {S S' : List Int → Prop} {l l' : List (List Int)} (h : Firsts M S l) (h' : Firsts (M - l.length) S' l') (hl : ∀ x y, S x → S' y → ltL x y) : Firsts M (fun z => S z ∨ S' z) (l ++ l') := by
  have h1 := h.len
  have h2 := h'.len
  refine ⟨List.pairwise_append.2 ⟨h.rise, h'.rise, fun a ha b hb => hl a b (h.mem a ha) (h'.mem b hb)⟩, fun x hx => ?_, by rw [List.length_append]; omega, fun x hx => ?_⟩
  · rcases List.mem_append.1 hx with e | e
    · exact .inl (h.mem x e)
    · exact .inr (h'.mem x e)
  · rcases hx with hx | hx
    · rcases h.all x hx with e | ⟨e1, e2⟩
      · exact .inl (List.mem_append_left _ e)
      · have : l' = [] := List.eq_nil_of_length_eq_zero (by omega)
        subst this
        rw [List.append_nil]
        exact .inr ⟨e1, e2⟩
    · rcases h'.all x hx with e | ⟨e1, e2⟩
      · exact .inl (List.mem_append_right _ e)
      · refine .inr ⟨by rw [List.length_append]; omega, fun y hy => ?_⟩
        rcases List.mem_append.1 hy with e | e
        · exact hl y x (h.mem y e) hx
        · exact e2 y e
theorem Firsts.map {M : Nat} {S : List Int → Prop} {l : List (List Int)} (h : Firsts M S l) (q : Int) : Firsts M (fun t => ∃ r, S r ∧ t = q :: r) (l.map (q :: ·)) := by
  refine ⟨List.pairwise_map.2 (h.rise.imp fun e => ltL_cons.2 (.inr ⟨rfl, e⟩)), fun x hx => ?_, by rw [List.length_map]; exact h.len, fun x hx => ?_⟩
  · obtain ⟨r, hr, rfl⟩ := List.mem_map.1 hx
    exact ⟨r, h.mem r hr, rfl⟩
  · obtain ⟨r, hr, rfl⟩ := hx
    rcases h.all r hr with e | ⟨e1, e2⟩
    · exact .inl (List.mem_map.2 ⟨r, e, rfl⟩)
    · refine .inr ⟨by rw [List.length_map]; exact e1, fun y hy => ?_⟩
      obtain ⟨y', hy', rfl⟩ := List.mem_map.1 hy
      exact ltL_cons.2 (.inr ⟨rfl, e2 y' hy'⟩)
/-- What is sorted and cut. -/
theorem rise_of_sorted : ∀ {l : List (List Int)}, l.Pairwise (fun a b => ¬ ltL b a) → l.Nodup → Rise l := by
  intro l
  induction l with
  | nil => intro _ _; exact List.Pairwise.nil
  | cons a l ih =>
    intro h hn
    have h1 := List.pairwise_cons.1 h
    have h2 := List.nodup_cons.1 hn
    refine List.pairwise_cons.2 ⟨fun b hb => ?_, ih h1.2 h2.2⟩
    rcases ltL_tri a b with e | e | e
    · exact e
    · subst e
      exact absurd hb h2.1
    · exact absurd e (h1.1 b hb)
theorem Firsts.sorted {M : Nat} {S : List Int → Prop} {c d : List (List Int)} (hp : d.Perm c) (hs : d.Pairwise (fun a b => ¬ ltL b a)) (hn : c.Nodup) (h1 : ∀ x ∈ c, S x) (h2 : ∀ x, S x → x ∈ c ∨ Under M (fun y => y ∈ c) x) : Firsts M S (d.take M) := by
  have hr := rise_of_sorted hs (hp.nodup_iff.2 hn)
  refine ((Firsts.of_rise M hr).congr (S' := fun x => x ∈ c) fun x => (hp.mem_iff).symm).more h1 h2
/-! What two sets have together. -/
def PreFree (A : List Int → Prop) : Prop := ∀ a b u v, A a → A b → a ++ u = b ++ v → a = b
def ProdS (A B : List Int → Prop) (x : List Int) : Prop := ∃ a b, A a ∧ B b ∧ x = a ++ b
def prodL (F R : List (List Int)) : List (List Int) := F.flatMap fun a => R.map (a ++ ·)
theorem mem_prodL {F R : List (List Int)} {x : List Int} : x ∈ prodL F R ↔ ∃ a b, a ∈ F ∧ b ∈ R ∧ x = a ++ b := by
  unfold prodL
  simp only [List.mem_flatMap, List.mem_map]
  constructor
  · rintro ⟨a, ha, b, hb, rfl⟩
    exact ⟨a, b, ha, hb, rfl⟩
  · rintro ⟨a, b, ha, hb, rfl⟩
    exact ⟨a, ha, b, hb, rfl⟩
theorem pre_lt {A : List Int → Prop} (hA : PreFree A) {a b c d : List Int} (ha : A a) (hb : A b) (h : ltL a b) : ltL (a ++ c) (b ++ d) :=
  ltL_pre h fun u e => by
    have := hA a b u [] ha hb (by rw [List.append_nil]; exact e.symm)
    subst this
    exact ltL_irrefl _ h
theorem rise_prod {A : List Int → Prop} (hA : PreFree A) : ∀ {F R : List (List Int)}, Rise F → Rise R → (∀ a ∈ F, A a) → Rise (prodL F R) := by
  intro F
  induction F with
  | nil => intro R _ _ _; exact List.Pairwise.nil
  | cons a F ih =>
    intro R hF hR h
    have h1 := List.pairwise_cons.1 hF
    show Rise (R.map (a ++ ·) ++ prodL F R)
    refine List.pairwise_append.2 ⟨List.pairwise_map.2 (hR.imp fun e => ltL_app e), ih h1.2 hR fun b hb => h b (List.mem_cons_of_mem _ hb), fun x hx y hy => ?_⟩
    obtain ⟨b, hb, rfl⟩ := List.mem_map.1 hx
    obtain ⟨a', b', ha', hb', rfl⟩ := mem_prodL.1 hy
    exact pre_lt hA (h a (List.mem_cons_self ..)) (h a' (List.mem_cons_of_mem _ ha')) (h1.1 a' ha')
theorem prod_under {M : Nat} {A B : List Int → Prop} (hA : PreFree A) {F R : List (List Int)} (hF : Firsts M A F) (hR : Firsts M B R) {x : List Int} (hx : ProdS A B x) : x ∈ prodL F R ∨ Under M (fun y => y ∈ prodL F R) x := by
  obtain ⟨a, b, ha, hb, rfl⟩ := hx
  rcases hF.all a ha with e1 | ⟨e1, e2⟩
  · rcases hR.all b hb with e3 | ⟨e3, e4⟩
    · exact .inl (mem_prodL.2 ⟨a, b, e1, e3, rfl⟩)
    · refine .inr ⟨R.map (a ++ ·), List.pairwise_map.2 (hR.rise.imp fun e => ltL_app e), by rw [List.length_map]; exact e3, fun y hy => ?_⟩
      obtain ⟨r, hr, rfl⟩ := List.mem_map.1 hy
      exact ⟨mem_prodL.2 ⟨a, r, e1, hr, rfl⟩, ltL_app (e4 r hr)⟩
  · have hne : M = 0 ∨ ∃ r, r ∈ R := by
      rcases hR.all b hb with e3 | ⟨e3, e4⟩
      · exact .inr ⟨b, e3⟩
      · cases R with
        | nil => exact .inl (by simpa using e3.symm)
        | cons r R => exact .inr ⟨r, List.mem_cons_self ..⟩
    rcases hne with h0 | ⟨r, hr⟩
    · subst h0
      exact .inr ⟨[], List.Pairwise.nil, rfl, fun y hy => by simp at hy⟩
    · refine .inr ⟨F.map (· ++ r), ?_, by rw [List.length_map]; exact e1, fun y hy => ?_⟩
      · refine List.pairwise_map.2 (List.Pairwise.imp_of_mem (fun hf hg e => pre_lt hA (hF.mem _ hf) (hF.mem _ hg) e) hF.rise)
      · obtain ⟨f, hf, rfl⟩ := List.mem_map.1 hy
        exact ⟨mem_prodL.2 ⟨f, r, hf, hr, rfl⟩, pre_lt hA (hF.mem f hf) ha (e2 f hf)⟩
theorem prod_firsts {M : Nat} {A B : List Int → Prop} (hA : PreFree A) {F R : List (List Int)} (hF : Firsts M A F) (hR : Firsts M B R) : Firsts M (ProdS A B) ((prodL F R).take M) :=
  (Firsts.of_rise M (rise_prod hA hF.rise hR.rise hF.mem)).more (fun x hx => by
    obtain ⟨a, b, ha, hb, rfl⟩ := mem_prodL.1 hx
    exact ⟨a, b, hF.mem a ha, hR.mem b hb, rfl⟩) fun x hx => prod_under hA hF hR hx
end Go.Sh

/- Where there are trees there is a span; what the reference and the program reckon with, kept at most M. -/
set_option linter.unusedVariables false
set_option linter.unusedSimpArgs false
set_option maxRecDepth 100000
namespace Go.Sh
open Go
theorem Inc.still {α : Type} {f : TS → α → TS} : ∀ {l : List α} {s : TS}, (∀ a ∈ l, ∀ s, Inc s (f s a)) → s.2 = false → (l.foldl f s).2 = false → ∀ a ∈ l, f s a = s := by
  intro l
  induction l with
  | nil => intro s _ _ _ a ha; simp at ha
  | cons b l ih =>
    intro s h hs he a ha
    rw [List.foldl_cons] at he
    have hb : f s b = s := by
      rcases h b (List.mem_cons_self ..) s with e | ⟨e, _⟩
      · exact e
      · exfalso
        rcases Inc.fold (fun c hc => h c (List.mem_cons_of_mem _ hc)) (f s b) with e' | ⟨e', _⟩
        · rw [e', e] at he
          cases he
        · rw [e'] at he
          cases he
    rcases List.mem_cons.1 ha with rfl | ha
    · exact hb
    · rw [hb] at he
      exact ih (fun c hc => h c (List.mem_cons_of_mem _ hc)) hs he a ha
theorem pass_closed {rs : List (Int × List Int)} {w : List Int} {T : Tab} (hr : ∀ r ∈ rs, r.1.toNat < 6) (hw : w.length ≤ 10) (h : (passT rs w (T, false)).2 = false) {r : Int × List Int} (hm : r ∈ rs) {i j : Nat} (hij : i ≤ j) (hj : j ≤ w.length) (hf : fitsT T w r.2 i j = true) : T r.1.toNat i j = true := by
  have h1 := Inc.still (f := ruleT w) (fun r h s => ruleT_inc (hr r h) hw s) rfl h r hm
  have h2 := Inc.still (f := rowT w r) (l := List.range (w.length + 1)) (s := (T, false)) (fun i hi s => rowT_inc (hr r hm) hw (by have := List.mem_range.1 hi; omega) s) rfl (by
    show (ruleT w (T, false) r).2 = false
    rw [h1]) i (List.mem_range.2 (by omega))
  have h3 := Inc.still (f := stepT w r i) (l := List.range' i (w.length + 1 - i)) (s := (T, false)) (fun j hj s => by
    rw [List.mem_range'_1] at hj
    exact stepT_inc (hr r hm) (by omega) (by omega)) rfl (by
    show (rowT w r (T, false) i).2 = false
    rw [h2]) j (List.mem_range'_1.2 ⟨hij, by omega⟩)
  unfold stepT at h3
  cases hT : T r.1.toNat i j
  · rw [if_pos (by simp [hT, hf])] at h3
    have := congrArg Prod.snd h3
    cases this
  · rfl
theorem pass_same {rs : List (Int × List Int)} {w : List Int} {T : Tab} (hr : ∀ r ∈ rs, r.1.toNat < 6) (hw : w.length ≤ 10) (h : (passT rs w (T, false)).2 = false) : (passT rs w (T, false)).1 = T := by
  rcases passT_inc hr hw (T, false) with e | ⟨e, _⟩
  · rw [e]
  · rw [e] at h
    cases h
theorem span_closed {rs : List (Int × List Int)} {w : List Int} (hr : ∀ r ∈ rs, r.1.toNat < 6) (hw : w.length ≤ 10) {r : Int × List Int} (hm : r ∈ rs) {i j : Nat} (hij : i ≤ j) (hj : j ≤ w.length) (hf : fitsT (spanT rs w) w r.2 i j = true) : spanT rs w r.1.toNat i j = true := by
  obtain ⟨U, hU⟩ := Span.ex hr hw 726 noTab (by unfold openT; exact Nat.le_trans List.countP_le_length (by simp))
  rw [← hU.eq] at hf ⊢
  have key : ∀ {T U : Tab}, Span rs w T U → fitsT U w r.2 i j = true → U r.1.toNat i j = true := by
    intro T U h
    induction h with
    | done h1 =>
      intro hf
      rw [pass_same hr hw h1] at hf ⊢
      exact pass_closed hr hw h1 hm hij hj hf
    | more _ _ ih => exact ih
  exact key hU hf
theorem sumN_pos {f : Nat → Nat} : ∀ {n : Nat}, 0 < sumN f n → ∃ k, k < n ∧ 0 < f k := by
  intro n
  induction n with
  | zero => intro h; simp [sumN] at h
  | succ n ih =>
    intro h
    rw [sumN] at h
    by_cases h0 : 0 < f n
    · exact ⟨n, by omega, h0⟩
    · obtain ⟨k, hk, h1⟩ := ih (by omega)
      exact ⟨k, by omega, h1⟩
theorem sumR_snoc (rs : List RuleL) (r : RuleL) (p : RuleL → Nat) : sumR (rs ++ [r]) p = sumR rs p + p r := by
  unfold sumR
  rw [List.foldl_append]
  rfl
theorem sumR_pos {p : RuleL → Nat} : ∀ {rs : List RuleL} , 0 < sumR rs p → ∃ r ∈ rs, 0 < p r := by
  have key : ∀ (rs : List RuleL) (a : Nat), 0 < rs.foldl (fun a r => a + p r) a → 0 < a ∨ ∃ r ∈ rs, 0 < p r := by
    intro rs
    induction rs with
    | nil => intro a h; exact .inl h
    | cons r rs ih =>
      intro a h
      rw [List.foldl_cons] at h
      rcases ih _ h with h1 | ⟨q, hq, h1⟩
      · by_cases h0 : 0 < p r
        · exact .inr ⟨r, List.mem_cons_self .., h0⟩
        · exact .inl (by omega)
      · exact .inr ⟨q, List.mem_cons_of_mem _ hq, h1⟩
  intro rs h
  rcases key rs 0 h with h | h
  · omega
  · exact h
/-- Symbols that have trees fit. -/
theorem cntR_fits {c : Nat → Nat → Nat → Nat → Nat} {T : Tab} {ws : List Int} : ∀ {xs : List Int} {i j s : Nat}, j ≤ ws.length → (∀ A i j k, i ≤ j → j ≤ ws.length → k ≤ s → 0 < c A i j k → T A i j = true) → 0 < cntR c ws xs i j s → fitsT T ws xs i j = true := by
  intro xs
  induction xs with
  | nil =>
    intro i j s hj hc h
    rw [cntR] at h
    split at h
    · rename_i h1
      exact decide_eq_true h1.1
    · omega
  | cons x xs ih =>
    intro i j s hj hc h
    rw [cntR] at h
    by_cases hx : x < 0
    · rw [if_pos hx] at h
      split at h
      · rename_i h1
        rw [fits_tok hx, decide_eq_true h1.1, decide_eq_true h1.2, ih hj hc h]
        rfl
      · omega
    · rw [if_neg hx] at h
      obtain ⟨m, hm, h1⟩ := sumN_pos h
      obtain ⟨k, hk, h2⟩ := sumN_pos h1
      have h3 : 0 < c x.toNat i (i + m) (k + 1) := Nat.pos_of_ne_zero fun e => by rw [e, Nat.zero_mul] at h2; omega
      have h4 : 0 < cntR c ws xs (i + m) j (s - (k + 1)) := Nat.pos_of_ne_zero fun e => by rw [e, Nat.mul_zero] at h2; omega
      rw [fits_non hx]
      refine any_at (m := i + m) (by omega) (by omega) ?_
      rw [hc _ _ _ _ (by omega) (by omega) (by omega) h3, ih hj (fun A i j k' a b d e => hc A i j k' a b (by omega) e) h4]
      rfl
theorem cntC_span {rs : List RuleL} {ws : List Int} (hr : ∀ r ∈ rs, r.1.toNat < 6) (hw : ws.length ≤ 10) : ∀ {s A i j : Nat}, i ≤ j → j ≤ ws.length → 0 < cntC rs ws A i j s → spanT rs ws A i j = true := by
  intro s
  induction s using Nat.strongRecOn with
  | _ s ih =>
    intro A i j hij hj h
    cases s with
    | zero => rw [cntC_zero] at h; omega
    | succ s =>
      rw [cntC_succ] at h
      obtain ⟨r, hm, h1⟩ := sumR_pos h
      split at h1
      · rename_i h2
        have hf := cntR_fits (T := spanT rs ws) hj (fun A i j k a b d e => ih k (by omega) a b e) h1
        have := span_closed hr hw hm hij hj hf
        rwa [h2, Int.toNat_natCast] at this
      · omega
end Go.Sh

/- Trees of a size as lists of rules: each is read in one way alone, and they are counted. -/
set_option linter.unusedVariables false
set_option linter.unusedSimpArgs false
set_option maxRecDepth 100000
namespace Go.Sh
open Go
/-- Lists of rules: of a nonterminal (inl), of symbols (inr); between two places, of a size in all. -/
inductive Der (rs : List RuleL) (ws : List Int) : Nat ⊕ List Int → Nat → Nat → Nat → List Int → Prop
  | tree {A q i j s : Nat} {r : List Int} : q < rs.length → (rul rs q).1 = (A : Int) → Der rs ws (.inr (rul rs q).2) i j s r → Der rs ws (.inl A) i j (s + 1) ((q : Int) :: r)
  | nil {i : Nat} : Der rs ws (.inr []) i i 0 []
  | tok {x : Int} {xs : List Int} {i j s : Nat} {r : List Int} : x < 0 → i < j → ws.getD i 0 = -1 - x → Der rs ws (.inr xs) (i + 1) j s r → Der rs ws (.inr (x :: xs)) i j s r
  | non {x : Int} {xs : List Int} {i m j k s : Nat} {a b : List Int} : ¬ x < 0 → i ≤ m → m ≤ j → Der rs ws (.inl x.toNat) i m k a → Der rs ws (.inr xs) m j s b → Der rs ws (.inr (x :: xs)) i j (k + s) (a ++ b)
section
variable {rs : List RuleL} {ws : List Int}
theorem der_tree {A i j s : Nat} {t : List Int} : Der rs ws (.inl A) i j s t ↔ ∃ (q : Nat) (r : List Int) (s' : Nat), s = s' + 1 ∧ t = (q : Int) :: r ∧ q < rs.length ∧ (rul rs q).1 = (A : Int) ∧ Der rs ws (.inr (rul rs q).2) i j s' r := by
  constructor
  · intro h
    cases h with
    | tree h1 h2 h3 => exact ⟨_, _, _, rfl, rfl, h1, h2, h3⟩
  · rintro ⟨q, r, s', rfl, rfl, h1, h2, h3⟩
    exact .tree h1 h2 h3
theorem der_nil {i j s : Nat} {t : List Int} : Der rs ws (.inr []) i j s t ↔ i = j ∧ s = 0 ∧ t = [] := by
  constructor
  · intro h
    cases h
    exact ⟨rfl, rfl, rfl⟩
  · rintro ⟨rfl, rfl, rfl⟩
    exact .nil
theorem der_tok {x : Int} {xs : List Int} {i j s : Nat} {t : List Int} (hx : x < 0) : Der rs ws (.inr (x :: xs)) i j s t ↔ i < j ∧ ws.getD i 0 = -1 - x ∧ Der rs ws (.inr xs) (i + 1) j s t := by
  constructor
  · intro h
    cases h with
    | tok h1 h2 h3 h4 => exact ⟨h2, h3, h4⟩
    | non h1 => exact absurd hx h1
  · rintro ⟨h1, h2, h3⟩
    exact .tok hx h1 h2 h3
theorem der_non {x : Int} {xs : List Int} {i j s : Nat} {t : List Int} (hx : ¬ x < 0) : Der rs ws (.inr (x :: xs)) i j s t ↔ ∃ m k s' a b, i ≤ m ∧ m ≤ j ∧ s = k + s' ∧ t = a ++ b ∧ Der rs ws (.inl x.toNat) i m k a ∧ Der rs ws (.inr xs) m j s' b := by
  constructor
  · intro h
    cases h with
    | tok h1 => exact absurd h1 hx
    | non h1 h2 h3 h4 h5 => exact ⟨_, _, _, _, _, h2, h3, rfl, rfl, h4, h5⟩
  · rintro ⟨m, k, s', a, b, h2, h3, rfl, rfl, h4, h5⟩
    exact .non hx h2 h3 h4 h5
/-- Read in one way alone. -/
theorem der_one {c : Nat ⊕ List Int} {i j s : Nat} {t : List Int} (h : Der rs ws c i j s t) : ∀ {j' s' : Nat} {t' u u' : List Int}, Der rs ws c i j' s' t' → t ++ u = t' ++ u' → t = t' ∧ s = s' ∧ j = j' ∧ u = u' := by
  induction h with
  | tree h1 h2 h3 ih =>
    intro j' s' t' u u' h' e
    obtain ⟨q', r', s'', rfl, rfl, g1, g2, g3⟩ := der_tree.1 h'
    rw [List.cons_append, List.cons_append] at e
    obtain ⟨e1, e2⟩ := List.cons.inj e
    have e1 := Int.natCast_inj.1 e1
    subst e1
    obtain ⟨a1, a2, a3, a4⟩ := ih g3 e2
    exact ⟨by rw [a1], by rw [a2], a3, a4⟩
  | nil =>
    intro j' s' t' u u' h' e
    obtain ⟨rfl, rfl, rfl⟩ := der_nil.1 h'
    exact ⟨rfl, rfl, rfl, e⟩
  | tok h1 h2 h3 h4 ih =>
    intro j' s' t' u u' h' e
    obtain ⟨_, _, g⟩ := (der_tok h1).1 h'
    exact ih g e
  | non h1 h2 h3 h4 h5 ih1 ih2 =>
    intro j' s' t' u u' h' e
    obtain ⟨m', k', s'', a', b', g1, g2, rfl, rfl, g3, g4⟩ := (der_non h1).1 h'
    rw [List.append_assoc, List.append_assoc] at e
    obtain ⟨a1, a2, a3, a4⟩ := ih1 g3 e
    subst a1 a2 a3
    obtain ⟨b1, b2, b3, b4⟩ := ih2 g4 a4
    exact ⟨by rw [b1], by rw [b2], b3, b4⟩
theorem der_free {c : Nat ⊕ List Int} {i j s : Nat} : PreFree (Der rs ws c i j s) := fun a b u v ha hb e => (der_one ha hb e).1
theorem der_le {c : Nat ⊕ List Int} {i j s : Nat} {t : List Int} (h : Der rs ws c i j s t) : i ≤ j := by
  induction h with
  | tree _ _ _ ih => exact ih
  | nil => exact Nat.le_refl _
  | tok _ h2 _ _ ih => omega
  | non _ h2 h3 _ _ _ _ => omega
theorem der_len {c : Nat ⊕ List Int} {i j s : Nat} {t : List Int} (h : Der rs ws c i j s t) : t.length = s := by
  induction h with
  | tree _ _ _ ih => rw [List.length_cons, ih]
  | nil => rfl
  | tok _ _ _ _ ih => exact ih
  | non _ _ _ _ _ ih1 ih2 => rw [List.length_append, ih1, ih2]
theorem sumN_at {f : Nat → Nat} : ∀ {n k : Nat}, k < n → 0 < f k → 0 < sumN f n := by
  intro n
  induction n with
  | zero => intro k h; omega
  | succ n ih =>
    intro k h h1
    rw [sumN]
    by_cases e : k = n
    · subst e
      omega
    · have := ih (k := k) (by omega) h1
      omega
theorem sumR_at {p : RuleL → Nat} {rs : List RuleL} {r : RuleL} (hr : r ∈ rs) (h : 0 < p r) : 0 < sumR rs p := by
  have mono : ∀ (l : List RuleL) (a : Nat), a ≤ l.foldl (fun a r => a + p r) a := by
    intro l
    induction l with
    | nil => intro a; exact Nat.le_refl _
    | cons b l ih => intro a; exact Nat.le_trans (Nat.le_add_right a (p b)) (ih (a + p b))
  have key : ∀ (l : List RuleL) (a : Nat), r ∈ l → 0 < l.foldl (fun a r => a + p r) a := by
    intro l
    induction l with
    | nil => intro a h; simp at h
    | cons b l ih =>
      intro a hm
      rcases List.mem_cons.1 hm with e | e
      · subst e
        exact Nat.lt_of_lt_of_le (by omega) (mono l (a + p r))
      · exact ih (a + p b) e
  exact key rs 0 hr
def posD (rs : List RuleL) (ws : List Int) : Nat ⊕ List Int → Nat → Nat → Nat → Prop
  | .inl A, i, j, s => 0 < cntC rs ws A i j s
  | .inr xs, i, j, s => 0 < cntR (cntC rs ws) ws xs i j s
theorem der_posD {c : Nat ⊕ List Int} {i j s : Nat} {t : List Int} (h : Der rs ws c i j s t) : posD rs ws c i j s := by
  induction h with
  | tree h1 h2 h3 ih =>
    show 0 < cntC rs ws _ _ _ _
    rw [cntC_succ]
    refine sumR_at (r := rul rs _) (by rw [rul_eq h1]; exact List.getElem_mem h1) ?_
    rw [if_pos h2]
    exact ih
  | nil =>
    show 0 < cntR _ _ [] _ _ _
    rw [cntR, if_pos ⟨rfl, rfl⟩]
    omega
  | tok h1 h2 h3 h4 ih =>
    show 0 < cntR _ _ (_ :: _) _ _ _
    rw [cntR, if_pos h1, if_pos ⟨h2, h3⟩]
    exact ih
  | non h1 h2 h3 h4 h5 ih1 ih2 =>
    rename_i x xs i m j k s a b
    show 0 < cntR _ _ (x :: xs) _ _ _
    rw [cntR, if_neg h1]
    have hk : 0 < k := by
      obtain ⟨_, _, s', rfl, _⟩ := der_tree.1 h4
      omega
    refine sumN_at (k := m - i) (by omega) (sumN_at (k := k - 1) (by omega) ?_)
    rw [show i + (m - i) = m from by omega, show k - 1 + 1 = k from by omega, show k + s - k = s from by omega]
    exact Nat.mul_pos ih1 ih2
theorem der_posC {A i j s : Nat} {t : List Int} (h : Der rs ws (.inl A) i j s t) : 0 < cntC rs ws A i j s := der_posD h
theorem der_posR {xs : List Int} {i j s : Nat} {t : List Int} (h : Der rs ws (.inr xs) i j s t) : 0 < cntR (cntC rs ws) ws xs i j s := der_posD h
theorem der_span (hr : ∀ r ∈ rs, r.1.toNat < 6) (hw : ws.length ≤ 10) {A i j s : Nat} {t : List Int} (hj : j ≤ ws.length) (h : Der rs ws (.inl A) i j s t) : spanT rs ws A i j = true := cntC_span hr hw (der_le h) hj (der_posC h)
theorem der_fits (hr : ∀ r ∈ rs, r.1.toNat < 6) (hw : ws.length ≤ 10) {xs : List Int} {i j s : Nat} {t : List Int} (hj : j ≤ ws.length) (h : Der rs ws (.inr xs) i j s t) : fitsT (spanT rs ws) ws xs i j = true := cntR_fits hj (fun A i j k h1 h2 _ h3 => cntC_span hr hw h1 h2 h3) (der_posR h)
/-! The parts of a row: at m and k. -/
def PartD (rs : List RuleL) (ws : List Int) (x : Int) (xs : List Int) (i j s m k : Nat) : List Int → Prop := ProdS (Der rs ws (.inl x.toNat) i m k) (Der rs ws (.inr xs) m j (s - k))
theorem part_apart {x : Int} {xs : List Int} {i j s m k m' k' : Nat} {t : List Int} (h : PartD rs ws x xs i j s m k t) (h' : PartD rs ws x xs i j s m' k' t) : m = m' ∧ k = k' := by
  obtain ⟨a, b, h1, h2, rfl⟩ := h
  obtain ⟨a', b', h3, h4, e⟩ := h'
  obtain ⟨_, e1, e2, _⟩ := der_one h1 h3 e
  exact ⟨e2, e1⟩
/-- What the parts before (m, k) make. -/
def SeenD (rs : List RuleL) (ws : List Int) (x : Int) (xs : List Int) (i j s q kk : Nat) (t : List Int) : Prop :=
  ∃ m k, i ≤ m ∧ m ≤ j ∧ 1 ≤ k ∧ k ≤ s ∧ (m < i + q ∨ (m = i + q ∧ k ≤ kk)) ∧ PartD rs ws x xs i j s m k t
theorem seen_all {x : Int} {xs : List Int} {i j s q : Nat} {t : List Int} (hx : ¬ x < 0) (hq : j < i + q) : Der rs ws (.inr (x :: xs)) i j s t ↔ SeenD rs ws x xs i j s q 0 t := by
  rw [der_non hx]
  constructor
  · rintro ⟨m, k, s', a, b, h1, h2, rfl, rfl, h3, h4⟩
    have hk : 1 ≤ k := by
      obtain ⟨_, _, s'', rfl, _⟩ := der_tree.1 h3
      omega
    exact ⟨m, k, h1, h2, hk, by omega, .inl (by omega), a, b, h3, by rw [show k + s' - k = s' from by omega]; exact h4, rfl⟩
  · rintro ⟨m, k, h1, h2, h3, h4, _, a, b, h5, h6, rfl⟩
    exact ⟨m, k, s - k, a, b, h1, h2, by omega, rfl, h5, h6⟩
theorem seen_none {x : Int} {xs : List Int} {i j s : Nat} {t : List Int} : ¬ SeenD rs ws x xs i j s 0 0 t := by
  rintro ⟨m, k, h1, h2, h3, h4, h5, _⟩
  omega
theorem seen_row {x : Int} {xs : List Int} {i j s q : Nat} {t : List Int} : SeenD rs ws x xs i j s (q + 1) 0 t ↔ SeenD rs ws x xs i j s q s t := by
  constructor
  · rintro ⟨m, k, h1, h2, h3, h4, h5, h6⟩
    exact ⟨m, k, h1, h2, h3, h4, by omega, h6⟩
  · rintro ⟨m, k, h1, h2, h3, h4, h5, h6⟩
    exact ⟨m, k, h1, h2, h3, h4, by omega, h6⟩
theorem seen_step {x : Int} {xs : List Int} {i j s q kk : Nat} {t : List Int} (hq : i + q ≤ j) (hk : kk < s) : SeenD rs ws x xs i j s q (kk + 1) t ↔ SeenD rs ws x xs i j s q kk t ∨ PartD rs ws x xs i j s (i + q) (kk + 1) t := by
  constructor
  · rintro ⟨m, k, h1, h2, h3, h4, h5, h6⟩
    by_cases e : m = i + q ∧ k = kk + 1
    · obtain ⟨rfl, rfl⟩ := e
      exact .inr h6
    · exact .inl ⟨m, k, h1, h2, h3, h4, by omega, h6⟩
  · rintro (⟨m, k, h1, h2, h3, h4, h5, h6⟩ | h)
    · exact ⟨m, k, h1, h2, h3, h4, by omega, h6⟩
    · exact ⟨i + q, kk + 1, by omega, hq, by omega, by omega, .inr ⟨rfl, Nat.le_refl _⟩, h⟩
theorem seen_apart {x : Int} {xs : List Int} {i j s q kk : Nat} {t : List Int} (h : SeenD rs ws x xs i j s q kk t) (h' : PartD rs ws x xs i j s (i + q) (kk + 1) t) : False := by
  obtain ⟨m, k, h1, h2, h3, h4, h5, h6⟩ := h
  obtain ⟨e1, e2⟩ := part_apart h6 h'
  omega
/-- The trees of the first q rules of a nonterminal. -/
def RuleD (rs : List RuleL) (ws : List Int) (A i j s q : Nat) (t : List Int) : Prop := ∃ p, p < q ∧ p < rs.length ∧ (rul rs p).1 = (A : Int) ∧ ∃ r, Der rs ws (.inr (rul rs p).2) i j s r ∧ t = (p : Int) :: r
theorem ruleD_all {A i j s : Nat} {t : List Int} : Der rs ws (.inl A) i j (s + 1) t ↔ RuleD rs ws A i j s rs.length t := by
  rw [der_tree]
  constructor
  · rintro ⟨q, r, s', h1, rfl, h2, h3, h4⟩
    obtain rfl : s = s' := by omega
    exact ⟨q, h2, h2, h3, r, h4, rfl⟩
  · rintro ⟨p, _, h2, h3, r, h4, rfl⟩
    exact ⟨p, r, s, rfl, rfl, h2, h3, h4⟩
theorem ruleD_lt {A i j s q : Nat} {x y : List Int} (hx : RuleD rs ws A i j s q x) (hy : ∃ r, Der rs ws (.inr (rul rs q).2) i j s r ∧ y = (q : Int) :: r) : ltL x y := by
  obtain ⟨p, h1, _, _, r, _, rfl⟩ := hx
  obtain ⟨r', _, rfl⟩ := hy
  exact ltL_cons.2 (.inl (by omega))
theorem ruleD_step {A i j s q : Nat} {t : List Int} (hq : q < rs.length) (hA : (rul rs q).1 = (A : Int)) : RuleD rs ws A i j s (q + 1) t ↔ RuleD rs ws A i j s q t ∨ ∃ r, Der rs ws (.inr (rul rs q).2) i j s r ∧ t = (q : Int) :: r := by
  constructor
  · rintro ⟨p, h1, h2, h3, h4⟩
    by_cases e : p = q
    · subst e
      exact .inr h4
    · exact .inl ⟨p, by omega, h2, h3, h4⟩
  · rintro (⟨p, h1, h2, h3, h4⟩ | h)
    · exact ⟨p, by omega, h2, h3, h4⟩
    · exact ⟨q, by omega, hq, hA, h⟩
theorem ruleD_skip {A i j s q : Nat} {t : List Int} (hA : ¬ (rul rs q).1 = (A : Int)) : RuleD rs ws A i j s (q + 1) t ↔ RuleD rs ws A i j s q t := by
  constructor
  · rintro ⟨p, h1, h2, h3, h4⟩
    by_cases e : p = q
    · subst e
      exact absurd h3 hA
    · exact ⟨p, by omega, h2, h3, h4⟩
  · rintro ⟨p, h1, h2, h3, h4⟩
    exact ⟨p, by omega, h2, h3, h4⟩
end
end Go.Sh

/- Bp: bodies of functions as terms of the frame calculus, printed by shgen.py of this repository. -/
set_option linter.unusedVariables false
set_option maxRecDepth 100000
namespace Go.Proofs.Ytiohaeckagjebaa
open Go Go.Sh

/-! loop.example/g00758/laws.FnExactTreesUpTo -/
def pl22 : Plans := fun i => match i with
  | 13 => ⟨true, [3], .step 0 .held (.step 1 .held (.step 2 .one (.step 3 .last (.step 4 .any (.nil)))))⟩
  | _ => ⟨false, [], .nil⟩
def S22 (v0 v1 v2 v3 : Value) (k : Value → World → Prop) (w : World) : Prop :=
 Do Try.prog (sBox 31 v0) (fun t1 w2 =>
 Rd Try.prog (WS.at w2) (sBuiltin .len #[22] 3 [false] [v1]) fun t3 =>
 Rd Try.prog (WS.at w2) (sBin .gtr 3 true t3 (.int .i64 1048576)) fun t4 =>
 CondK t4
  (k (.bool true) w2)
  (Rd Try.prog (WS.at w2) (sLoad 31 t1) fun t5 =>
  CallK Try.prog 29 [t5, (.int .i64 1048576)] (fun t6 w7 =>
  Rd Try.prog (WS.at w7) (sBin .lss 3 true t6 (.int .i64 0)) fun t8 =>
  CondK t8
   (k (.bool true) w7)
   (Rd Try.prog (WS.at w7) (sLoad 31 t1) fun t9 =>
   CallK Try.prog 31 [t9] (fun t10 w11 =>
   CallK Try.prog 24 [v1] (fun t12 w13 =>
   CallK Try.prog 73 [t10, t12, v2, v3] (fun t14 w15 =>
   Rd Try.prog (WS.at w15) (sExtract t14 0) fun t16 =>
   Rd Try.prog (WS.at w15) (sExtract t14 1) fun t17 =>
   Rd Try.prog (WS.at w15) (sLoad 31 t1) fun t18 =>
   CallK Try.prog 31 [t18] (fun t19 w20 =>
   Do Try.prog (sAlloc 37) (fun t21 w22 =>
   Do Try.prog (sStore 37 t21 t19) (fun _ w23 =>
   CallK Try.prog 24 [v1] (fun t24 w25 =>
   Rd Try.prog (WS.at w25) (sLoad 37 t21) fun t26 =>
   CallK Try.prog 74 [t26, t24, v2, v3] (fun t27 w28 =>
   Rd Try.prog (WS.at w28) (sExtract t27 0) fun t29 =>
   Rd Try.prog (WS.at w28) (sExtract t27 1) fun t30 =>
   CallK Try.prog 46 [t29, t16] (fun t31 w32 =>
   Rd Try.prog (WS.at w32) (sUn .not t31) fun t33 =>
   GuardK t33 false (fun k w' => k t30 w') (fun t34 w35 =>
   GuardK t33 false (fun k w' => k t17 w') (fun t36 w37 =>
   GuardK t33 false (fun k w' => Rd Try.prog (WS.at w37) (sBin .neq 4 false t34 t36) fun v => k v w') (fun t38 w39 =>
   Rd Try.prog (WS.at w39) (sPick t33 (.bool true) t38) fun t40 =>
   CondK t40
    (k (.bool false) w39)
    (∃ S41 : World → Prop, ∃ h42 : S41 w39.drew,
    Rd Try.prog ⟨S41, w39.drew, h42⟩ (sLoad 37 t21) fun t43 =>
    Rd Try.prog ⟨S41, w39.drew, h42⟩ (sLoad 31 t1) fun t44 =>
    CallK Try.prog 31 [t44] (fun t45 w46 =>
    S41 w46 ∧ CallK Try.prog 33 [t43, t45] (fun t47 w48 =>
    Rd Try.prog WS.any (sUn .not t47) fun t49 =>
    CondK t49
     (k (.bool false) w48)
     (CallK Try.prog 24 [v1] (fun t50 w51 =>
     CallK Try.prog 26 [t24, t50] (fun t52 w53 =>
     Rd Try.prog (WS.at w53) (sUn .not t52) fun t54 =>
     CondK t54
      (k (.bool false) w53)
      (Rd Try.prog (WS.at w53) (sLoad 37 t21) fun t55 =>
      CallK Try.prog 36 [t55, (.int .i64 1)] (fun t56 w57 =>
      CallK Try.prog 27 [t24, t56] (fun t58 w59 =>
      Rd Try.prog (WS.at w59) (sBin .lss 3 true t58 (.int .i64 0)) fun t60 =>
      GuardK t60 false (fun k w' => k t29 w') (fun t61 w62 =>
      GuardK t60 false (fun k w' => k t16 w') (fun t63 w64 =>
      GuardK t60 false (fun k w' => CallK Try.prog 46 [t61, t63] k w') (fun t65 w66 =>
      GuardK t60 false (fun k w' => Rd Try.prog (WS.at w66) (sUn .not t65) fun v => k v w') (fun t67 w68 =>
      Rd Try.prog (WS.at w68) (sPick t60 (.bool true) t67) fun t69 =>
      GuardK t69 false (fun k w' => k t30 w') (fun t70 w71 =>
      GuardK t69 false (fun k w' => k t17 w') (fun t72 w73 =>
      GuardK t69 false (fun k w' => Rd Try.prog (WS.at w73) (sBin .neq 4 false t70 t72) fun v => k v w') (fun t74 w75 =>
      Rd Try.prog (WS.at w75) (sPick t69 (.bool true) t74) fun t76 =>
      CondK t76
       (k (.bool false) w75)
       (CallK Try.prog 47 [t29, (.int .i64 1)] (fun t77 w78 =>
       CallK Try.prog 48 [t29, (.int .i64 1)] (fun t79 w80 =>
       Rd Try.prog (WS.at w80) (sBin .lss 3 true t79 (.int .i64 0)) fun t81 =>
       CondK t81
        (k (.bool false) w80)
        (Rd Try.prog (WS.at w80) (sBin .neq 3 false t79 t77) fun t82 =>
        CondK t82
         (k (.bool false) w80)
         (Rd Try.prog (WS.at w80) (sLoad 31 t1) fun t83 =>
         CallK Try.prog 31 [t83] (fun t84 w85 =>
         CallK Try.prog 24 [v1] (fun t86 w87 =>
         CallK Try.prog 74 [t84, t86, v2, v3] (fun t88 w89 =>
         Rd Try.prog (WS.at w89) (sExtract t88 0) fun t90 =>
         Rd Try.prog (WS.at w89) (sExtract t88 1) fun t91 =>
         CallK Try.prog 46 [t90, t16] (fun t92 w93 =>
         Rd Try.prog (WS.at w93) (sUn .not t92) fun t94 =>
         GuardK t94 false (fun k w' => k t91 w') (fun t95 w96 =>
         GuardK t94 false (fun k w' => k t17 w') (fun t97 w98 =>
         GuardK t94 false (fun k w' => Rd Try.prog (WS.at w98) (sBin .neq 4 false t95 t97) fun v => k v w') (fun t99 w100 =>
         Rd Try.prog (WS.at w100) (sPick t94 (.bool true) t99) fun t101 =>
         CondK t101
          (k (.bool false) w100)
          (CallK Try.prog 48 [t29, (.int .i64 1)] (fun t102 w103 =>
          Rd Try.prog (WS.at w103) (sBin .lss 3 true t102 (.int .i64 0)) fun t104 =>
          CondK t104
           (k (.bool false) w103)
           (Rd Try.prog (WS.at w103) (sBin .neq 3 false t102 t77) fun t105 =>
           CondK t105
            (k (.bool false) w103)
            (k (.bool true) w103))) w100)) w98) w96) w93) w89) w87) w85) w80))) w78) w75)) w73) w71) w68) w66) w64) w62) w59) w57) w53)) w51) w48)) w46) w39.drew)) w37) w35) w32) w28) w25) w23) w22) w20) w15) w13) w11) w7)) w2)) w
theorem body22 : Try.f22.body = some (bodyOf Try.f22) := by kernel_rfl
theorem same22 (v0 v1 v2 v3 : Value) (k : Value → World → Prop) (w : World) : wpF Try.prog pl22 (bodyOf Try.f22) (bodyQ Try.prog Try.f22.results.toList k) (initF [v0, v1, v2, v3]) w = S22 v0 v1 v2 v3 k w := by kernel_rfl
theorem enter22 {v0 v1 v2 v3 : Value} {k : Value → World → Prop} {w : World} (h : S22 v0 v1 v2 v3 k w) : CallK Try.prog 22 [v0, v1, v2, v3] k w :=
  call_of_wpF (pl := pl22) mixed Try.func22 body22 (by kernel_rfl) (of_decide_eq_true (by kernel_rfl)) (by kernel_rfl) (by kernel_rfl) (same22 v0 v1 v2 v3 k w ▸ h)

/-! loop.example/g00758/spec.TreesUpTo -/
def pl73 : Plans := fun _ => ⟨false, [], .nil⟩
def S73 (v0 v1 v2 v3 : Value) (k : Value → World → Prop) (w : World) : Prop :=
 Do Try.prog (sBox 37 v0) (fun t1 w2 =>
 Rd Try.prog (WS.at w2) (sLoad 37 t1) fun t3 =>
 CallK Try.prog 101 [t3, v1] (fun t4 w5 =>
 Rd Try.prog (WS.at w5) (sUn .not t4) fun t6 =>
 GuardK t6 false (fun k w' => k v2 w') (fun t7 w8 =>
 GuardK t6 false (fun k w' => CallK Try.prog 77 [t7, (.int .i64 0), (.int .i64 12)] k w') (fun t9 w10 =>
 GuardK t6 false (fun k w' => Rd Try.prog (WS.at w10) (sUn .not t9) fun v => k v w') (fun t11 w12 =>
 Rd Try.prog (WS.at w12) (sPick t6 (.bool true) t11) fun t13 =>
 GuardK t13 false (fun k w' => k v3 w') (fun t14 w15 =>
 GuardK t13 false (fun k w' => CallK Try.prog 77 [t14, (.int .i64 0), (.int .i64 60)] k w') (fun t16 w17 =>
 GuardK t13 false (fun k w' => Rd Try.prog (WS.at w17) (sUn .not t16) fun v => k v w') (fun t18 w19 =>
 Rd Try.prog (WS.at w19) (sPick t13 (.bool true) t18) fun t20 =>
 CondK t20
  (k (.tuple #[(.slice none 0 0), (.bool false)]) w19)
  (Rd Try.prog (WS.at w19) (sLoad 37 t1) fun t21 =>
  CallK Try.prog 127 [t21, v1, v2, v3] (fun t22 w23 =>
  k (.tuple #[t22, (.bool true)]) w23) w19)) w17) w15) w12) w10) w8) w5) w2) w
theorem body73 : Try.f73.body = some (bodyOf Try.f73) := by kernel_rfl
theorem same73 (v0 v1 v2 v3 : Value) (k : Value → World → Prop) (w : World) : wpF Try.prog pl73 (bodyOf Try.f73) (bodyQ Try.prog Try.f73.results.toList k) (initF [v0, v1, v2, v3]) w = S73 v0 v1 v2 v3 k w := by kernel_rfl
theorem enter73 {v0 v1 v2 v3 : Value} {k : Value → World → Prop} {w : World} (h : S73 v0 v1 v2 v3 k w) : CallK Try.prog 73 [v0, v1, v2, v3] k w :=
  call_of_wpF (pl := pl73) mixed Try.func73 body73 (by kernel_rfl) (of_decide_eq_true (by kernel_rfl)) (by kernel_rfl) (by kernel_rfl) (same73 v0 v1 v2 v3 k w ▸ h)

/-! loop.example/g00758/impl.TreesUpTo -/
def pl74 : Plans := fun i => match i with
  | 3 => ⟨true, [], .step 0 .held (.step 1 .held (.step 2 .any (.step 4 .any (.fork 3 (.step 5 .one (.step 6 .any (.step 7 .one (.step 8 .any (.nil))))) 5 (.step 3 .one (.step 6 .any (.step 7 .one (.step 8 .any (.nil)))))))))⟩
  | _ => ⟨false, [], .nil⟩
def S74 (v0 v1 v2 v3 : Value) (k : Value → World → Prop) (w : World) : Prop :=
 Do Try.prog (sBox 37 v0) (fun t1 w2 =>
 Rd Try.prog (WS.at w2) (sLoad 37 t1) fun t3 =>
 CallK Try.prog 84 [t3] (fun t4 w5 =>
 Rd Try.prog (WS.at w5) (sUn .not t4) fun t6 =>
 GuardK t6 false (fun k w' => Rd Try.prog (WS.at w5) (sFieldAddr 37 t1 1) fun v => k v w') (fun t7 w8 =>
 GuardK t6 false (fun k w' => Rd Try.prog (WS.at w8) (sLoad 3 t7) fun v => k v w') (fun t9 w10 =>
 GuardK t6 false (fun k w' => k v1 w') (fun t11 w12 =>
 GuardK t6 false (fun k w' => CallK Try.prog 99 [t9, t11] k w') (fun t13 w14 =>
 GuardK t6 false (fun k w' => Rd Try.prog (WS.at w14) (sUn .not t13) fun v => k v w') (fun t15 w16 =>
 Rd Try.prog (WS.at w16) (sPick t6 (.bool true) t15) fun t17 =>
 GuardK t17 false (fun k w' => k v2 w') (fun t18 w19 =>
 GuardK t17 false (fun k w' => CallK Try.prog 103 [t18, (.int .i64 0), (.int .i64 12)] k w') (fun t20 w21 =>
 GuardK t17 false (fun k w' => Rd Try.prog (WS.at w21) (sUn .not t20) fun v => k v w') (fun t22 w23 =>
 Rd Try.prog (WS.at w23) (sPick t17 (.bool true) t22) fun t24 =>
 GuardK t24 false (fun k w' => k v3 w') (fun t25 w26 =>
 GuardK t24 false (fun k w' => CallK Try.prog 103 [t25, (.int .i64 0), (.int .i64 60)] k w') (fun t27 w28 =>
 GuardK t24 false (fun k w' => Rd Try.prog (WS.at w28) (sUn .not t27) fun v => k v w') (fun t29 w30 =>
 Rd Try.prog (WS.at w30) (sPick t24 (.bool true) t29) fun t31 =>
 CondK t31
  (k (.tuple #[(.slice none 0 0), (.bool false)]) w30)
  (Join (fun K34 =>
  ∃ S32 : World → Prop, ∃ h33 : S32 w30.drew,
  Rd Try.prog ⟨S32, w30.drew, h33⟩ (sLoad 37 t1) fun t37 =>
  Rd Try.prog ⟨S32, w30.drew, h33⟩ (sLoad 37 t1) fun t38 =>
  ((CallK Try.prog 104 [t38, v1] (fun t39 w40 =>
  S32 w40 ∧ Do Try.prog (sMakeMap 141) (fun t41 w42 =>
  S32 w42 ∧ Rd Try.prog WS.any (sBuild 143 [(0, t37), (1, t39), (2, v3), (3, t41)]) fun t43 =>
  Do Try.prog (sBox 143 t43) (fun t44 w45 =>
  S32 w45 ∧ K34 (F.upd (F.upd (F.upd (F.upd (F.upd (F.upd (F.upd (F.upd (F.upd (F.upd (F.upd (F.upd (F.upd (F.upd (F.upd (F.upd (F.upd (F.upd (F.upd (F.upd (F.upd (F.upd (F.upd (F.upd (F.upd (F.upd (F.upd (F.upd (F.upd (F.upd (F.upd (F.upd (initF [v0, v1, v2, v3]) 4 t1) 8 (.slice none 0 0)) 9 (.bool false)) 15 t3) 16 t4) 17 t6) 18 t6) 19 t7) 20 t9) 21 t11) 22 t13) 23 t15) 24 t17) 25 t17) 26 t18) 27 t20) 28 t22) 29 t24) 30 t24) 31 t25) 32 t27) 33 t29) 34 t31) 35 t37) 36 t38) 37 v1) 39 v3) 38 t39) 40 t41) 41 t43) 42 t44) 10 t44) w45) w42) w40) w30.drew) ∧
  (Do Try.prog (sMakeMap 141) (fun t46 w47 =>
  S32 w47 ∧ CallK Try.prog 104 [t38, v1] (fun t48 w49 =>
  S32 w49 ∧ Rd Try.prog WS.any (sBuild 143 [(0, t37), (1, t48), (2, v3), (3, t46)]) fun t50 =>
  Do Try.prog (sBox 143 t50) (fun t51 w52 =>
  S32 w52 ∧ K34 (F.upd (F.upd (F.upd (F.upd (F.upd (F.upd (F.upd (F.upd (F.upd (F.upd (F.upd (F.upd (F.upd (F.upd (F.upd (F.upd (F.upd (F.upd (F.upd (F.upd (F.upd (F.upd (F.upd (F.upd (F.upd (F.upd (F.upd (F.upd (F.upd (F.upd (F.upd (F.upd (initF [v0, v1, v2, v3]) 4 t1) 8 (.slice none 0 0)) 9 (.bool false)) 15 t3) 16 t4) 17 t6) 18 t6) 19 t7) 20 t9) 21 t11) 22 t13) 23 t15) 24 t17) 25 t17) 26 t18) 27 t20) 28 t22) 29 t24) 30 t24) 31 t25) 32 t27) 33 t29) 34 t31) 35 t37) 36 t38) 37 v1) 39 v3) 40 t46) 38 t48) 41 t50) 42 t51) 10 t51) w52) w49) w47) w30.drew))) (fun f35 w36 =>
  Do Try.prog (sBuildSlice 48 0 []) (fun t53 w54 =>
  LoopF [44, 45, 46, 47, 48, 49, 50, 51, 52, 55, 56, 57, 58, 59, 60, 61, 62, 63, 64, 14, 65, 66, 67, 68, 69, 70, 71, 72, 73, 74, 11, 75, 61, 53, 54, 12] (fun Q55 f56 w57 =>
   Rd Try.prog (WS.at w57) (sBin .leq 3 false (f56 12) (f56 2)) fun t58 =>
   GuardK t58 true (fun k w' => k (f56 11) w') (fun t59 w60 =>
   GuardK t58 true (fun k w' => Rd Try.prog (WS.at w60) (sBuiltin .len #[48] 3 [false] [t59]) fun v => k v w') (fun t61 w62 =>
   GuardK t58 true (fun k w' => k (f56 3) w') (fun t63 w64 =>
   GuardK t58 true (fun k w' => Rd Try.prog (WS.at w64) (sBin .lss 3 false t61 t63) fun v => k v w') (fun t65 w66 =>
   Rd Try.prog (WS.at w66) (sPick t58 t65 (.bool false)) fun t67 =>
   CondK t67
    (Rd Try.prog (WS.at w66) (sBuiltin .len #[22] 3 [false] [(f56 1)]) fun t68 =>
    CallK Try.prog 128 [(f56 10), (.int .i64 0), (.int .i64 0), t68, (f56 12)] (fun t69 w70 =>
    Rd Try.prog (WS.at w70) (sBuiltin .len #[48] 3 [false] [t69]) fun t71 =>
    LoopF [62, 63, 64, 14, 65, 66, 67, 68, 69, 70, 71, 72, 73, 74, 11, 75, 61] (fun Q72 f73 w74 =>
     Rd Try.prog (WS.at w74) (sBin .lss 3 false (f73 61) (f73 60)) fun t75 =>
     CondK t75
      (Join (fun K76 =>
      Rd Try.prog (WS.at w74) (sIndexAddr 48 (f73 59) (f73 61)) fun t79 =>
      Rd Try.prog (WS.at w74) (sLoad 22 t79) fun t80 =>
      Rd Try.prog (WS.at w74) (sBuiltin .len #[48] 3 [false] [(f73 11)]) fun t81 =>
      Rd Try.prog (WS.at w74) (sBin .lss 3 false t81 (f73 3)) fun t82 =>
      CondK t82
       (Do Try.prog (sBuildSlice 22 0 []) (fun t83 w84 =>
       Do Try.prog (sBuiltin .append #[22, 22] 22 [false, false] [t83, t80]) (fun t85 w86 =>
       Do Try.prog (sBuildSlice 48 1 [(0, t85)]) (fun t87 w88 =>
       Do Try.prog (sBuiltin .append #[48, 48] 48 [false, false] [(f73 11), t87]) (fun t89 w90 =>
       K76 (F.upd (F.upd (F.upd (F.upd (F.upd (F.upd (F.upd (F.upd (F.upd (F.upd (F.upd (F.upd (F.upd (F.upd (F.upd f73 62 t75) 63 t79) 64 t80) 14 t80) 65 (f73 11)) 66 t81) 67 (f73 3)) 68 t82) 69 (f73 11)) 70 t83) 71 t80) 72 t85) 73 t87) 74 t89) 11 t89) w90) w88) w86) w84) w74)
       (K76 (F.upd (F.upd (F.upd (F.upd (F.upd (F.upd (F.upd (F.upd f73 62 t75) 63 t79) 64 t80) 14 t80) 65 (f73 11)) 66 t81) 67 (f73 3)) 68 t82) w74)) (fun f77 w78 =>
      Rd Try.prog (WS.at w78) (sBin .add 3 true (f77 61) (.int .i64 1)) fun t91 =>
      Q72 .normal (F.upd (F.upd f77 75 t91) 61 t91) w78))
      (Q72 (.exit 2) (F.upd f73 62 t75) w74))
     (blockQ 2 (blockQ 1 (seqQ (fun f92 w93 =>
    Rd Try.prog (WS.at w93) (sBin .add 3 true (f92 12) (.int .i64 1)) fun t94 =>
    Q55 .normal (F.upd (F.upd (F.upd f92 53 (f92 12)) 54 t94) 12 t94) w93) Q55)))
     (F.upd (F.upd (F.upd (F.upd (F.upd (F.upd (F.upd (F.upd (F.upd (F.upd (F.upd (F.upd (F.upd (F.upd (F.upd (F.upd f56 44 (f56 12)) 45 (f56 2)) 46 t58) 47 t58) 48 t59) 49 t61) 50 t63) 51 t65) 52 t67) 55 (f56 10)) 56 (f56 1)) 57 t68) 58 (f56 12)) 59 t69) 60 t71) 61 (.int .i64 0)) w70) w66)
    (Q55 (.exit 0) (F.upd (F.upd (F.upd (F.upd (F.upd (F.upd (F.upd (F.upd (F.upd f56 44 (f56 12)) 45 (f56 2)) 46 t58) 47 t58) 48 t59) 49 t61) 50 t63) 51 t65) 52 t67) w66)) w64) w62) w60) w57)
   (blockQ 0 (seqQ (fun f95 w96 =>
  k (.tuple #[(f95 11), (.bool true)]) w96) (bodyQ Try.prog [.tmp 8, .tmp 9] k)))
   (F.upd (F.upd (F.upd f35 43 t53) 11 t53) 12 (.int .i64 1)) w54) w36))) w28) w26) w23) w21) w19) w16) w14) w12) w10) w8) w5) w2) w
theorem body74 : Try.f74.body = some (bodyOf Try.f74) := by kernel_rfl
theorem same74 (v0 v1 v2 v3 : Value) (k : Value → World → Prop) (w : World) : wpF Try.prog pl74 (bodyOf Try.f74) (bodyQ Try.prog Try.f74.results.toList k) (initF [v0, v1, v2, v3]) w = S74 v0 v1 v2 v3 k w := by kernel_rfl
theorem enter74 {v0 v1 v2 v3 : Value} {k : Value → World → Prop} {w : World} (h : S74 v0 v1 v2 v3 k w) : CallK Try.prog 74 [v0, v1, v2, v3] k w :=
  call_of_wpF (pl := pl74) mixed Try.func74 body74 (by kernel_rfl) (of_decide_eq_true (by kernel_rfl)) (by kernel_rfl) (by kernel_rfl) (same74 v0 v1 v2 v3 k w ▸ h)

/-! loop.example/g00758/spec.l11Trees -/
def pl127 : Plans := fun i => match i with
  | 1 => ⟨true, [7], .step 0 .held (.step 1 .any (.step 2 .held (.step 3 .any (.step 4 .any (.step 5 .one (.step 6 .any (.step 7 .last (.step 8 .any (.nil)))))))))⟩
  | _ => ⟨false, [], .nil⟩
def S127 (v0 v1 v2 v3 : Value) (k : Value → World → Prop) (w : World) : Prop :=
 Do Try.prog (sBox 37 v0) (fun t1 w2 =>
 ∃ S3 : World → Prop, ∃ h4 : S3 w2.drew,
 Rd Try.prog ⟨S3, w2.drew, h4⟩ (sLoad 37 t1) fun t5 =>
 Rd Try.prog ⟨S3, w2.drew, h4⟩ (sLoad 37 t1) fun t6 =>
 CallK Try.prog 117 [t6, v1, v2] (fun t7 w8 =>
 S3 w8 ∧ Rd Try.prog WS.any (sBuild 175 [(0, t5), (1, v1), (2, t7)]) fun t9 =>
 Do Try.prog (sBox 175 t9) (fun t10 w11 =>
 LoopF [20, 21, 22, 23, 24, 25, 26, 27, 28, 31, 32, 33, 34, 35, 36, 37, 38, 39, 40, 41, 10, 29, 30, 11] (fun Q12 f13 w14 =>
  Rd Try.prog (WS.at w14) (sBin .leq 3 false (f13 11) (f13 2)) fun t15 =>
  GuardK t15 true (fun k w' => k (f13 10) w') (fun t16 w17 =>
  GuardK t15 true (fun k w' => Rd Try.prog (WS.at w17) (sBuiltin .len #[48] 3 [false] [t16]) fun v => k v w') (fun t18 w19 =>
  GuardK t15 true (fun k w' => k (f13 3) w') (fun t20 w21 =>
  GuardK t15 true (fun k w' => Rd Try.prog (WS.at w21) (sBin .lss 3 false t18 t20) fun v => k v w') (fun t22 w23 =>
  Rd Try.prog (WS.at w23) (sPick t15 t22 (.bool false)) fun t24 =>
  CondK t24
   (Rd Try.prog (WS.at w23) (sBuiltin .len #[22] 3 [false] [(f13 1)]) fun t25 =>
   Rd Try.prog (WS.at w23) (sBuiltin .len #[48] 3 [false] [(f13 10)]) fun t26 =>
   Rd Try.prog (WS.at w23) (sBin .sub 3 false (f13 3) t26) fun t27 =>
   CallK Try.prog 168 [(f13 9), (.int .i64 0), (.int .i64 0), t25, (f13 11), t27] (fun t28 w29 =>
   Do Try.prog (sBuiltin .append #[48, 48] 48 [false, false] [(f13 10), t28]) (fun t30 w31 =>
   Rd Try.prog (WS.at w31) (sBin .add 3 true (f13 11) (.int .i64 1)) fun t32 =>
   Q12 .normal (F.upd (F.upd (F.upd (F.upd (F.upd (F.upd (F.upd (F.upd (F.upd (F.upd (F.upd (F.upd (F.upd (F.upd (F.upd (F.upd (F.upd (F.upd (F.upd (F.upd (F.upd (F.upd (F.upd (F.upd f13 20 (f13 11)) 21 (f13 2)) 22 t15) 23 t15) 24 t16) 25 t18) 26 t20) 27 t22) 28 t24) 31 (f13 10)) 32 (f13 9)) 33 (f13 1)) 34 t25) 35 (f13 11)) 36 (f13 3)) 37 (f13 10)) 38 t26) 39 t27) 40 t28) 41 t30) 10 t30) 29 (f13 11)) 30 t32) 11 t32) w31) w29) w23)
   (Q12 (.exit 0) (F.upd (F.upd (F.upd (F.upd (F.upd (F.upd (F.upd (F.upd (F.upd f13 20 (f13 11)) 21 (f13 2)) 22 t15) 23 t15) 24 t16) 25 t18) 26 t20) 27 t22) 28 t24) w23)) w21) w19) w17) w14)
  (blockQ 0 (seqQ (fun f33 w34 =>
 k (f33 10) w34) (bodyQ Try.prog [.tmp 8] k)))
  (F.upd (F.upd (F.upd (F.upd (F.upd (F.upd (F.upd (F.upd (F.upd (F.upd (F.upd (F.upd (F.upd (initF [v0, v1, v2, v3]) 4 t1) 8 (.slice none 0 0)) 12 t5) 13 v1) 14 t6) 15 v1) 16 v2) 17 t7) 18 t9) 19 t10) 9 t10) 10 (.slice none 0 0)) 11 (.int .i64 1)) w11) w8) w2.drew) w
theorem body127 : Try.f127.body = some (bodyOf Try.f127) := by kernel_rfl
theorem same127 (v0 v1 v2 v3 : Value) (k : Value → World → Prop) (w : World) : wpF Try.prog pl127 (bodyOf Try.f127) (bodyQ Try.prog Try.f127.results.toList k) (initF [v0, v1, v2, v3]) w = S127 v0 v1 v2 v3 k w := by kernel_rfl
theorem enter127 {v0 v1 v2 v3 : Value} {k : Value → World → Prop} {w : World} (h : S127 v0 v1 v2 v3 k w) : CallK Try.prog 127 [v0, v1, v2, v3] k w :=
  call_of_wpF (pl := pl127) mixed Try.func127 body127 (by kernel_rfl) (of_decide_eq_true (by kernel_rfl)) (by kernel_rfl) (by kernel_rfl) (same127 v0 v1 v2 v3 k w ▸ h)

/-! (*loop.example/g00758/impl.told).trees -/
def pl128 : Plans := fun _ => ⟨false, [], .nil⟩
def S128 (v0 v1 v2 v3 v4 : Value) (k : Value → World → Prop) (w : World) : Prop :=
 Do Try.prog (sBuildSlice 48 0 []) (fun t1 w2 =>
 Rd Try.prog (WS.at w2) (sBin .lss 3 true v4 (.int .i64 1)) fun t3 =>
 GuardK t3 false (fun k w' => k v0 w') (fun t4 w5 =>
 GuardK t3 false (fun k w' => Rd Try.prog (WS.at w5) (sNilCheck t4) fun v => k v w') (fun t6 w7 =>
 GuardK t3 false (fun k w' => Rd Try.prog (WS.at w7) (sFieldAddr 143 t6 1) fun v => k v w') (fun t8 w9 =>
 GuardK t3 false (fun k w' => Rd Try.prog (WS.at w9) (sLoad 112 t8) fun v => k v w') (fun t10 w11 =>
 GuardK t3 false (fun k w' => k v1 w') (fun t12 w13 =>
 GuardK t3 false (fun k w' => k v2 w') (fun t14 w15 =>
 GuardK t3 false (fun k w' => k v3 w') (fun t16 w17 =>
 GuardK t3 false (fun k w' => Rd Try.prog (WS.at w17) (sNilCheck t10) fun v => k v w') (fun t18 w19 =>
 GuardK t3 false (fun k w' => Rd Try.prog (WS.at w19) (sFieldAddr 111 t18 1) fun v => k v w') (fun t20 w21 =>
 GuardK t3 false (fun k w' => Rd Try.prog (WS.at w21) (sIndexAddr 109 t20 t12) fun v => k v w') (fun t22 w23 =>
 GuardK t3 false (fun k w' => Rd Try.prog (WS.at w23) (sIndexAddr 108 t22 t14) fun v => k v w') (fun t24 w25 =>
 GuardK t3 false (fun k w' => Rd Try.prog (WS.at w25) (sIndexAddr 107 t24 t16) fun v => k v w') (fun t26 w27 =>
 GuardK t3 false (fun k w' => Rd Try.prog (WS.at w27) (sLoad 4 t26) fun v => k v w') (fun t28 w29 =>
 GuardK t3 false (fun k w' => Rd Try.prog (WS.at w29) (sUn .not t28) fun v => k v w') (fun t30 w31 =>
 Rd Try.prog (WS.at w31) (sPick t3 (.bool true) t30) fun t32 =>
 CondK t32
  (k t1 w31)
  (Rd Try.prog (WS.at w31) (sNilCheck v0) fun t33 =>
  Rd Try.prog (WS.at w31) (sFieldAddr 143 t33 0) fun t34 =>
  Rd Try.prog (WS.at w31) (sFieldAddr 37 t34 2) fun t35 =>
  Rd Try.prog (WS.at w31) (sLoad 35 t35) fun t36 =>
  Rd Try.prog (WS.at w31) (sBuiltin .len #[35] 3 [false] [t36]) fun t37 =>
  LoopF [43, 44, 45, 46, 13, 12, 47, 48, 49, 50, 51, 52, 53, 54, 55, 56, 57, 58, 59, 60, 61, 62, 63, 64, 65, 66, 67, 68, 69, 70, 71, 15, 72, 73, 74, 75, 76, 77, 78, 11, 79, 68, 80, 42] (fun Q38 f39 w40 =>
   Rd Try.prog (WS.at w40) (sBin .lss 3 false (f39 42) (f39 41)) fun t41 =>
   CondK t41
    (Join (fun K42 =>
    Rd Try.prog (WS.at w40) (sIndexAddr 35 (f39 40) (f39 42)) fun t45 =>
    Rd Try.prog (WS.at w40) (sLoad 77 t45) fun t46 =>
    Do Try.prog (sAlloc 77) (fun t47 w48 =>
    Do Try.prog (sStore 77 t47 t46) (fun _ w49 =>
    Rd Try.prog (WS.at w49) (sFieldAddr 77 t47 0) fun t50 =>
    Rd Try.prog (WS.at w49) (sLoad 3 t50) fun t51 =>
    Rd Try.prog (WS.at w49) (sBin .neq 3 false t51 (f39 1)) fun t52 =>
    GuardK t52 false (fun k w' => k (f39 11) w') (fun t53 w54 =>
    GuardK t52 false (fun k w' => Rd Try.prog (WS.at w54) (sBuiltin .len #[48] 3 [false] [t53]) fun v => k v w') (fun t55 w56 =>
    GuardK t52 false (fun k w' => k (f39 0) w') (fun t57 w58 =>
    GuardK t52 false (fun k w' => Rd Try.prog (WS.at w58) (sNilCheck t57) fun v => k v w') (fun t59 w60 =>
    GuardK t52 false (fun k w' => Rd Try.prog (WS.at w60) (sFieldAddr 143 t59 2) fun v => k v w') (fun t61 w62 =>
    GuardK t52 false (fun k w' => Rd Try.prog (WS.at w62) (sLoad 3 t61) fun v => k v w') (fun t63 w64 =>
    GuardK t52 false (fun k w' => Rd Try.prog (WS.at w64) (sBin .geq 3 false t55 t63) fun v => k v w') (fun t65 w66 =>
    Rd Try.prog (WS.at w66) (sPick t52 (.bool true) t65) fun t67 =>
    CondK t67
     (K42 (F.upd (F.upd (F.upd (F.upd (F.upd (F.upd (F.upd (F.upd (F.upd (F.upd (F.upd (F.upd (F.upd (F.upd (F.upd (F.upd (F.upd (F.upd (F.upd f39 43 t41) 44 (f39 42)) 45 t45) 46 t46) 13 t47) 12 (f39 42)) 47 t50) 48 t51) 49 (f39 1)) 50 t52) 51 t52) 52 t53) 53 t55) 54 t57) 55 t59) 56 t61) 57 t63) 58 t65) 59 t67) w66)
     (Rd Try.prog (WS.at w66) (sBin .sub 3 true (f39 4) (.int .i64 1)) fun t68 =>
     CallK Try.prog 169 [(f39 0), (f39 42), (.int .i64 0), (f39 2), (f39 3), t68] (fun t69 w70 =>
     Rd Try.prog (WS.at w70) (sBuiltin .len #[48] 3 [false] [t69]) fun t71 =>
     LoopF [69, 70, 71, 15, 72, 73, 74, 75, 76, 77, 78, 11, 79, 68] (fun Q72 f73 w74 =>
      Rd Try.prog (WS.at w74) (sBin .lss 3 false (f73 68) (f73 67)) fun t75 =>
      CondK t75
       (Rd Try.prog (WS.at w74) (sIndexAddr 48 (f73 66) (f73 68)) fun t76 =>
       Rd Try.prog (WS.at w74) (sLoad 22 t76) fun t77 =>
       Do Try.prog (sBuildSlice 22 1 [(0, (f73 12))]) (fun t78 w79 =>
       Do Try.prog (sBuiltin .append #[22, 22] 22 [false, false] [t78, t77]) (fun t80 w81 =>
       Do Try.prog (sBuildSlice 48 1 [(0, t80)]) (fun t82 w83 =>
       Do Try.prog (sBuiltin .append #[48, 48] 48 [false, false] [(f73 11), t82]) (fun t84 w85 =>
       Rd Try.prog (WS.at w85) (sBin .add 3 true (f73 68) (.int .i64 1)) fun t86 =>
       Q72 .normal (F.upd (F.upd (F.upd (F.upd (F.upd (F.upd (F.upd (F.upd (F.upd (F.upd (F.upd (F.upd (F.upd (F.upd f73 69 t75) 70 t76) 71 t77) 15 t77) 72 (f73 11)) 73 (f73 12)) 74 t78) 75 t77) 76 t80) 77 t82) 78 t84) 11 t84) 79 t86) 68 t86) w85) w83) w81) w79) w74)
       (Q72 (.exit 2) (F.upd f73 69 t75) w74))
      (blockQ 2 (blockQ 1 (seqQ K42 Q38)))
      (F.upd (F.upd (F.upd (F.upd (F.upd (F.upd (F.upd (F.upd (F.upd (F.upd (F.upd (F.upd (F.upd (F.upd (F.upd (F.upd (F.upd (F.upd (F.upd (F.upd (F.upd (F.upd (F.upd (F.upd (F.upd (F.upd (F.upd (F.upd f39 43 t41) 44 (f39 42)) 45 t45) 46 t46) 13 t47) 12 (f39 42)) 47 t50) 48 t51) 49 (f39 1)) 50 t52) 51 t52) 52 t53) 53 t55) 54 t57) 55 t59) 56 t61) 57 t63) 58 t65) 59 t67) 60 (f39 0)) 61 (f39 42)) 62 (f39 2)) 63 (f39 3)) 64 (f39 4)) 65 t68) 66 t69) 67 t71) 68 (.int .i64 0)) w70) w66)) w64) w62) w60) w58) w56) w54) w49) w48) w40) (fun f43 w44 =>
    Rd Try.prog (WS.at w44) (sBin .add 3 true (f43 42) (.int .i64 1)) fun t89 =>
    Q38 .normal (F.upd (F.upd f43 80 t89) 42 t89) w44))
    (Q38 (.exit 0) (F.upd f39 43 t41) w40))
   (blockQ 0 (seqQ (fun f90 w91 =>
  CallK Try.prog 170 [(f90 0), (f90 11)] (fun t92 w93 =>
  k t92 w93) w91) (bodyQ Try.prog [.tmp 10] k)))
   (F.upd (F.upd (F.upd (F.upd (F.upd (F.upd (F.upd (F.upd (F.upd (F.upd (F.upd (F.upd (F.upd (F.upd (F.upd (F.upd (F.upd (F.upd (F.upd (F.upd (F.upd (F.upd (F.upd (F.upd (F.upd (F.upd (F.upd (F.upd (initF [v0, v1, v2, v3, v4]) 10 (.slice none 0 0)) 16 t1) 11 t1) 17 v4) 18 t3) 19 t3) 20 t4) 21 t6) 22 t8) 23 t10) 24 t12) 25 t14) 26 t16) 27 t18) 28 t20) 29 t22) 30 t24) 31 t26) 32 t28) 33 t30) 34 t32) 36 v0) 37 t33) 38 t34) 39 t35) 40 t36) 41 t37) 42 (.int .i64 0)) w31)) w29) w27) w25) w23) w21) w19) w17) w15) w13) w11) w9) w7) w5) w2) w
theorem body128 : Try.f128.body = some (bodyOf Try.f128) := by kernel_rfl
theorem same128 (v0 v1 v2 v3 v4 : Value) (k : Value → World → Prop) (w : World) : wpF Try.prog pl128 (bodyOf Try.f128) (bodyQ Try.prog Try.f128.results.toList k) (initF [v0, v1, v2, v3, v4]) w = S128 v0 v1 v2 v3 v4 k w := by kernel_rfl
theorem enter128 {v0 v1 v2 v3 v4 : Value} {k : Value → World → Prop} {w : World} (h : S128 v0 v1 v2 v3 v4 k w) : CallK Try.prog 128 [v0, v1, v2, v3, v4] k w :=
  call_of_wpF (pl := pl128) mixed Try.func128 body128 (by kernel_rfl) (of_decide_eq_true (by kernel_rfl)) (by kernel_rfl) (by kernel_rfl) (same128 v0 v1 v2 v3 v4 k w ▸ h)

/-! (*loop.example/g00758/spec.l11Make).trees -/
def pl168 : Plans := fun i => match i with
  | 2 => ⟨false, [], .step 0 .any (.step 1 .any (.step 2 .any (.step 3 .held (.step 4 .any (.step 5 .any (.step 6 .held (.step 7 .any (.step 8 .any (.step 9 .any (.step 10 .any (.step 11 .held (.step 12 .any (.step 13 .any (.step 14 .any (.step 15 .any (.step 16 .any (.step 17 .any (.step 18 .held (.step 19 .any (.step 20 .any (.step 21 .held (.step 22 .any (.nil)))))))))))))))))))))))⟩
  | _ => ⟨false, [], .nil⟩
def S168 (v0 v1 v2 v3 v4 v5 : Value) (k : Value → World → Prop) (w : World) : Prop :=
 Rd Try.prog WS.any (sNilCheck v0) fun t1 =>
 Rd Try.prog WS.any (sFieldAddr 175 t1 2) fun t2 =>
 Rd Try.prog (WS.at w.drew) (sLoad 126 t2) fun t3 =>
 Rd Try.prog WS.any (sIndexAddr 126 t3 v1) fun t4 =>
 Rd Try.prog (WS.at w.drew) (sLoad 48 t4) fun t5 =>
 Rd Try.prog WS.any (sNilCheck v0) fun t6 =>
 Rd Try.prog WS.any (sFieldAddr 175 t6 1) fun t7 =>
 Rd Try.prog (WS.at w.drew) (sLoad 22 t7) fun t8 =>
 Rd Try.prog WS.any (sBuiltin .len #[22] 3 [false] [t8]) fun t9 =>
 Rd Try.prog WS.any (sBin .add 3 true t9 (.int .i64 1)) fun t10 =>
 Rd Try.prog WS.any (sBin .mul 3 false v2 t10) fun t11 =>
 Rd Try.prog WS.any (sBin .add 3 false t11 v3) fun t12 =>
 Rd Try.prog WS.any (sIndexAddr 48 t5 t12) fun t13 =>
 Rd Try.prog (WS.at w.drew) (sLoad 22 t13) fun t14 =>
 Rd Try.prog WS.any (sIndexAddr 22 t14 v4) fun t15 =>
 Rd Try.prog (WS.at w.drew) (sLoad 3 t15) fun t16 =>
 Rd Try.prog WS.any (sBin .eql 3 true t16 (.int .i64 0)) fun t17 =>
 CondK t17
  (k (.slice none 0 0) w.drew)
  (Rd Try.prog (WS.at w.drew) (sNilCheck v0) fun t18 =>
  Rd Try.prog (WS.at w.drew) (sFieldAddr 175 t18 0) fun t19 =>
  Rd Try.prog (WS.at w.drew) (sLoad 37 t19) fun t20 =>
  CallK Try.prog 165 [t20, v1] (fun t21 w22 =>
  Rd Try.prog (WS.at w22) (sBuiltin .len #[22] 3 [false] [t21]) fun t23 =>
  LoopF [49, 50, 51, 15, 52, 53, 54, 55, 56, 57, 58, 59, 60, 61, 62, 63, 64, 65, 66, 67, 68, 69, 70, 71, 72, 73, 74, 75, 17, 76, 77, 78, 79, 80, 81, 82, 13, 83, 72, 84, 85, 86, 87, 88, 89, 90, 12, 91, 48] (fun Q24 f25 w26 =>
   Rd Try.prog (WS.at w26) (sBin .lss 3 false (f25 48) (f25 47)) fun t27 =>
   CondK t27
    (Rd Try.prog (WS.at w26) (sIndexAddr 22 (f25 46) (f25 48)) fun t28 =>
    Rd Try.prog (WS.at w26) (sLoad 3 t28) fun t29 =>
    Rd Try.prog (WS.at w26) (sNilCheck (f25 0)) fun t30 =>
    Rd Try.prog (WS.at w26) (sFieldAddr 175 t30 0) fun t31 =>
    Rd Try.prog (WS.at w26) (sFieldAddr 37 t31 2) fun t32 =>
    Rd Try.prog (WS.at w26) (sLoad 35 t32) fun t33 =>
    Rd Try.prog (WS.at w26) (sIndexAddr 35 t33 t29) fun t34 =>
    Rd Try.prog (WS.at w26) (sFieldAddr 77 t34 1) fun t35 =>
    Rd Try.prog (WS.at w26) (sLoad 22 t35) fun t36 =>
    Rd Try.prog (WS.at w26) (sBin .sub 3 true (f25 4) (.int .i64 1)) fun t37 =>
    Rd Try.prog (WS.at w26) (sBuiltin .len #[48] 3 [false] [(f25 13)]) fun t38 =>
    Rd Try.prog (WS.at w26) (sBin .sub 3 false (f25 5) t38) fun t39 =>
    CallK Try.prog 189 [(f25 0), t36, (f25 2), (f25 3), t37, t39] (fun t40 w41 =>
    Rd Try.prog (WS.at w41) (sBuiltin .len #[48] 3 [false] [t40]) fun t42 =>
    LoopF [73, 74, 75, 17, 76, 77, 78, 79, 80, 81, 82, 13, 83, 72] (fun Q43 f44 w45 =>
     Rd Try.prog (WS.at w45) (sBin .lss 3 false (f44 72) (f44 71)) fun t46 =>
     CondK t46
      (Rd Try.prog (WS.at w45) (sIndexAddr 48 (f44 70) (f44 72)) fun t47 =>
      Rd Try.prog (WS.at w45) (sLoad 22 t47) fun t48 =>
      Do Try.prog (sBuildSlice 22 1 [(0, (f44 15))]) (fun t49 w50 =>
      Do Try.prog (sBuiltin .append #[22, 22] 22 [false, false] [t49, t48]) (fun t51 w52 =>
      Do Try.prog (sBuildSlice 48 1 [(0, t51)]) (fun t53 w54 =>
      Do Try.prog (sBuiltin .append #[48, 48] 48 [false, false] [(f44 13), t53]) (fun t55 w56 =>
      Rd Try.prog (WS.at w56) (sBin .add 3 true (f44 72) (.int .i64 1)) fun t57 =>
      Q43 .normal (F.upd (F.upd (F.upd (F.upd (F.upd (F.upd (F.upd (F.upd (F.upd (F.upd (F.upd (F.upd (F.upd (F.upd f44 73 t46) 74 t47) 75 t48) 17 t48) 76 (f44 13)) 77 (f44 15)) 78 t49) 79 t48) 80 t51) 81 t53) 82 t55) 13 t55) 83 t57) 72 t57) w56) w54) w52) w50) w45)
      (Q43 (.exit 2) (F.upd f44 73 t46) w45))
     (blockQ 2 (seqQ (fun f58 w59 =>
    Rd Try.prog (WS.at w59) (sBuiltin .len #[48] 3 [false] [(f58 13)]) fun t60 =>
    Rd Try.prog (WS.at w59) (sBin .geq 3 false t60 (f58 5)) fun t61 =>
    CondK t61
     (Rd Try.prog (WS.at w59) (sSlice 48 (f58 13) none (some (f58 5)) none) fun t62 =>
     Q24 .ret (F.upd (F.upd (F.upd (F.upd (F.upd (F.upd (F.upd (F.upd f58 84 (f58 13)) 85 t60) 86 (f58 5)) 87 t61) 88 (f58 13)) 89 (f58 5)) 90 t62) 12 t62) w59)
     (Rd Try.prog (WS.at w59) (sBin .add 3 true (f58 48) (.int .i64 1)) fun t63 =>
     Q24 .normal (F.upd (F.upd (F.upd (F.upd (F.upd (F.upd f58 84 (f58 13)) 85 t60) 86 (f58 5)) 87 t61) 91 t63) 48 t63) w59)) (blockQ 1 (seqQ (fun f64 w65 =>
    Rd Try.prog (WS.at w65) (sBin .add 3 true (f64 48) (.int .i64 1)) fun t66 =>
    Q24 .normal (F.upd (F.upd f64 91 t66) 48 t66) w65) Q24))))
     (F.upd (F.upd (F.upd (F.upd (F.upd (F.upd (F.upd (F.upd (F.upd (F.upd (F.upd (F.upd (F.upd (F.upd (F.upd (F.upd (F.upd (F.upd (F.upd (F.upd (F.upd (F.upd (F.upd (F.upd (F.upd f25 49 t27) 50 t28) 51 t29) 15 t29) 52 (f25 0)) 53 (f25 0)) 54 t30) 55 t31) 56 t32) 57 t33) 58 t29) 59 t34) 60 t35) 61 t36) 62 (f25 2)) 63 (f25 3)) 64 (f25 4)) 65 t37) 66 (f25 5)) 67 (f25 13)) 68 t38) 69 t39) 70 t40) 71 t42) 72 (.int .i64 0)) w41) w26)
    (Q24 (.exit 0) (F.upd f25 49 t27) w26))
   (blockQ 0 (seqQ (fun f67 w68 =>
  k (f67 13) w68) (bodyQ Try.prog [.tmp 12] k)))
   (F.upd (F.upd (F.upd (F.upd (F.upd (F.upd (F.upd (F.upd (F.upd (F.upd (F.upd (F.upd (F.upd (F.upd (F.upd (F.upd (F.upd (F.upd (F.upd (F.upd (F.upd (F.upd (F.upd (F.upd (F.upd (F.upd (F.upd (F.upd (F.upd (F.upd (F.upd (F.upd (F.upd (initF [v0, v1, v2, v3, v4, v5]) 12 (.slice none 0 0)) 13 (.slice none 0 0)) 18 v0) 19 t1) 20 t2) 21 t3) 22 v1) 23 t4) 24 t5) 25 v2) 26 v0) 27 t6) 28 t7) 29 t8) 30 t9) 31 t10) 32 t11) 33 v3) 34 t12) 35 t13) 36 t14) 37 v4) 38 t15) 39 t16) 40 t17) 41 v0) 42 t18) 43 t19) 44 t20) 45 v1) 46 t21) 47 t23) 48 (.int .i64 0)) w22) w.drew)
theorem body168 : Try.f168.body = some (bodyOf Try.f168) := by kernel_rfl
theorem same168 (v0 v1 v2 v3 v4 v5 : Value) (k : Value → World → Prop) (w : World) : wpF Try.prog pl168 (bodyOf Try.f168) (bodyQ Try.prog Try.f168.results.toList k) (initF [v0, v1, v2, v3, v4, v5]) w = S168 v0 v1 v2 v3 v4 v5 k w := by kernel_rfl
theorem enter168 {v0 v1 v2 v3 v4 v5 : Value} {k : Value → World → Prop} {w : World} (h : S168 v0 v1 v2 v3 v4 v5 k w) : CallK Try.prog 168 [v0, v1, v2, v3, v4, v5] k w :=
  call_of_wpF (pl := pl168) mixed Try.func168 body168 (by kernel_rfl) (of_decide_eq_true (by kernel_rfl)) (by kernel_rfl) (by kernel_rfl) (same168 v0 v1 v2 v3 v4 v5 k w ▸ h)

/-! (*loop.example/g00758/impl.told).rest -/
def pl169 : Plans := fun i => match i with
  | 12 => ⟨false, [5], .step 0 .any (.step 1 .any (.step 2 .any (.step 3 .held (.step 4 .held (.step 5 .last (.step 6 .any (.step 7 .any (.step 8 .any (.step 9 .any (.step 10 .any (.nil)))))))))))⟩
  | 19 => ⟨false, [8], .step 0 .any (.step 1 .any (.step 2 .any (.step 3 .held (.step 4 .any (.step 5 .any (.step 6 .any (.step 7 .any (.step 8 .last (.step 9 .any (.nil))))))))))⟩
  | 37 => ⟨true, [8], .step 0 .any (.step 1 .any (.step 2 .any (.step 3 .held (.step 4 .held (.step 5 .any (.step 6 .any (.step 7 .one (.step 8 .last (.nil)))))))))⟩
  | 38 => ⟨false, [5], .step 0 .any (.step 1 .any (.step 2 .any (.step 3 .held (.step 4 .held (.step 5 .last (.step 6 .any (.nil)))))))⟩
  | _ => ⟨false, [], .nil⟩
def S169 (v0 v1 v2 v3 v4 v5 : Value) (k : Value → World → Prop) (w : World) : Prop :=
 Rd Try.prog (WS.at w) (sNilCheck v0) fun t1 =>
 Rd Try.prog (WS.at w) (sFieldAddr 143 t1 0) fun t2 =>
 Rd Try.prog (WS.at w) (sFieldAddr 37 t2 2) fun t3 =>
 Rd Try.prog (WS.at w) (sLoad 35 t3) fun t4 =>
 Rd Try.prog (WS.at w) (sIndexAddr 35 t4 v1) fun t5 =>
 Rd Try.prog (WS.at w) (sFieldAddr 77 t5 1) fun t6 =>
 Rd Try.prog (WS.at w) (sLoad 22 t6) fun t7 =>
 Rd Try.prog (WS.at w) (sSlice 22 t7 (some v2) none none) fun t8 =>
 Rd Try.prog (WS.at w) (sBuiltin .len #[22] 3 [false] [t8]) fun t9 =>
 Rd Try.prog (WS.at w) (sBin .eql 3 true t9 (.int .i64 0)) fun t10 =>
 CondK t10
  (Rd Try.prog (WS.at w) (sBin .eql 3 false v3 v4) fun t11 =>
  GuardK t11 true (fun k w' => k v5 w') (fun t12 w13 =>
  GuardK t11 true (fun k w' => Rd Try.prog (WS.at w13) (sBin .eql 3 true t12 (.int .i64 0)) fun v => k v w') (fun t14 w15 =>
  Rd Try.prog (WS.at w15) (sPick t11 t14 (.bool false)) fun t16 =>
  CondK t16
   (Do Try.prog (sBuildSlice 22 0 []) (fun t17 w18 =>
   Do Try.prog (sBuildSlice 48 1 [(0, t17)]) (fun t19 w20 =>
   k t19 w20) w18) w15)
   (k (.slice none 0 0) w15)) w13) w)
  (Rd Try.prog (WS.at w) (sNilCheck v0) fun t21 =>
  Rd Try.prog (WS.at w) (sFieldAddr 143 t21 1) fun t22 =>
  Rd Try.prog (WS.at w) (sLoad 112 t22) fun t23 =>
  CallK Try.prog 149 [t23, t8, v3, v4] (fun t24 w25 =>
  Rd Try.prog (WS.at w25) (sUn .not t24) fun t26 =>
  CondK t26
   (k (.slice none 0 0) w25)
   (Rd Try.prog (WS.at w25) (sIndexAddr 22 t8 (.int .i64 0)) fun t27 =>
   Rd Try.prog (WS.at w25) (sLoad 3 t27) fun t28 =>
   Rd Try.prog (WS.at w25) (sBin .lss 3 true t28 (.int .i64 0)) fun t29 =>
   CondK t29
    (Rd Try.prog (WS.at w25) (sBin .add 3 true v2 (.int .i64 1)) fun t30 =>
    Rd Try.prog (WS.at w25) (sBin .add 3 true v3 (.int .i64 1)) fun t31 =>
    CallK Try.prog 169 [v0, v1, t30, t31, v4, v5] (fun t32 w33 =>
    k t32 w33) w25)
    (Rd Try.prog (WS.at w25) (sBin .mul 3 true v1 (.int .i64 5)) fun t34 =>
    Rd Try.prog (WS.at w25) (sBin .add 3 false t34 v2) fun t35 =>
    Rd Try.prog (WS.at w25) (sBuild 186 [(0, t35), (1, v3), (2, v4), (3, v5)]) fun t36 =>
    Do Try.prog (sAlloc 186) (fun t37 w38 =>
    Do Try.prog (sStore 186 t37 t36) (fun _ w39 =>
    Rd Try.prog WS.any (sNilCheck v0) fun t40 =>
    Rd Try.prog WS.any (sFieldAddr 143 t40 3) fun t41 =>
    Rd Try.prog (WS.at w39.drew) (sLoad 141 t41) fun t42 =>
    Rd Try.prog (WS.at w39.drew) (sLoad 186 t37) fun t43 =>
    Do Try.prog (sLookup 141 t42 t43 true) (fun t44 w45 =>
    Rd Try.prog WS.any (sExtract t44 0) fun t46 =>
    Rd Try.prog WS.any (sExtract t44 1) fun t47 =>
    CondK t47
     (k t46 w45)
     (Do Try.prog (sBuildSlice 48 0 []) (fun t48 w49 =>
     LoopF [94, 95, 96, 99, 100, 101, 102, 103, 104, 105, 106, 107, 108, 20, 109, 110, 111, 114, 115, 116, 117, 118, 119, 120, 121, 122, 123, 21, 124, 125, 126, 22, 127, 128, 129, 130, 131, 132, 133, 134, 135, 136, 137, 24, 138, 139, 140, 141, 142, 143, 26, 144, 145, 146, 147, 148, 149, 150, 151, 152, 153, 154, 155, 156, 157, 18, 158, 159, 22, 160, 140, 161, 134, 112, 113, 20, 97, 98, 19] (fun Q50 f51 w52 =>
      Rd Try.prog (WS.at w52) (sBin .leq 3 false (f51 19) (f51 4)) fun t53 =>
      CondK t53
       (Join (fun K54 =>
       Rd Try.prog WS.any (sNilCheck (f51 0)) fun t57 =>
       Rd Try.prog WS.any (sFieldAddr 143 t57 1) fun t58 =>
       Rd Try.prog (WS.at w52.drew) (sLoad 112 t58) fun t59 =>
       Rd Try.prog WS.any (sSlice 22 (f51 13) (some (.int .i64 1)) none none) fun t60 =>
       CallK Try.prog 149 [t59, t60, (f51 19), (f51 4)] (fun t61 w62 =>
       Rd Try.prog WS.any (sUn .not t61) fun t63 =>
       CondK t63
        (K54 (F.upd (F.upd (F.upd (F.upd (F.upd (F.upd (F.upd (F.upd (F.upd (F.upd (F.upd (F.upd (F.upd f51 94 (f51 19)) 95 (f51 4)) 96 t53) 99 (f51 0)) 100 t57) 101 t58) 102 t59) 103 (f51 13)) 104 t60) 105 (f51 19)) 106 (f51 4)) 107 t61) 108 t63) w62)
        (LoopF [109, 110, 111, 114, 115, 116, 117, 118, 119, 120, 121, 122, 123, 21, 124, 125, 126, 22, 127, 128, 129, 130, 131, 132, 133, 134, 135, 136, 137, 24, 138, 139, 140, 141, 142, 143, 26, 144, 145, 146, 147, 148, 149, 150, 151, 152, 153, 154, 155, 156, 157, 18, 158, 159, 22, 160, 140, 161, 134, 112, 113, 20] (fun Q64 f65 w66 =>
         Rd Try.prog (WS.at w66) (sBin .leq 3 false (f65 20) (f65 5)) fun t67 =>
         CondK t67
          (Join (fun K68 =>
          Rd Try.prog (WS.at w66) (sBin .add 3 true (f65 2) (.int .i64 1)) fun t71 =>
          Rd Try.prog (WS.at w66) (sBin .sub 3 false (f65 5) (f65 20)) fun t72 =>
          CallK Try.prog 169 [(f65 0), (f65 1), t71, (f65 19), (f65 4), t72] (fun t73 w74 =>
          Rd Try.prog (WS.at w74) (sBuiltin .len #[48] 3 [false] [t73]) fun t75 =>
          Rd Try.prog (WS.at w74) (sBin .eql 3 true t75 (.int .i64 0)) fun t76 =>
          CondK t76
           (K68 (F.upd (F.upd (F.upd (F.upd (F.upd (F.upd (F.upd (F.upd (F.upd (F.upd (F.upd (F.upd (F.upd (F.upd (F.upd (F.upd (F.upd f65 109 (f65 20)) 110 (f65 5)) 111 t67) 114 (f65 0)) 115 (f65 1)) 116 (f65 2)) 117 t71) 118 (f65 19)) 119 (f65 4)) 120 (f65 5)) 121 (f65 20)) 122 t72) 123 t73) 21 t73) 124 t73) 125 t75) 126 t76) w74)
           (CallK Try.prog 128 [(f65 0), (f65 14), (f65 3), (f65 19), (f65 20)] (fun t77 w78 =>
           Rd Try.prog (WS.at w78) (sBuiltin .len #[48] 3 [false] [t77]) fun t79 =>
           LoopF [135, 136, 137, 24, 138, 139, 140, 141, 142, 143, 26, 144, 145, 146, 147, 148, 149, 150, 151, 152, 153, 154, 155, 156, 157, 18, 158, 159, 22, 160, 140, 161, 134] (fun Q80 f81 w82 =>
            Rd Try.prog (WS.at w82) (sBin .lss 3 false (f81 134) (f81 133)) fun t83 =>
            CondK t83
             (Rd Try.prog (WS.at w82) (sIndexAddr 48 (f81 132) (f81 134)) fun t84 =>
             Rd Try.prog (WS.at w82) (sLoad 22 t84) fun t85 =>
             Rd Try.prog (WS.at w82) (sBuiltin .len #[48] 3 [false] [(f81 21)]) fun t86 =>
             LoopF [141, 142, 143, 26, 144, 145, 146, 147, 148, 149, 150, 151, 152, 153, 154, 155, 156, 157, 18, 158, 159, 22, 160, 140] (fun Q87 f88 w89 =>
              Rd Try.prog (WS.at w89) (sBin .lss 3 false (f88 140) (f88 139)) fun t90 =>
              CondK t90
               (Join (fun K91 =>
               Rd Try.prog (WS.at w89) (sIndexAddr 48 (f88 138) (f88 140)) fun t94 =>
               Rd Try.prog (WS.at w89) (sLoad 22 t94) fun t95 =>
               Join (fun K96 =>
               Rd Try.prog (WS.at w89) (sNilCheck (f88 0)) fun t99 =>
               Rd Try.prog (WS.at w89) (sFieldAddr 143 t99 2) fun t100 =>
               Rd Try.prog (WS.at w89) (sLoad 3 t100) fun t101 =>
               Rd Try.prog (WS.at w89) (sBin .lss 3 false (f88 22) t101) fun t102 =>
               CondK t102
                (Do Try.prog (sBuildSlice 22 0 []) (fun t103 w104 =>
                Do Try.prog (sBuiltin .append #[22, 22] 22 [false, false] [t103, (f88 24)]) (fun t105 w106 =>
                Do Try.prog (sBuiltin .append #[22, 22] 22 [false, false] [t105, t95]) (fun t107 w108 =>
                Do Try.prog (sBuildSlice 48 1 [(0, t107)]) (fun t109 w110 =>
                Do Try.prog (sBuiltin .append #[48, 48] 48 [false, false] [(f88 18), t109]) (fun t111 w112 =>
                K96 (F.upd (F.upd (F.upd (F.upd (F.upd (F.upd (F.upd (F.upd (F.upd (F.upd (F.upd (F.upd (F.upd (F.upd (F.upd (F.upd (F.upd (F.upd (F.upd f88 141 t90) 142 t94) 143 t95) 26 t95) 144 (f88 22)) 145 (f88 0)) 146 t99) 147 t100) 148 t101) 149 t102) 150 (f88 18)) 151 t103) 152 (f88 24)) 153 t105) 154 t95) 155 t107) 156 t109) 157 t111) 18 t111) w112) w110) w108) w106) w104) w89)
                (K96 (F.upd (F.upd (F.upd (F.upd (F.upd (F.upd (F.upd (F.upd (F.upd (F.upd f88 141 t90) 142 t94) 143 t95) 26 t95) 144 (f88 22)) 145 (f88 0)) 146 t99) 147 t100) 148 t101) 149 t102) w89)) (fun f97 w98 =>
               Rd Try.prog (WS.at w98) (sBin .add 3 true (f97 22) (.int .i64 1)) fun t113 =>
               K91 (F.upd (F.upd (F.upd f97 158 (f97 22)) 159 t113) 22 t113) w98)) (fun f92 w93 =>
               Rd Try.prog (WS.at w93) (sBin .add 3 true (f92 140) (.int .i64 1)) fun t114 =>
               Q87 .normal (F.upd (F.upd f92 160 t114) 140 t114) w93))
               (Q87 (.exit 6) (F.upd f88 141 t90) w89))
              (blockQ 6 (blockQ 5 (seqQ (fun f115 w116 =>
             Rd Try.prog (WS.at w116) (sBin .add 3 true (f115 134) (.int .i64 1)) fun t117 =>
             Q80 .normal (F.upd (F.upd f115 161 t117) 134 t117) w116) Q80)))
              (F.upd (F.upd (F.upd (F.upd (F.upd (F.upd (F.upd f81 135 t83) 136 t84) 137 t85) 24 t85) 138 (f81 21)) 139 t86) 140 (.int .i64 0)) w82)
             (Q80 (.exit 4) (F.upd f81 135 t83) w82))
            (blockQ 4 (blockQ 3 (seqQ K68 Q64)))
            (F.upd (F.upd (F.upd (F.upd (F.upd (F.upd (F.upd (F.upd (F.upd (F.upd (F.upd (F.upd (F.upd (F.upd (F.upd (F.upd (F.upd (F.upd (F.upd (F.upd (F.upd (F.upd (F.upd (F.upd (F.upd (F.upd f65 109 (f65 20)) 110 (f65 5)) 111 t67) 114 (f65 0)) 115 (f65 1)) 116 (f65 2)) 117 t71) 118 (f65 19)) 119 (f65 4)) 120 (f65 5)) 121 (f65 20)) 122 t72) 123 t73) 21 t73) 124 t73) 125 t75) 126 t76) 22 (.int .i64 0)) 127 (f65 0)) 128 (f65 14)) 129 (f65 3)) 130 (f65 19)) 131 (f65 20)) 132 t77) 133 t79) 134 (.int .i64 0)) w78) w74)) w66) (fun f69 w70 =>
          Rd Try.prog (WS.at w70) (sBin .add 3 true (f69 20) (.int .i64 1)) fun t120 =>
          Q64 .normal (F.upd (F.upd (F.upd f69 112 (f69 20)) 113 t120) 20 t120) w70))
          (Q64 (.exit 2) (F.upd (F.upd (F.upd f65 109 (f65 20)) 110 (f65 5)) 111 t67) w66))
         (blockQ 2 (blockQ 1 (seqQ K54 Q50)))
         (F.upd (F.upd (F.upd (F.upd (F.upd (F.upd (F.upd (F.upd (F.upd (F.upd (F.upd (F.upd (F.upd (F.upd f51 94 (f51 19)) 95 (f51 4)) 96 t53) 99 (f51 0)) 100 t57) 101 t58) 102 t59) 103 (f51 13)) 104 t60) 105 (f51 19)) 106 (f51 4)) 107 t61) 108 t63) 20 (.int .i64 1)) w62)) w52.drew) (fun f55 w56 =>
       Rd Try.prog (WS.at w56) (sBin .add 3 true (f55 19) (.int .i64 1)) fun t123 =>
       Q50 .normal (F.upd (F.upd (F.upd f55 97 (f55 19)) 98 t123) 19 t123) w56))
       (Q50 (.exit 0) (F.upd (F.upd (F.upd f51 94 (f51 19)) 95 (f51 4)) 96 t53) w52))
      (blockQ 0 (seqQ (fun f124 w125 =>
     ∃ S126 : World → Prop, ∃ h127 : S126 w125.drew,
     Rd Try.prog WS.any (sNilCheck (f124 0)) fun t128 =>
     Rd Try.prog WS.any (sFieldAddr 143 t128 3) fun t129 =>
     Rd Try.prog ⟨S126, w125.drew, h127⟩ (sLoad 141 t129) fun t130 =>
     Rd Try.prog ⟨S126, w125.drew, h127⟩ (sLoad 186 (f124 15)) fun t131 =>
     CallK Try.prog 170 [(f124 0), (f124 18)] (fun t132 w133 =>
     S126 w133 ∧ Do Try.prog (sMapUpdate 141 t130 t131 t132) (fun _ w134 =>
     Rd Try.prog WS.any (sNilCheck (f124 0)) fun t135 =>
     Rd Try.prog WS.any (sFieldAddr 143 t135 3) fun t136 =>
     Rd Try.prog (WS.at w134.drew) (sLoad 141 t136) fun t137 =>
     Rd Try.prog (WS.at w134.drew) (sLoad 186 (f124 15)) fun t138 =>
     Do Try.prog (sLookup 141 t137 t138 false) (fun t139 w140 =>
     k t139 w140) w134.drew) w133) w125.drew) (bodyQ Try.prog [.tmp 12] k)))
      (F.upd (F.upd (F.upd (F.upd (F.upd (F.upd (F.upd (F.upd (F.upd (F.upd (F.upd (F.upd (F.upd (F.upd (F.upd (F.upd (F.upd (F.upd (F.upd (F.upd (F.upd (F.upd (F.upd (F.upd (F.upd (F.upd (F.upd (F.upd (F.upd (F.upd (F.upd (F.upd (F.upd (F.upd (F.upd (F.upd (F.upd (F.upd (F.upd (F.upd (F.upd (F.upd (F.upd (F.upd (F.upd (F.upd (F.upd (F.upd (F.upd (F.upd (F.upd (F.upd (F.upd (F.upd (F.upd (F.upd (initF [v0, v1, v2, v3, v4, v5]) 12 (.slice none 0 0)) 27 v0) 28 t1) 29 t2) 30 t3) 31 t4) 32 v1) 33 t5) 34 t6) 35 t7) 36 v2) 37 t8) 13 t8) 38 t8) 39 t9) 40 t10) 50 v0) 51 t21) 52 t22) 53 t23) 54 t8) 55 v3) 56 v4) 57 t24) 58 t26) 59 t8) 60 t27) 61 t28) 14 t28) 62 t28) 63 t29) 73 v1) 74 t34) 75 v2) 76 t35) 77 v3) 78 v4) 79 v5) 80 t36) 15 t37) 82 v0) 83 t40) 84 t41) 85 t42) 86 t43) 87 t44) 81 t44) 88 t46) 89 t47) 16 t46) 17 t47) 90 t47) 92 t48) 18 t48) 93 v3) 19 v3) w49) w45)) w39.drew) w38) w25))) w)
theorem body169 : Try.f169.body = some (bodyOf Try.f169) := by kernel_rfl
theorem same169 (v0 v1 v2 v3 v4 v5 : Value) (k : Value → World → Prop) (w : World) : wpF Try.prog pl169 (bodyOf Try.f169) (bodyQ Try.prog Try.f169.results.toList k) (initF [v0, v1, v2, v3, v4, v5]) w = S169 v0 v1 v2 v3 v4 v5 k w := by kernel_rfl
theorem enter169 {v0 v1 v2 v3 v4 v5 : Value} {k : Value → World → Prop} {w : World} (h : S169 v0 v1 v2 v3 v4 v5 k w) : CallK Try.prog 169 [v0, v1, v2, v3, v4, v5] k w :=
  call_of_wpF (pl := pl169) mixed Try.func169 body169 (by kernel_rfl) (of_decide_eq_true (by kernel_rfl)) (by kernel_rfl) (by kernel_rfl) (same169 v0 v1 v2 v3 v4 v5 k w ▸ h)

/-! (*loop.example/g00758/impl.told).firsts -/
def pl170 : Plans := fun _ => ⟨false, [], .nil⟩
def S170 (v0 v1 : Value) (k : Value → World → Prop) (w : World) : Prop :=
 CallK Try.prog 190 [v1, (.func (.func 164) #[] #[])] (fun t1 w2 =>
 Rd Try.prog (WS.at w2) (sBuiltin .len #[48] 3 [false] [v1]) fun t3 =>
 Rd Try.prog (WS.at w2) (sNilCheck v0) fun t4 =>
 Rd Try.prog (WS.at w2) (sFieldAddr 143 t4 2) fun t5 =>
 Rd Try.prog (WS.at w2) (sLoad 3 t5) fun t6 =>
 Rd Try.prog (WS.at w2) (sBuiltin .min #[3, 3] 3 [false, false] [t3, t6]) fun t7 =>
 Rd Try.prog (WS.at w2) (sSlice 48 v1 none (some t7) none) fun t8 =>
 k t8 w2) w
theorem body170 : Try.f170.body = some (bodyOf Try.f170) := by kernel_rfl
theorem same170 (v0 v1 : Value) (k : Value → World → Prop) (w : World) : wpF Try.prog pl170 (bodyOf Try.f170) (bodyQ Try.prog Try.f170.results.toList k) (initF [v0, v1]) w = S170 v0 v1 k w := by kernel_rfl
theorem enter170 {v0 v1 : Value} {k : Value → World → Prop} {w : World} (h : S170 v0 v1 k w) : CallK Try.prog 170 [v0, v1] k w :=
  call_of_wpF (pl := pl170) mixed Try.func170 body170 (by kernel_rfl) (of_decide_eq_true (by kernel_rfl)) (by kernel_rfl) (by kernel_rfl) (same170 v0 v1 k w ▸ h)

/-! (*loop.example/g00758/spec.l11Make).row -/
def pl189 : Plans := fun i => match i with
  | 1 => ⟨false, [12], .step 0 .any (.step 1 .any (.step 2 .any (.step 3 .held (.step 4 .any (.step 5 .any (.step 6 .any (.step 7 .held (.step 8 .any (.step 9 .any (.step 10 .any (.step 11 .any (.step 12 .last (.step 13 .any (.step 14 .any (.step 15 .any (.step 16 .any (.step 17 .any (.nil))))))))))))))))))⟩
  | _ => ⟨false, [], .nil⟩
def S189 (v0 v1 v2 v3 v4 v5 : Value) (k : Value → World → Prop) (w : World) : Prop :=
 Rd Try.prog WS.any (sNilCheck v0) fun t1 =>
 Rd Try.prog WS.any (sFieldAddr 175 t1 2) fun t2 =>
 Rd Try.prog (WS.at w.drew) (sLoad 126 t2) fun t3 =>
 Rd Try.prog WS.any (sNilCheck v0) fun t4 =>
 Rd Try.prog WS.any (sFieldAddr 175 t4 1) fun t5 =>
 Rd Try.prog (WS.at w.drew) (sLoad 22 t5) fun t6 =>
 CallK Try.prog 156 [t3, t6, v1, v2, v3, v4] (fun t7 w8 =>
 Rd Try.prog WS.any (sBin .eql 3 true t7 (.int .i64 0)) fun t9 =>
 GuardK t9 false (fun k w' => k v5 w') (fun t10 w11 =>
 GuardK t9 false (fun k w' => Rd Try.prog WS.any (sBin .leq 3 true t10 (.int .i64 0)) fun v => k v w') (fun t12 w13 =>
 Rd Try.prog WS.any (sPick t9 (.bool true) t12) fun t14 =>
 CondK t14
  (k (.slice none 0 0) w13)
  (Rd Try.prog (WS.at w13) (sBuiltin .len #[22] 3 [false] [v1]) fun t15 =>
  Rd Try.prog (WS.at w13) (sBin .eql 3 true t15 (.int .i64 0)) fun t16 =>
  CondK t16
   (Do Try.prog (sBuildSlice 48 1 [(0, (.slice none 0 0))]) (fun t17 w18 =>
   k t17 w18) w13)
   (Rd Try.prog (WS.at w13) (sIndexAddr 22 v1 (.int .i64 0)) fun t19 =>
   Rd Try.prog (WS.at w13) (sLoad 3 t19) fun t20 =>
   Rd Try.prog (WS.at w13) (sBin .lss 3 true t20 (.int .i64 0)) fun t21 =>
   CondK t21
    (Rd Try.prog (WS.at w13) (sSlice 22 v1 (some (.int .i64 1)) none none) fun t22 =>
    Rd Try.prog (WS.at w13) (sBin .add 3 true v2 (.int .i64 1)) fun t23 =>
    CallK Try.prog 189 [v0, t22, t23, v3, v4, v5] (fun t24 w25 =>
    k t24 w25) w13)
    (LoopF [57, 58, 59, 15, 62, 63, 64, 67, 68, 69, 70, 71, 72, 73, 74, 75, 76, 16, 77, 78, 79, 80, 81, 82, 83, 84, 85, 86, 87, 88, 89, 90, 91, 92, 93, 18, 94, 95, 96, 97, 98, 99, 20, 100, 101, 102, 103, 104, 105, 106, 13, 107, 96, 108, 90, 65, 66, 15, 60, 61, 14] (fun Q26 f27 w28 =>
     Rd Try.prog (WS.at w28) (sBin .leq 3 false (f27 14) (f27 3)) fun t29 =>
     CondK t29
      (LoopF [62, 63, 64, 67, 68, 69, 70, 71, 72, 73, 74, 75, 76, 16, 77, 78, 79, 80, 81, 82, 83, 84, 85, 86, 87, 88, 89, 90, 91, 92, 93, 18, 94, 95, 96, 97, 98, 99, 20, 100, 101, 102, 103, 104, 105, 106, 13, 107, 96, 108, 90, 65, 66, 15] (fun Q30 f31 w32 =>
       Rd Try.prog (WS.at w32) (sBin .leq 3 false (f31 15) (f31 4)) fun t33 =>
       CondK t33
        (Join (fun K34 =>
        Rd Try.prog (WS.at w32) (sSlice 22 (f31 1) (some (.int .i64 1)) none none) fun t37 =>
        Rd Try.prog (WS.at w32) (sBin .sub 3 false (f31 4) (f31 15)) fun t38 =>
        CallK Try.prog 189 [(f31 0), t37, (f31 14), (f31 3), t38, (f31 5)] (fun t39 w40 =>
        Rd Try.prog (WS.at w40) (sBuiltin .len #[48] 3 [false] [t39]) fun t41 =>
        Rd Try.prog (WS.at w40) (sBin .eql 3 true t41 (.int .i64 0)) fun t42 =>
        CondK t42
         (K34 (F.upd (F.upd (F.upd (F.upd (F.upd (F.upd (F.upd (F.upd (F.upd (F.upd (F.upd (F.upd (F.upd (F.upd (F.upd (F.upd (F.upd f31 62 (f31 15)) 63 (f31 4)) 64 t33) 67 (f31 0)) 68 (f31 1)) 69 t37) 70 (f31 14)) 71 (f31 3)) 72 (f31 4)) 73 (f31 15)) 74 t38) 75 (f31 5)) 76 t39) 16 t39) 77 t39) 78 t41) 79 t42) w40)
         (Rd Try.prog (WS.at w40) (sIndexAddr 22 (f31 1) (.int .i64 0)) fun t43 =>
         Rd Try.prog (WS.at w40) (sLoad 3 t43) fun t44 =>
         CallK Try.prog 168 [(f31 0), t44, (f31 2), (f31 14), (f31 15), (f31 5)] (fun t45 w46 =>
         Rd Try.prog (WS.at w46) (sBuiltin .len #[48] 3 [false] [t45]) fun t47 =>
         LoopF [91, 92, 93, 18, 94, 95, 96, 97, 98, 99, 20, 100, 101, 102, 103, 104, 105, 106, 13, 107, 96, 108, 90] (fun Q48 f49 w50 =>
          Rd Try.prog (WS.at w50) (sBin .lss 3 false (f49 90) (f49 89)) fun t51 =>
          CondK t51
           (Rd Try.prog (WS.at w50) (sIndexAddr 48 (f49 88) (f49 90)) fun t52 =>
           Rd Try.prog (WS.at w50) (sLoad 22 t52) fun t53 =>
           Rd Try.prog (WS.at w50) (sBuiltin .len #[48] 3 [false] [(f49 16)]) fun t54 =>
           LoopF [97, 98, 99, 20, 100, 101, 102, 103, 104, 105, 106, 13, 107, 96] (fun Q55 f56 w57 =>
            Rd Try.prog (WS.at w57) (sBin .lss 3 false (f56 96) (f56 95)) fun t58 =>
            CondK t58
             (Rd Try.prog (WS.at w57) (sIndexAddr 48 (f56 94) (f56 96)) fun t59 =>
             Rd Try.prog (WS.at w57) (sLoad 22 t59) fun t60 =>
             CallK Try.prog 116 [(f56 18)] (fun t61 w62 =>
             Do Try.prog (sBuiltin .append #[22, 22] 22 [false, false] [t61, t60]) (fun t63 w64 =>
             CallK Try.prog 194 [(f56 13), t63, (f56 5)] (fun t65 w66 =>
             Rd Try.prog (WS.at w66) (sBin .add 3 true (f56 96) (.int .i64 1)) fun t67 =>
             Q55 .normal (F.upd (F.upd (F.upd (F.upd (F.upd (F.upd (F.upd (F.upd (F.upd (F.upd (F.upd (F.upd (F.upd (F.upd f56 97 t58) 98 t59) 99 t60) 20 t60) 100 (f56 13)) 101 (f56 18)) 102 t61) 103 t60) 104 t63) 105 (f56 5)) 106 t65) 13 t65) 107 t67) 96 t67) w66) w64) w62) w57)
             (Q55 (.exit 6) (F.upd f56 97 t58) w57))
            (blockQ 6 (blockQ 5 (seqQ (fun f68 w69 =>
           Rd Try.prog (WS.at w69) (sBin .add 3 true (f68 90) (.int .i64 1)) fun t70 =>
           Q48 .normal (F.upd (F.upd f68 108 t70) 90 t70) w69) Q48)))
            (F.upd (F.upd (F.upd (F.upd (F.upd (F.upd (F.upd f49 91 t51) 92 t52) 93 t53) 18 t53) 94 (f49 16)) 95 t54) 96 (.int .i64 0)) w50)
           (Q48 (.exit 4) (F.upd f49 91 t51) w50))
          (blockQ 4 (blockQ 3 (seqQ K34 Q30)))
          (F.upd (F.upd (F.upd (F.upd (F.upd (F.upd (F.upd (F.upd (F.upd (F.upd (F.upd (F.upd (F.upd (F.upd (F.upd (F.upd (F.upd (F.upd (F.upd (F.upd (F.upd (F.upd (F.upd (F.upd (F.upd (F.upd (F.upd (F.upd f31 62 (f31 15)) 63 (f31 4)) 64 t33) 67 (f31 0)) 68 (f31 1)) 69 t37) 70 (f31 14)) 71 (f31 3)) 72 (f31 4)) 73 (f31 15)) 74 t38) 75 (f31 5)) 76 t39) 16 t39) 77 t39) 78 t41) 79 t42) 80 (f31 0)) 81 (f31 1)) 82 t43) 83 t44) 84 (f31 2)) 85 (f31 14)) 86 (f31 15)) 87 (f31 5)) 88 t45) 89 t47) 90 (.int .i64 0)) w46) w40)) w32) (fun f35 w36 =>
        Rd Try.prog (WS.at w36) (sBin .add 3 true (f35 15) (.int .i64 1)) fun t73 =>
        Q30 .normal (F.upd (F.upd (F.upd f35 65 (f35 15)) 66 t73) 15 t73) w36))
        (Q30 (.exit 2) (F.upd (F.upd (F.upd f31 62 (f31 15)) 63 (f31 4)) 64 t33) w32))
       (blockQ 2 (blockQ 1 (seqQ (fun f74 w75 =>
      Rd Try.prog (WS.at w75) (sBin .add 3 true (f74 14) (.int .i64 1)) fun t76 =>
      Q26 .normal (F.upd (F.upd (F.upd f74 60 (f74 14)) 61 t76) 14 t76) w75) Q26)))
       (F.upd (F.upd (F.upd (F.upd f27 57 (f27 14)) 58 (f27 3)) 59 t29) 15 (.int .i64 1)) w28)
      (Q26 (.exit 0) (F.upd (F.upd (F.upd f27 57 (f27 14)) 58 (f27 3)) 59 t29) w28))
     (blockQ 0 (seqQ (fun f77 w78 =>
    k (f77 13) w78) (bodyQ Try.prog [.tmp 12] k)))
     (F.upd (F.upd (F.upd (F.upd (F.upd (F.upd (F.upd (F.upd (F.upd (F.upd (F.upd (F.upd (F.upd (F.upd (F.upd (F.upd (F.upd (F.upd (F.upd (F.upd (F.upd (F.upd (F.upd (F.upd (F.upd (F.upd (F.upd (F.upd (F.upd (initF [v0, v1, v2, v3, v4, v5]) 12 (.slice none 0 0)) 21 v0) 22 t1) 23 t2) 24 t3) 25 v0) 26 t4) 27 t5) 28 t6) 29 v1) 30 v2) 31 v3) 32 v4) 33 t7) 34 t9) 35 t9) 36 t10) 37 t12) 38 t14) 39 v1) 40 t15) 41 t16) 43 v1) 44 t19) 45 t20) 46 t21) 13 (.slice none 0 0)) 56 v2) 14 v2) w13)))) w11) w8) w.drew
theorem body189 : Try.f189.body = some (bodyOf Try.f189) := by kernel_rfl
theorem same189 (v0 v1 v2 v3 v4 v5 : Value) (k : Value → World → Prop) (w : World) : wpF Try.prog pl189 (bodyOf Try.f189) (bodyQ Try.prog Try.f189.results.toList k) (initF [v0, v1, v2, v3, v4, v5]) w = S189 v0 v1 v2 v3 v4 v5 k w := by kernel_rfl
theorem enter189 {v0 v1 v2 v3 v4 v5 : Value} {k : Value → World → Prop} {w : World} (h : S189 v0 v1 v2 v3 v4 v5 k w) : CallK Try.prog 189 [v0, v1, v2, v3, v4, v5] k w :=
  call_of_wpF (pl := pl189) mixed Try.func189 body189 (by kernel_rfl) (of_decide_eq_true (by kernel_rfl)) (by kernel_rfl) (by kernel_rfl) (same189 v0 v1 v2 v3 v4 v5 k w ▸ h)

/-! loop.example/g00758/spec.l11Insert -/
def pl194 : Plans := fun _ => ⟨false, [], .nil⟩
def S194 (v0 v1 v2 : Value) (k : Value → World → Prop) (w : World) : Prop :=
 Rd Try.prog (WS.at w) (sBuiltin .len #[48] 3 [false] [v0]) fun t1 =>
 LoopF [12, 13, 14, 15, 16, 17, 18, 19, 20, 21, 22, 23, 24, 7] (fun Q2 f3 w4 =>
  Rd Try.prog (WS.at w4) (sBin .gtr 3 true (f3 7) (.int .i64 0)) fun t5 =>
  GuardK t5 true (fun k w' => k (f3 1) w') (fun t6 w7 =>
  GuardK t5 true (fun k w' => k (f3 0) w') (fun t8 w9 =>
  GuardK t5 true (fun k w' => k (f3 7) w') (fun t10 w11 =>
  GuardK t5 true (fun k w' => Rd Try.prog (WS.at w11) (sBin .sub 3 true t10 (.int .i64 1)) fun v => k v w') (fun t12 w13 =>
  GuardK t5 true (fun k w' => Rd Try.prog (WS.at w13) (sIndexAddr 48 t8 t12) fun v => k v w') (fun t14 w15 =>
  GuardK t5 true (fun k w' => Rd Try.prog (WS.at w15) (sLoad 22 t14) fun v => k v w') (fun t16 w17 =>
  GuardK t5 true (fun k w' => CallK Try.prog 188 [t6, t16] k w') (fun t18 w19 =>
  Rd Try.prog (WS.at w19) (sPick t5 t18 (.bool false)) fun t20 =>
  CondK t20
   (Rd Try.prog (WS.at w19) (sBin .sub 3 true (f3 7) (.int .i64 1)) fun t21 =>
   Q2 .normal (F.upd (F.upd (F.upd (F.upd (F.upd (F.upd (F.upd (F.upd (F.upd (F.upd (F.upd (F.upd (F.upd (F.upd f3 12 (f3 7)) 13 t5) 14 t5) 15 t6) 16 t8) 17 t10) 18 t12) 19 t14) 20 t16) 21 t18) 22 t20) 23 (f3 7)) 24 t21) 7 t21) w19)
   (Q2 (.exit 0) (F.upd (F.upd (F.upd (F.upd (F.upd (F.upd (F.upd (F.upd (F.upd (F.upd (F.upd f3 12 (f3 7)) 13 t5) 14 t5) 15 t6) 16 t8) 17 t10) 18 t12) 19 t14) 20 t16) 21 t18) 22 t20) w19)) w17) w15) w13) w11) w9) w7) w4)
  (blockQ 0 (seqQ (fun f22 w23 =>
 Rd Try.prog (WS.at w23) (sBin .geq 3 false (f22 7) (f22 2)) fun t24 =>
 CondK t24
  (k (f22 0) w23)
  (Do Try.prog (sBuildSlice 48 0 []) (fun t25 w26 =>
  Rd Try.prog (WS.at w26) (sSlice 48 (f22 0) (some (f22 7)) none none) fun t27 =>
  Do Try.prog (sBuiltin .append #[48, 48] 48 [false, false] [t25, t27]) (fun t28 w29 =>
  Do Try.prog (sBuildSlice 48 0 []) (fun t30 w31 =>
  Rd Try.prog (WS.at w31) (sSlice 48 (f22 0) none (some (f22 7)) none) fun t32 =>
  Do Try.prog (sBuiltin .append #[48, 48] 48 [false, false] [t30, t32]) (fun t33 w34 =>
  Do Try.prog (sBuildSlice 48 1 [(0, (f22 1))]) (fun t35 w36 =>
  Do Try.prog (sBuiltin .append #[48, 48] 48 [false, false] [t33, t35]) (fun t37 w38 =>
  Do Try.prog (sBuiltin .append #[48, 48] 48 [false, false] [t37, t28]) (fun t39 w40 =>
  Rd Try.prog (WS.at w40) (sBuiltin .len #[48] 3 [false] [t39]) fun t41 =>
  Rd Try.prog (WS.at w40) (sBin .gtr 3 false t41 (f22 2)) fun t42 =>
  CondK t42
   (Rd Try.prog (WS.at w40) (sSlice 48 t39 none (some (f22 2)) none) fun t43 =>
   k t43 w40)
   (k t39 w40)) w38) w36) w34) w31) w29) w26) w23)) (bodyQ Try.prog [.tmp 6] k)))
  (F.upd (F.upd (F.upd (F.upd (initF [v0, v1, v2]) 6 (.slice none 0 0)) 10 v0) 11 t1) 7 t1) w
theorem body194 : Try.f194.body = some (bodyOf Try.f194) := by kernel_rfl
theorem same194 (v0 v1 v2 : Value) (k : Value → World → Prop) (w : World) : wpF Try.prog pl194 (bodyOf Try.f194) (bodyQ Try.prog Try.f194.results.toList k) (initF [v0, v1, v2]) w = S194 v0 v1 v2 k w := by kernel_rfl
theorem enter194 {v0 v1 v2 : Value} {k : Value → World → Prop} {w : World} (h : S194 v0 v1 v2 k w) : CallK Try.prog 194 [v0, v1, v2] k w :=
  call_of_wpF (pl := pl194) mixed Try.func194 body194 (by kernel_rfl) (of_decide_eq_true (by kernel_rfl)) (by kernel_rfl) (by kernel_rfl) (same194 v0 v1 v2 k w ▸ h)

end Go.Proofs.Ytiohaeckagjebaa

/- Contract: a list comes among rising ones (the reference's l11Insert). -/
set_option linter.unusedVariables false
set_option linter.unusedSimpArgs false
set_option maxRecDepth 100000
namespace Go.Sh
open Go
/-- What stands in the cells of a slice of slices. -/
structure Slots (F : Nat → Prop) (w : World) (ls : List (List Int)) (cells : List Value) : Prop where
  len : cells.length = ls.length
  cell : ∀ (j : Nat) (v : Value), cells[j]? = some v → ∃ Y c, v = .slice Y (rgt ls j).length c ∧ (rgt ls j).length ≤ c ∧ IntsF F w Y (rgt ls j)
theorem Slots.gr {F : Nat → Prop} {w w' : World} {ls : List (List Int)} {cells : List Value} (h : Slots F w ls cells) (g : Gr w w') : Slots F w' ls cells := ⟨h.len, fun j v hv => by
  obtain ⟨Y, c, h1, h2, h3⟩ := h.cell j v hv
  exact ⟨Y, c, h1, h2, h3.gr g⟩⟩
theorem Slots.nil (F : Nat → Prop) (w : World) : Slots F w [] [] := ⟨rfl, fun j v hv => by simp at hv⟩
theorem Slots.single {F : Nat → Prop} {w : World} {x : List Int} {Y : Option Addr} {c : Nat} (hc : x.length ≤ c) (h : IntsF F w Y x) : Slots F w [x] [.slice Y x.length c] := ⟨rfl, fun j v hv => by
  cases j with
  | zero =>
    obtain rfl : (.slice Y x.length c : Value) = v := by simpa using hv
    exact ⟨Y, c, rfl, hc, h⟩
  | succ j => simp at hv⟩
theorem Slots.append {F : Nat → Prop} {w : World} {ls ms : List (List Int)} {cells news : List Value} (h : Slots F w ls cells) (h' : Slots F w ms news) : Slots F w (ls ++ ms) (cells ++ news) := by
  refine ⟨by rw [List.length_append, List.length_append, h.len, h'.len], fun j v hv => ?_⟩
  by_cases hj : j < cells.length
  · rw [List.getElem?_append_left hj] at hv
    rw [rgt_left (by rw [← h.len]; exact hj)]
    exact h.cell j v hv
  · rw [List.getElem?_append_right (by omega)] at hv
    rw [rgt_right (by rw [← h.len]; omega), ← h.len]
    exact h'.cell _ v hv
theorem rgt_take {ls : List (List Int)} {m j : Nat} (h : j < m) : rgt (ls.take m) j = rgt ls j := by
  simp [rgt, List.getD_eq_getElem?_getD, List.getElem?_take, h]
theorem rgt_drop {ls : List (List Int)} {m j : Nat} : rgt (ls.drop m) j = rgt ls (m + j) := by
  simp [rgt, List.getD_eq_getElem?_getD, List.getElem?_drop]
theorem Slots.take {F : Nat → Prop} {w : World} {ls : List (List Int)} {cells : List Value} (h : Slots F w ls cells) (m : Nat) : Slots F w (ls.take m) (cells.take m) := by
  refine ⟨by rw [List.length_take, List.length_take, h.len], fun j v hv => ?_⟩
  rw [List.getElem?_take] at hv
  split at hv
  · rename_i hj
    rw [rgt_take hj]
    exact h.cell j v hv
  · cases hv
theorem Slots.drop {F : Nat → Prop} {w : World} {ls : List (List Int)} {cells : List Value} (h : Slots F w ls cells) (m : Nat) : Slots F w (ls.drop m) (cells.drop m) := by
  refine ⟨by rw [List.length_drop, List.length_drop, h.len], fun j v hv => ?_⟩
  rw [List.getElem?_drop] at hv
  rw [rgt_drop]
  exact h.cell _ v hv
theorem Slots.one {F : Nat → Prop} {w : World} {ls : List (List Int)} {cells : List Value} (h : Slots F w ls cells) : ∀ v ∈ cells, v.oneCell' = true := fun v hv => by
  obtain ⟨j, hj⟩ := List.getElem?_of_mem hv
  obtain ⟨Y, c, rfl, _⟩ := h.cell j v hj
  rfl
/-- A slice of slices that is read, its blocks are such. -/
structure IssF (F : Nat → Prop) (w : World) (X : Option Addr) (ls : List (List Int)) : Prop where
  le : ls.length ≤ 9223372036854775807
  ptr : 0 < ls.length → X = some (ad X)
  foot : 0 < ls.length → F (ad X).block
  row : ∀ j, j < ls.length → ∃ Y c, w.cell? ((ad X).add j) = some (.slice Y (rgt ls j).length c) ∧ (rgt ls j).length ≤ c ∧ IntsF F w Y (rgt ls j)
section
variable {F : Nat → Prop} {w w' : World} {X : Option Addr} {ls : List (List Int)}
theorem IssF.is (h : IssF F w X ls) : Intss w X ls := ⟨h.le, h.ptr, fun j hj => by
  obtain ⟨Y, c, h1, h2, h3⟩ := h.row j hj
  exact ⟨Y, c, h1, h2, h3.is⟩⟩
theorem IssF.gr (h : IssF F w X ls) (g : Gr w w') : IssF F w' X ls := ⟨h.le, h.ptr, h.foot, fun j hj => by
  obtain ⟨Y, c, h1, h2, h3⟩ := h.row j hj
  exact ⟨Y, c, g.cell h1, h2, h3.gr g⟩⟩
theorem IssF.mono {E : Nat → Prop} (h : IssF F w X ls) (he : ∀ b, F b → E b) : IssF E w X ls := ⟨h.le, h.ptr, fun hp => he _ (h.foot hp), fun j hj => by
  obtain ⟨Y, c, h1, h2, h3⟩ := h.row j hj
  exact ⟨Y, c, h1, h2, h3.mono he⟩⟩
theorem cell_lt {a : Addr} {v : Value} (h : w.cell? a = some v) : a.block < w.heap.size := by
  unfold World.cell? at h
  cases hb : w.heap[a.block]? with
  | none => rw [hb] at h; cases h
  | some _ => exact (Array.getElem?_eq_some_iff.1 hb).1
theorem IntsF.lt {xs : List Int} (h : IntsF F w X xs) : IntsF (fun b => F b ∧ b < w.heap.size) w X xs := ⟨h.is, fun hp => ⟨h.foot hp, by
  have := cell_lt (h.is.cell 0 hp)
  rwa [add_block] at this⟩⟩
/-- Its blocks are there. -/
theorem IssF.lt (h : IssF F w X ls) : IssF (fun b => F b ∧ b < w.heap.size) w X ls := ⟨h.le, h.ptr, fun hp => ⟨h.foot hp, by
  obtain ⟨Y, c, h1, _⟩ := h.row 0 hp
  have := cell_lt h1
  rwa [add_block] at this⟩, fun j hj => by
  obtain ⟨Y, c, h1, h2, h3⟩ := h.row j hj
  exact ⟨Y, c, h1, h2, h3.lt⟩⟩
theorem cell_same {a : Addr} {v : Value} (h : w.cell? a = some v) (hs : w'.heap[a.block]? = w.heap[a.block]?) : w'.cell? a = some v := by
  unfold World.cell? at h ⊢
  rw [hs]
  exact h
theorem IntsF.same {xs : List Int} (h : IntsF F w X xs) (hs : ∀ q, F q → w'.heap[q]? = w.heap[q]?) : IntsF F w' X xs :=
  ⟨⟨h.is.le, h.is.ptr, fun j hj => cell_same (h.is.cell j hj) (hs _ (by rw [add_block]; exact h.foot (by omega)))⟩, h.foot⟩
theorem IssF.same (h : IssF F w X ls) (hs : ∀ q, F q → w'.heap[q]? = w.heap[q]?) : IssF F w' X ls := ⟨h.le, h.ptr, h.foot, fun j hj => by
  obtain ⟨Y, c, h1, h2, h3⟩ := h.row j hj
  exact ⟨Y, c, cell_same h1 (hs _ (by rw [add_block]; exact h.foot (by omega))), h2, h3.same hs⟩⟩
theorem IssF.cells (h : IssF F w X ls) : ∃ cells, Src w X cells ∧ Slots F w ls cells := by
  have key : ∀ n, n ≤ ls.length → ∃ cells : List Value, cells.length = n ∧ ∀ (j : Nat) (v : Value), cells[j]? = some v → w.cell? ((ad X).add j) = some v ∧ ∃ Y c, v = .slice Y (rgt ls j).length c ∧ (rgt ls j).length ≤ c ∧ IntsF F w Y (rgt ls j) := by
    intro n
    induction n with
    | zero => exact fun _ => ⟨[], rfl, fun j v hv => by simp at hv⟩
    | succ n ih =>
      intro hn
      obtain ⟨cells, h1, h2⟩ := ih (by omega)
      obtain ⟨Y, c, h3, h4, h5⟩ := h.row n (by omega)
      refine ⟨cells ++ [.slice Y (rgt ls n).length c], by simp [h1], fun j v hv => ?_⟩
      by_cases hj : j < n
      · rw [List.getElem?_append_left (by omega)] at hv
        exact h2 j v hv
      · rw [List.getElem?_append_right (by omega), h1] at hv
        have hlt := (List.getElem?_eq_some_iff.1 hv).1
        obtain rfl : j = n := by simp at hlt; omega
        obtain rfl : (.slice Y (rgt ls j).length c : Value) = v := by simpa using hv
        exact ⟨h3, Y, c, rfl, h4, h5⟩
  obtain ⟨cells, h1, h2⟩ := key ls.length (Nat.le_refl _)
  refine ⟨cells, ⟨fun hne => h.ptr ?_, fun j u hu => (h2 j u hu).1⟩, h1, fun j v hv => (h2 j v hv).2⟩
  cases cells with
  | nil => exact absurd rfl hne
  | cons v cells => rw [← h1]; simp
theorem IssF.of {cells : List Value} (hs : Src w X cells) (h : Slots F w ls cells) (hl : ls.length ≤ 9223372036854775807) (hf : 0 < ls.length → F (ad X).block) : IssF F w X ls := by
  refine ⟨hl, fun hp => hs.ptr fun e => ?_, hf, fun j hj => ?_⟩
  · have := h.len
    rw [e] at this
    simp at this
    omega
  · have hlt : j < cells.length := by rw [h.len]; exact hj
    obtain ⟨Y, c, h1, h2, h3⟩ := h.cell j _ (List.getElem?_eq_getElem hlt)
    refine ⟨Y, c, ?_, h2, h3⟩
    rw [← h1]
    exact hs.cell j _ (List.getElem?_eq_getElem hlt)
theorem IssF.nil (F : Nat → Prop) (w : World) : IssF F w none [] := IssF.of (Src.nil w none) (Slots.nil F w) (by simp) fun h => by simp at h
end
theorem IntsF.nil (F : Nat → Prop) (w : World) : IntsF F w none [] := ⟨⟨by simp, fun h => by simp at h, fun j hj => by simp at hj⟩, fun h => by simp at h⟩
theorem OwnSS.readF {e1 e2 : Nat} {w : World} {B : Nat} {X : Option Addr} {c : Nat} {ls : List (List Int)} {ps : Nat → Option Addr × Nat} (h : OwnSS e1 e2 w B X c ls ps) : IssF (fun q => B ≤ q) w X ls := by
  obtain ⟨⟨cells, hr, hc⟩, ho, ht⟩ := h
  have hcap := hr.cap
  refine ⟨by omega, fun hp => hr.ptr hp, fun hp => ?_, fun j hj => ?_⟩
  · have := hr.ptr hp
    exact (hr.ge (q := (ad X).block) (by rw [this]; rfl)).1
  · have hc' := Row.cap (ho j hj)
    exact ⟨(ps j).1, (ps j).2, hr.src.cell _ _ (hc j hj), by omega, (IntsF.of_own (ho j hj)).mono fun b hb => hb.1⟩
/-- What is read, as a thing: its blocks are from B on, less than S. -/
def rdy (B S : Nat) (X : Option Addr) (ls : List (List Int)) : Thing := ⟨fun w => IssF (fun q => B ≤ q ∧ q < S) w X ls, fun q => B ≤ q ∧ q < S⟩
theorem Apt.addRdy {w0 w w' : World} {L : List Thing} {X : Option Addr} {ls : List (List Int)} (H : Apt w0 w L) (g : Gr w w') (h : IssF (fun q => w.heap.size ≤ q) w' X ls) : Apt w0 w' (L ++ [rdy w.heap.size w'.heap.size X ls]) :=
  H.add g _ (fun q hq => hq.1) (fun q hq => hq.2) fun w'' hs => h.lt.same hs
theorem Apt.rdy {w0 w : World} {L : List Thing} (H : Apt w0 w L) (i : Nat) {B S : Nat} {X : Option Addr} {ls : List (List Int)} (hi : L[i]? = some (Sh.rdy B S X ls)) : IssF (fun q => B ≤ q ∧ q < S) w X ls := H.get i hi
theorem sub_own0 {w : World} {B e n c sz : Nat} {X : Option Addr} {cells : List Value} (h : Row w B e sz X n c cells) : sub X 0 c 1 = X := by
  unfold Sh.sub
  split
  · rfl
  · rcases h.at_ with ⟨rfl, _⟩ | ⟨g, rfl, _⟩
    · rfl
    · simp [add_plain]
theorem row_foot {w : World} {B e sz n c : Nat} {X : Option Addr} {cells : List Value} (h : Row w B e sz X n c cells) (hn : 0 < n) : B ≤ (ad X).block := by
  have := h.ptr hn
  exact (h.ge (q := (ad X).block) (by rw [this]; rfl)).1
/-- Where one comes in, m are ahead of it. -/
def insV (M : Nat) (ls : List (List Int)) (x : List Int) (m : Nat) : List (List Int) := if M ≤ m then ls else (ls.take m ++ x :: ls.drop m).take M
structure InsAt (ls : List (List Int)) (x : List Int) (m : Nat) : Prop where
  le : m ≤ ls.length
  more : ∀ j, m ≤ j → j < ls.length → ltL x (rgt ls j)
  less : 0 < m → ¬ ltL x (rgt ls (m - 1))
theorem mem_rgt {ls : List (List Int)} {y : List Int} (h : y ∈ ls) : ∃ j, j < ls.length ∧ rgt ls j = y := by
  obtain ⟨j, hj, e⟩ := List.getElem_of_mem h
  exact ⟨j, hj, by rw [rgt_eq hj, e]⟩
theorem rise_at {ls : List (List Int)} (h : Rise ls) {i j : Nat} (hij : i < j) (hj : j < ls.length) : ltL (rgt ls i) (rgt ls j) := by
  rw [rgt_eq (by omega), rgt_eq hj]
  exact List.pairwise_iff_getElem.1 h i j (by omega) hj hij
theorem Firsts.ins {M m : Nat} {S : List Int → Prop} {ls : List (List Int)} {x : List Int} (h : Firsts M S ls) (hx : ¬ S x) (hi : InsAt ls x m) : Firsts M (fun z => S z ∨ z = x) (insV M ls x m) := by
  have e : ls = ls.take m ++ ls.drop m := (List.take_append_drop m ls).symm
  have hl : (ls.take m).length = m := by rw [List.length_take]; have := hi.le; omega
  rw [e] at h
  have := Firsts.add (x := x) h (fun y hy => ?_) fun y hy => ?_
  · unfold insV
    rw [hl, ← e] at this
    exact this
  · obtain ⟨j, hj, rfl⟩ := mem_rgt hy
    rw [hl] at hj
    rw [rgt_take hj]
    have hr : Rise ls := by rw [e]; exact h.rise
    have hle := hi.le
    have hlast := hi.less (by omega)
    have hmem : S (rgt ls (m - 1)) := h.mem _ (by rw [← e]; exact rgt_mem (by omega))
    have hlt : ltL (rgt ls (m - 1)) x := by
      rcases ltL_tri (rgt ls (m - 1)) x with h1 | h1 | h1
      · exact h1
      · exact absurd (h1 ▸ hmem) hx
      · exact absurd h1 hlast
    by_cases hjm : j = m - 1
    · rw [hjm]; exact hlt
    · exact ltL_trans (rise_at hr (i := j) (j := m - 1) (by omega) (by omega)) hlt
  · obtain ⟨j, hj, rfl⟩ := mem_rgt hy
    rw [List.length_drop] at hj
    rw [rgt_drop]
    exact hi.more _ (by omega) (by omega)
end Go.Sh
namespace Go.Proofs.Ytiohaeckagjebaa
open Go Go.Sh Go.RowKit
theorem l11Insert_c {F : Nat → Prop} {w : World} {X Y : Option Addr} {c d n n' M : Nat} {ls : List (List Int)} {x : List Int} (hFn : ∀ q, w.heap.size ≤ q → F q) (hX : IssF F w X ls) (hY : IntsF F w Y x) (hn : n = ls.length) (hn' : n' = x.length) (hc : ls.length ≤ c) (hd : x.length ≤ d) (hl : ls.length ≤ 1000000) {k : Value → World → Prop}
    (hk : ∀ w' X' c' m, InsAt ls x m → Gr w w' → IssF F w' X' (insV M ls x m) → (insV M ls x m).length ≤ c' → k (.slice X' (insV M ls x m).length c') w') :
    CallK Try.prog 194 [.slice X n c, .slice Y n' d, .int .i64 (M : Int)] k w := by
  subst hn hn'
  refine enter194 ?_
  unfold S194
  simp only [bin_add, bin_sub, bin_mul, bin_eql, bin_neq, bin_lss, bin_leq, bin_gtr, bin_geq, un_not, un_neg, pick_true, pick_false, extract_two_0, extract_two_1, nilCheck_pointer, cond_true', cond_false', guard_tt, guard_ff, guard_tf, guard_ft, guard_undef, seqQ_normal, seqQ_ret, seqQ_exit, blockQ_ret, blockQ_normal, blockQ_exit, bodyQ_ret, bodyQ_normal, resK_nil, resK_tmp, ite_T, ite_F, upd_at, add_plain, add_zero', len22, len35, len48, fa37_0, fa37_1, fa37_2, fa77_0, fa77_1, fa103_0, fa103_1, fa111_0, fa111_1, fa143_0, fa143_1, fa143_2, fa143_3, fa175_0, fa175_1, fa175_2, fa125_0, fa125_1, fa125_2, fa125_3, fa125_4, Nat.reduceEqDiff]
  refine loop_ghost (fun m f w' => f 7 = .int .i64 ((m : Nat) : Int) ∧ Gr w w' ∧ m ≤ ls.length ∧ ∀ j, m ≤ j → j < ls.length → ltL x (rgt ls j)) (fun m => m) ls.length ⟨rfl, Gr.refl w, Nat.le_refl _, fun j h1 h2 => by omega⟩ ?_
  rintro m f w1 N hag ⟨h7, g1, hm, hmore⟩ hN
  have f0 : f 0 = .slice X ls.length c := hag 0 (by decide)
  have f1 : f 1 = .slice Y x.length d := hag 1 (by decide)
  have f2 : f 2 = .int .i64 (M : Int) := hag 2 (by decide)
  have fin : ∀ w2, Gr w w2 → InsAt ls x m → CondK (.bool (decide ((M : Int) ≤ (m : Int))))
      (k (.slice X ls.length c) w2)
      (Do Try.prog (sBuildSlice 48 0 []) (fun t25 w26 =>
      Rd Try.prog (WS.at w26) (sSlice 48 (.slice X ls.length c) (some (.int .i64 (m : Int))) none none) fun t27 =>
      Do Try.prog (sBuiltin .append #[48, 48] 48 [false, false] [t25, t27]) (fun t28 w29 =>
      Do Try.prog (sBuildSlice 48 0 []) (fun t30 w31 =>
      Rd Try.prog (WS.at w31) (sSlice 48 (.slice X ls.length c) none (some (.int .i64 (m : Int))) none) fun t32 =>
      Do Try.prog (sBuiltin .append #[48, 48] 48 [false, false] [t30, t32]) (fun t33 w34 =>
      Do Try.prog (sBuildSlice 48 1 [(0, (.slice Y x.length d))]) (fun t35 w36 =>
      Do Try.prog (sBuiltin .append #[48, 48] 48 [false, false] [t33, t35]) (fun t37 w38 =>
      Do Try.prog (sBuiltin .append #[48, 48] 48 [false, false] [t37, t28]) (fun t39 w40 =>
      Rd Try.prog (WS.at w40) (sBuiltin .len #[48] 3 [false] [t39]) fun t41 =>
      Rd Try.prog (WS.at w40) (sBin .gtr 3 false t41 (.int .i64 (M : Int))) fun t42 =>
      CondK t42
       (Rd Try.prog (WS.at w40) (sSlice 48 t39 none (some (.int .i64 (M : Int))) none) fun t43 =>
       k t43 w40)
       (k t39 w40)) w38) w36) w34) w31) w29) w26) w2) := by
    intro w2 g2 hi
    by_cases hM : M ≤ m
    · simp only [show (M : Int) ≤ (m : Int) from by omega, decide_true, go_sem, Nat.reduceEqDiff]
      have := hk w2 X c m hi g2
      unfold insV at this
      rw [if_pos hM] at this
      exact this (hX.gr g2) hc
    simp only [show ¬ ((M : Int) ≤ (m : Int)) from by omega, decide_false, bin_add, bin_sub, bin_mul, bin_eql, bin_neq, bin_lss, bin_leq, bin_gtr, bin_geq, un_not, un_neg, pick_true, pick_false, extract_two_0, extract_two_1, nilCheck_pointer, cond_true', cond_false', guard_tt, guard_ff, guard_tf, guard_ft, guard_undef, seqQ_normal, seqQ_ret, seqQ_exit, blockQ_ret, blockQ_normal, blockQ_exit, bodyQ_ret, bodyQ_normal, resK_nil, resK_tmp, ite_T, ite_F, upd_at, add_plain, add_zero', len22, len35, len48, fa37_0, fa37_1, fa37_2, fa77_0, fa77_1, fa103_0, fa103_1, fa111_0, fa111_1, fa143_0, fa143_1, fa143_2, fa143_3, fa175_0, fa175_1, fa175_2, fa125_0, fa125_1, fa125_2, fa125_3, fa125_4, Nat.reduceEqDiff]
    obtain ⟨cells, hS, hT⟩ := hX.cells
    have hcl := hT.len
    have H := Apt.nil w2
    refine buildH H u48 inf22 [] (by decide) (by decide) (by simp [Instr.fill, madeCells]) rfl fun b1 w3 H => ?_
    simp only [List.nil_append] at H
    refine rdi (sll48 (by omega) (by omega)) ?_
    have hS1 := (hS.gr (gr_trans g2 H.gr)).sub (l := m) (c := c) (sz := 1) (by omega) (by omega) (ls.length - m)
    rw [Nat.mul_one, List.take_of_length_le (by rw [List.length_drop]; omega)] at hS1
    refine appendH H 0 rfl u48 inf22 rfl (by decide) hS1 (m := ls.length - m) (by rw [List.length_drop]; omega) (hT.drop m).one (by omega) (by omega) fun X1 c1 w4 H => ?_
    simp only [List.nil_append, List.cons_append, List.set_cons_zero, List.set_cons_succ] at H
    refine buildH H u48 inf22 [] (by decide) (by decide) (by simp [Instr.fill, madeCells]) rfl fun b2 w5 H => ?_
    simp only [List.nil_append, List.cons_append, List.set_cons_zero, List.set_cons_succ] at H
    refine rdi (slh48 (by omega) (by omega)) ?_
    have hS2 := (hS.gr (gr_trans g2 H.gr)).sub (l := 0) (c := c) (sz := 1) (by omega) (by omega) m
    rw [Nat.zero_mul, List.drop_zero] at hS2
    refine appendH H 1 rfl u48 inf22 rfl (by decide) hS2 (m := m) (by rw [List.length_take]; omega) (hT.take m).one (by omega) (by omega) fun X2 c2 w6 H => ?_
    simp only [List.nil_append, List.cons_append, List.set_cons_zero, List.set_cons_succ] at H
    refine buildH H u48 inf22 [.slice Y x.length d] (by decide) (by decide) (by simp [Instr.fill, madeCells, Value.cells, rng1]) rfl fun b3 w7 H => ?_
    simp only [List.nil_append, List.cons_append, List.set_cons_zero, List.set_cons_succ] at H
    refine appendH H 1 rfl u48 inf22 rfl (by decide) (H.row 2 rfl).src (m := 1) rfl (by intro v hv; simp at hv; subst hv; rfl) (by omega) (by omega) fun X3 c3 w8 H => ?_
    simp only [List.nil_append, List.cons_append, List.set_cons_zero, List.set_cons_succ] at H
    refine appendH H 1 rfl u48 inf22 rfl (by decide) (H.row 0 rfl).src (m := 0 + (ls.length - m)) (by rw [List.length_drop]; omega) (hT.drop m).one (by omega) (by omega) fun X4 c4 w9 H => ?_
    simp only [List.nil_append, List.cons_append, List.set_cons_zero, List.set_cons_succ] at H
    have gall := gr_trans g2 H.gr
    have hrow := H.row 1 rfl
    have hcap := Row.cap hrow
    have hsl : Slots F w9 (ls.take m ++ x :: ls.drop m) (cells.take m ++ [.slice Y x.length d] ++ cells.drop m) := by
      have := (((hT.take m).append (Slots.single hd hY)).append (hT.drop m)).gr gall
      simpa using this
    have hlen : (ls.take m ++ x :: ls.drop m).length = ls.length + 1 := by simp; omega
    have hft : F (ad X4).block := hFn _ (Nat.le_trans g2.size (row_foot hrow (by omega)))
    have e0 : 0 + m + 1 + (0 + (ls.length - m)) = ls.length + 1 := by omega
    rw [e0] at hcap
    simp only [e0, bin_add, bin_sub, bin_mul, bin_eql, bin_neq, bin_lss, bin_leq, bin_gtr, bin_geq, un_not, un_neg, pick_true, pick_false, extract_two_0, extract_two_1, nilCheck_pointer, cond_true', cond_false', guard_tt, guard_ff, guard_tf, guard_ft, guard_undef, seqQ_normal, seqQ_ret, seqQ_exit, blockQ_ret, blockQ_normal, blockQ_exit, bodyQ_ret, bodyQ_normal, resK_nil, resK_tmp, ite_T, ite_F, upd_at, add_plain, add_zero', len22, len35, len48, fa37_0, fa37_1, fa37_2, fa77_0, fa77_1, fa103_0, fa103_1, fa111_0, fa111_1, fa143_0, fa143_1, fa143_2, fa143_3, fa175_0, fa175_1, fa175_2, fa125_0, fa125_1, fa125_2, fa125_3, fa125_4, Nat.reduceEqDiff]
    have h1 := hk w9
    unfold insV at h1
    by_cases hM2 : M < ls.length + 1
    · simp only [show ((ls.length + 1 : Nat) : Int) > (M : Int) from by omega, show (M : Int) < ((ls.length + 1 : Nat) : Int) from by omega, decide_true, go_sem, Nat.reduceEqDiff]
      refine rdi (slh48 (by omega) (by omega)) ?_
      have h2 := h1 (sub X4 0 c4 1) c4 m hi gall
      rw [if_neg hM, List.length_take, hlen, Nat.min_eq_left (by omega)] at h2
      rw [show ((M : Nat) : Int).toNat = M from by omega]
      refine h2 ?_ (by omega)
      have hS3 := hrow.src.sub (l := 0) (c := c4) (sz := 1) (by omega) (by have := hrow.len; omega) M
      rw [Nat.zero_mul, List.drop_zero] at hS3
      refine IssF.of hS3 (hsl.take M) (by rw [List.length_take, hlen]; omega) fun _ => ?_
      rw [sub_own0 hrow]
      exact hft
    · simp only [show ¬ (((ls.length + 1 : Nat) : Int) > (M : Int)) from by omega, show ¬ ((M : Int) < ((ls.length + 1 : Nat) : Int)) from by omega, decide_false, go_sem, Nat.reduceEqDiff]
      have h2 := h1 X4 c4 m hi gall
      rw [if_neg hM, List.take_of_length_le (by rw [hlen]; omega), hlen] at h2
      exact h2 (IssF.of hrow.src hsl (by rw [hlen]; omega) fun _ => hft) (by omega)
  simp only [h7, f0, f1, f2, bin_add, bin_sub, bin_mul, bin_eql, bin_neq, bin_lss, bin_leq, bin_gtr, bin_geq, un_not, un_neg, pick_true, pick_false, extract_two_0, extract_two_1, nilCheck_pointer, cond_true', cond_false', guard_tt, guard_ff, guard_tf, guard_ft, guard_undef, seqQ_normal, seqQ_ret, seqQ_exit, blockQ_ret, blockQ_normal, blockQ_exit, bodyQ_ret, bodyQ_normal, resK_nil, resK_tmp, ite_T, ite_F, upd_at, add_plain, add_zero', len22, len35, len48, fa37_0, fa37_1, fa37_2, fa77_0, fa77_1, fa103_0, fa103_1, fa111_0, fa111_1, fa143_0, fa143_1, fa143_2, fa143_3, fa175_0, fa175_1, fa175_2, fa125_0, fa125_1, fa125_2, fa125_3, fa125_4, Nat.reduceEqDiff]
  by_cases hpos : 0 < m
  case neg =>
    simp only [show ¬ ((m : Int) > 0) from by omega, show ¬ ((0 : Int) < (m : Int)) from by omega, decide_false, bin_add, bin_sub, bin_mul, bin_eql, bin_neq, bin_lss, bin_leq, bin_gtr, bin_geq, un_not, un_neg, pick_true, pick_false, extract_two_0, extract_two_1, nilCheck_pointer, cond_true', cond_false', guard_tt, guard_ff, guard_tf, guard_ft, guard_undef, seqQ_normal, seqQ_ret, seqQ_exit, blockQ_ret, blockQ_normal, blockQ_exit, bodyQ_ret, bodyQ_normal, resK_nil, resK_tmp, ite_T, ite_F, upd_at, add_plain, add_zero', len22, len35, len48, fa37_0, fa37_1, fa37_2, fa77_0, fa77_1, fa103_0, fa103_1, fa111_0, fa111_1, fa143_0, fa143_1, fa143_2, fa143_3, fa175_0, fa175_1, fa175_2, fa125_0, fa125_1, fa125_2, fa125_3, fa125_4, Nat.reduceEqDiff]
    exact fin w1 g1 ⟨hm, hmore, fun h => absurd h hpos⟩
  simp only [show ((m : Int) > 0) from by omega, show ((0 : Int) < (m : Int)) from by omega, decide_true, bin_add, bin_sub, bin_mul, bin_eql, bin_neq, bin_lss, bin_leq, bin_gtr, bin_geq, un_not, un_neg, pick_true, pick_false, extract_two_0, extract_two_1, nilCheck_pointer, cond_true', cond_false', guard_tt, guard_ff, guard_tf, guard_ft, guard_undef, seqQ_normal, seqQ_ret, seqQ_exit, blockQ_ret, blockQ_normal, blockQ_exit, bodyQ_ret, bodyQ_normal, resK_nil, resK_tmp, ite_T, ite_F, upd_at, add_plain, add_zero', len22, len35, len48, fa37_0, fa37_1, fa37_2, fa77_0, fa77_1, fa103_0, fa103_1, fa111_0, fa111_1, fa143_0, fa143_1, fa143_2, fa143_3, fa175_0, fa175_1, fa175_2, fa125_0, fa125_1, fa125_2, fa125_3, fa125_4, Nat.reduceEqDiff]
  rw [i64_of (by omega) (by omega), show ((m : Int) - 1) = ((m - 1 : Nat) : Int) from by omega]
  obtain ⟨Z, cz, t1, t2, t3⟩ := hX.row (m - 1) (by omega)
  refine rdi (ixn48 hX.ptr (by omega)) (rdi (ld22 (g1.cell t1)) ?_)
  refine l11Less_c (hY.is.gr g1) (t3.is.gr g1) rfl rfl fun w2 g2 => ?_
  by_cases hlt : cmpL x (rgt ls (m - 1)) < 0
  case neg =>
    simp only [hlt, decide_false, bin_add, bin_sub, bin_mul, bin_eql, bin_neq, bin_lss, bin_leq, bin_gtr, bin_geq, un_not, un_neg, pick_true, pick_false, extract_two_0, extract_two_1, nilCheck_pointer, cond_true', cond_false', guard_tt, guard_ff, guard_tf, guard_ft, guard_undef, seqQ_normal, seqQ_ret, seqQ_exit, blockQ_ret, blockQ_normal, blockQ_exit, bodyQ_ret, bodyQ_normal, resK_nil, resK_tmp, ite_T, ite_F, upd_at, add_plain, add_zero', len22, len35, len48, fa37_0, fa37_1, fa37_2, fa77_0, fa77_1, fa103_0, fa103_1, fa111_0, fa111_1, fa143_0, fa143_1, fa143_2, fa143_3, fa175_0, fa175_1, fa175_2, fa125_0, fa125_1, fa125_2, fa125_3, fa125_4, Nat.reduceEqDiff]
    exact fin w2 (gr_trans g1 g2) ⟨hm, hmore, fun _ => hlt⟩
  simp only [hlt, decide_true, bin_add, bin_sub, bin_mul, bin_eql, bin_neq, bin_lss, bin_leq, bin_gtr, bin_geq, un_not, un_neg, pick_true, pick_false, extract_two_0, extract_two_1, nilCheck_pointer, cond_true', cond_false', guard_tt, guard_ff, guard_tf, guard_ft, guard_undef, seqQ_normal, seqQ_ret, seqQ_exit, blockQ_ret, blockQ_normal, blockQ_exit, bodyQ_ret, bodyQ_normal, resK_nil, resK_tmp, ite_T, ite_F, upd_at, add_plain, add_zero', len22, len35, len48, fa37_0, fa37_1, fa37_2, fa77_0, fa77_1, fa103_0, fa103_1, fa111_0, fa111_1, fa143_0, fa143_1, fa143_2, fa143_3, fa175_0, fa175_1, fa175_2, fa125_0, fa125_1, fa125_2, fa125_3, fa125_4, Nat.reduceEqDiff]
  refine hN (m - 1) _ _ ⟨rfl, gr_trans g1 g2, by omega, fun j h1 h2 => ?_⟩ (by omega)
  by_cases hj : j = m - 1
  · subst hj; exact hlt
  · exact hmore j (by omega) h2
end Go.Proofs.Ytiohaeckagjebaa

/- Parts of a row one after the other: the plain law. -/
set_option linter.unusedVariables false
set_option linter.unusedSimpArgs false
set_option maxRecDepth 100000
namespace Go.Sh
open Go
theorem Firsts.none {M : Nat} {S : List Int → Prop} (h : Firsts M S []) (hM : 0 < M) (x : List Int) : ¬ S x := fun hx => by
  rcases h.all x hx with h1 | ⟨h1, _⟩
  · simp at h1
  · simp at h1
    omega
theorem Firsts.single {M : Nat} (hM : 0 < M) (x : List Int) : Firsts M (fun z => z = x) [x] :=
  ⟨List.pairwise_singleton _ _, fun y hy => by simpa using hy, by simp; omega, fun y hy => .inl (by simp [show y = x from hy])⟩
theorem Under.mono {M : Nat} {S S' : List Int → Prop} {x : List Int} (h : Under M S x) (hs : ∀ y, S y → S' y) : Under M S' x := by
  obtain ⟨ys, h1, h2, h3⟩ := h
  exact ⟨ys, h1, h2, fun y hy => ⟨hs y (h3 y hy).1, (h3 y hy).2⟩⟩
theorem rise_inj {ls : List (List Int)} (h : Rise ls) {i j : Nat} (hi : i < ls.length) (hj : j < ls.length) (e : rgt ls i = rgt ls j) : i = j := by
  rcases Nat.lt_trichotomy i j with h1 | h1 | h1
  · have := rise_at h h1 hj
    rw [e] at this
    exact absurd this (ltL_irrefl _)
  · exact h1
  · have := rise_at h h1 hi
    rw [e] at this
    exact absurd this (ltL_irrefl _)
/-- What the first a of F make with R, and the next one with the first b of R. -/
def partL (F R : List (List Int)) (a b : Nat) : List (List Int) := prodL (F.take a) R ++ (R.take b).map (rgt F a ++ ·)
theorem partL_zero (F R : List (List Int)) : partL F R 0 0 = [] := by simp [partL, prodL]
theorem partL_step {F R : List (List Int)} {a b : Nat} (hb : b < R.length) : partL F R a (b + 1) = partL F R a b ++ [rgt F a ++ rgt R b] := by
  unfold partL
  rw [take_snoc_rgt hb, List.map_append, List.append_assoc]
  rfl
theorem partL_row {F R : List (List Int)} {a b : Nat} (ha : a < F.length) (hb : R.length ≤ b) : partL F R a b = partL F R (a + 1) 0 := by
  unfold partL prodL
  rw [take_snoc_rgt ha, List.flatMap_append, List.take_of_length_le hb]
  simp
theorem partL_done {F R : List (List Int)} {a : Nat} (ha : F.length ≤ a) : partL F R a 0 = prodL F R := by
  unfold partL
  rw [List.take_of_length_le ha]
  simp
theorem partL_mem {F R : List (List Int)} {a b : Nat} (ha : a < F.length) {x : List Int} (h : x ∈ partL F R a b) : ∃ i j, i < F.length ∧ j < R.length ∧ x = rgt F i ++ rgt R j ∧ (i < a ∨ (i = a ∧ j < b)) := by
  rcases List.mem_append.1 h with h | h
  · obtain ⟨u, v, hu, hv, rfl⟩ := mem_prodL.1 h
    obtain ⟨i, hi, rfl⟩ := mem_rgt hu
    obtain ⟨j, hj, rfl⟩ := mem_rgt hv
    rw [List.length_take] at hi
    rw [rgt_take (by omega)]
    exact ⟨i, j, by omega, hj, rfl, .inl (by omega)⟩
  · obtain ⟨v, hv, rfl⟩ := List.mem_map.1 h
    obtain ⟨j, hj, rfl⟩ := mem_rgt hv
    rw [List.length_take] at hj
    rw [rgt_take (by omega)]
    exact ⟨a, j, ha, by omega, rfl, .inr ⟨rfl, by omega⟩⟩
theorem partL_new {A : List Int → Prop} (hA : PreFree A) {F R : List (List Int)} (hF : Rise F) (hR : Rise R) (hm : ∀ a ∈ F, A a) {a b : Nat} (ha : a < F.length) (hb : b < R.length) : rgt F a ++ rgt R b ∉ partL F R a b := by
  intro h
  obtain ⟨i, j, hi, hj, e, hlt⟩ := partL_mem ha h
  have e1 := hA _ _ _ _ (hm _ (rgt_mem ha)) (hm _ (rgt_mem hi)) e
  have e2 := rise_inj hF ha hi e1
  subst e2
  have e3 := rise_inj hR hb hj (List.append_cancel_left e)
  omega
/-- All of a part has come. -/
theorem Firsts.part {M : Nat} {S A B : List Int → Prop} {F R ls : List (List Int)} (hA : PreFree A) (hF : Firsts M A F) (hR : Firsts M B R) (h : Firsts M (fun z => S z ∨ z ∈ prodL F R) ls) : Firsts M (fun z => S z ∨ ProdS A B z) ls := by
  refine h.more (fun z hz => ?_) fun z hz => ?_
  · rcases hz with hz | hz
    · exact .inl hz
    · obtain ⟨a, b, ha, hb, rfl⟩ := mem_prodL.1 hz
      exact .inr ⟨a, b, hF.mem a ha, hR.mem b hb, rfl⟩
  · rcases hz with hz | hz
    · exact .inl (.inl hz)
    · rcases prod_under hA hF hR hz with h1 | h1
      · exact .inl (.inr h1)
      · exact .inr (h1.mono fun y hy => .inr hy)
section
variable {rs : List RuleL} {ws : List Int}
/-- The first tree of none: nothing. -/
theorem partD_none {x : Int} {xs : List Int} {i j s m k : Nat} (h : ∀ t, ¬ Der rs ws (.inr xs) m j (s - k) t) (t : List Int) : ¬ PartD rs ws x xs i j s m k t := by
  rintro ⟨a, b, _, h2, _⟩
  exact h b h2
theorem der_row0 {i j s M : Nat} (hM : 0 < M) (h : i = j ∧ s = 0) : Firsts M (Der rs ws (.inr []) i j s) [[]] :=
  (Firsts.single hM []).congr fun x => by rw [der_nil]; exact ⟨fun h' => h'.2.2, fun e => ⟨h.1, h.2, e⟩⟩
end
end Go.Sh
