/- Texts of this repository put together: ShU1, ShU2, ShH6, Bm, ShJ0, ShU4, ShU8, ShU3, ShU9, ShU5, Bn, ShUA, ShG7, ShG8, ShH8, ShLK, ShUB, ShR, ShRG. -/
import Derived.Test.YtiohaeckagjebaaK19f
import Derived.Test.YtiohaeckagjebaaK19d
import Derived.Test.YtiohaeckagjebaaProg
import Derived.Test.YtiohaeckagjebaaK19a
import Derived.Test.YtiohaeckagjebaaK19c
import Derived.Test.YtiohaeckagjebaaK19e
import Derived.WalkKit
import Derived.ProofKit
import Derived.OpenShut
import Derived.ShutString
import Derived.ChangeOld
import Derived.Below
import Derived.SizedLaws
import Derived.Deep.Slices
import Derived.Deep.SlicePairs
import Derived.Deep.Strs

/- Contract: all short words of a language, by the reference. -/
set_option linter.unusedVariables false
set_option linter.unusedSimpArgs false
set_option maxRecDepth 100000
namespace Go.Sh
open Go
def extW (toks : Nat) (w : List Int) : List (List Int) := (List.range toks).map fun (t : Nat) => w ++ [(t : Int)]
def wordsN (toks : Nat) : Nat → List (List Int)
  | 0 => [[]]
  | n + 1 => (wordsN toks n).flatMap (extW toks)
noncomputable def shortW (gm : Gram) (n : Nat) : List (List Int) := (List.range n).flatMap fun m => (wordsN gm.toks.toNat m).filter (inL gm.rules)
noncomputable def shortV (gm : Gram) (most : Int) : List (List Int) × Bool := if (goodG gm && inB most 0 4) = true then (shortW gm (most.toNat + 1), true) else ([], false)
theorem flatMap_len {α β : Type} {f : α → List β} {k : Nat} : ∀ {l : List α}, (∀ a ∈ l, (f a).length = k) → (l.flatMap f).length = l.length * k := by
  intro l
  induction l with
  | nil => intro _; simp
  | cons a l ih =>
    intro h
    rw [List.flatMap_cons, List.length_append, h a (List.mem_cons_self ..), ih fun b hb => h b (List.mem_cons_of_mem _ hb), List.length_cons, Nat.succ_mul]
    omega
theorem wordsN_length (toks n : Nat) : (wordsN toks n).length = toks ^ n := by
  induction n with
  | zero => rfl
  | succ n ih =>
    rw [wordsN, flatMap_len (k := toks) (fun w _ => by simp [extW]), ih, Nat.pow_succ]
theorem wordsN_le {toks n : Nat} (ht : toks ≤ 4) (hn : n ≤ 5) : (wordsN toks n).length ≤ 1024 := by
  rw [wordsN_length]
  have h1 : toks ^ n ≤ 4 ^ n := Nat.pow_le_pow_left ht n
  have h2 : 4 ^ n ≤ 4 ^ 5 := Nat.pow_le_pow_right (by decide) hn
  have : (4 : Nat) ^ 5 = 1024 := rfl
  omega
theorem wordsN_mem {toks : Nat} : ∀ {n : Nat} {w : List Int}, w ∈ wordsN toks n → w.length = n ∧ ∀ t ∈ w, 0 ≤ t ∧ t < toks := by
  intro n
  induction n with
  | zero =>
    intro w h
    simp only [wordsN, List.mem_singleton] at h
    subst h
    exact ⟨rfl, fun t h => by simp at h⟩
  | succ n ih =>
    intro w h
    simp only [wordsN, List.mem_flatMap, extW, List.mem_map, List.mem_range] at h
    obtain ⟨v, hv, t, ht, rfl⟩ := h
    obtain ⟨h1, h2⟩ := ih hv
    refine ⟨by simp [h1], fun x hx => ?_⟩
    rcases List.mem_append.1 hx with hx | hx
    · exact h2 x hx
    · have : x = t := by simpa using hx
      subst this
      omega
theorem rgt_mem {ls : List (List Int)} {i : Nat} (h : i < ls.length) : rgt ls i ∈ ls := by
  rw [rgt_eq h]
  exact List.getElem_mem h
theorem filter_snoc (p : List Int → Bool) (ls : List (List Int)) (l : List Int) : (ls ++ [l]).filter p = ls.filter p ++ (if p l = true then [l] else []) := by
  rw [List.filter_append]
  congr 1
  cases h : p l <;> simp [h]
theorem filter_le (p : List Int → Bool) (ls : List (List Int)) : (ls.filter p).length ≤ ls.length := List.length_filter_le _ _
theorem shortW_succ (gm : Gram) (n : Nat) : shortW gm (n + 1) = shortW gm n ++ (wordsN gm.toks.toNat n).filter (inL gm.rules) := by
  unfold shortW
  rw [List.range_succ, List.flatMap_append]
  simp
theorem shortW_len {gm : Gram} (ht : gm.toks ≤ 4) : ∀ {n : Nat}, n ≤ 6 → (shortW gm n).length ≤ 1024 * n := by
  intro n
  induction n with
  | zero => intro _; simp [shortW]
  | succ n ih =>
    intro hn
    rw [shortW_succ, List.length_append]
    have h1 := ih (by omega)
    have h2 := filter_le (inL gm.rules) (wordsN gm.toks.toNat n)
    have h3 := wordsN_le (toks := gm.toks.toNat) (n := n) (by omega) (by omega)
    omega
theorem shortW_mem {gm : Gram} {n : Nat} {x : List Int} (h : x ∈ shortW gm n) : x.length < n ∧ ∀ t ∈ x, 0 ≤ t ∧ t < gm.toks.toNat := by
  unfold shortW at h
  rw [List.mem_flatMap] at h
  obtain ⟨m, hm, hx⟩ := h
  rw [List.mem_range] at hm
  have := wordsN_mem (List.mem_filter.1 hx).1
  exact ⟨by omega, this.2⟩
theorem extW_succ (toks : Nat) (w : List Int) : extW (toks + 1) w = extW toks w ++ [w ++ [(toks : Int)]] := by
  unfold extW
  rw [List.range_succ, List.map_append]
  rfl
theorem flatMap_snoc {α β : Type} (f : α → List β) (ls : List α) (l : α) : (ls ++ [l]).flatMap f = ls.flatMap f ++ f l := by
  rw [List.flatMap_append]
  simp
theorem flatMap_take_le {ls : List (List Int)} {k : Nat} (i : Nat) : ((ls.take i).flatMap (extW k)).length ≤ ls.length * k := by
  rw [flatMap_len (k := k) (fun w _ => by simp [extW]), List.length_take]
  exact Nat.mul_le_mul_right _ (Nat.min_le_right _ _)
end Go.Sh
namespace Go.Proofs.Ytiohaeckagjebaa
open Go Go.Sh Go.RowKit

theorem specShortWords_c {F : Nat → Prop} {w : World} {v : Value} {gm : Gram} {most : Int} (hv : GramV F w v gm) {k : Value → World → Prop}
    (hk : ∀ w' U d ps, Gr w w' → OwnSS 22 3 w' w.heap.size U d (shortV gm most).1 ps → k (.tuple #[.slice U (shortV gm most).1.length d, .bool (shortV gm most).2]) w') :
    CallK Try.prog 105 [v, .int .i64 most] k w := by
  obtain ⟨Y, cy, rfl, hc, hy⟩ := hv
  refine enter105 ?_
  unfold S105
  have H := Apt.nil w
  refine boxH H fun b1 w1 H => ?_
  rw [ldB_agg agg37 sz37 rfl (H.box 0 rfl)]
  refine goodGrammar_c (gm := gm) ⟨Y, cy, rfl, hc, hy.gr H.gr⟩ fun w2 g2 => ?_
  have H := H.step g2
  unfold shortV at hk
  cases hg : goodG gm
  · simp only [Bool.not_false, go_sem, Nat.reduceEqDiff]
    rw [hg, Bool.false_and, if_neg Bool.false_ne_true] at hk
    exact hk _ none 0 (fun _ => (none, 0)) H.gr (OwnSS.nil _ _ _ _ _)
  simp only [Bool.not_true, go_sem, Nat.reduceEqDiff]
  refine l1In_c ?_
  rw [hg, Bool.true_and] at hk
  cases hm : inB most 0 4
  · simp only [Bool.not_false, go_sem, Nat.reduceEqDiff]
    rw [hm, if_neg Bool.false_ne_true] at hk
    exact hk _ none 0 (fun _ => (none, 0)) H.gr (OwnSS.nil _ _ _ _ _)
  rw [hm, if_pos rfl] at hk
  obtain ⟨most, rfl⟩ : ∃ m' : Nat, most = m' := by
    simp only [inB, Bool.and_eq_true, decide_eq_true_eq] at hm
    exact ⟨most.toNat, by omega⟩
  have hm4 : most ≤ 4 := by
    simp only [inB, Bool.and_eq_true, decide_eq_true_eq] at hm
    omega
  rw [Int.toNat_natCast] at hk
  dsimp only at hk
  have htk := good_toks hg
  obtain ⟨toks, htoks⟩ : ∃ t : Nat, gm.toks = t := ⟨gm.toks.toNat, by omega⟩
  have htn : gm.toks.toNat = toks := by omega
  simp only [Bool.not_true, go_sem, Nat.reduceEqDiff]
  refine buildH H u48 inf22 [.slice none 0 0] (by decide) (by decide) (by simp [Instr.fill, madeCells, Value.cells, rng1]) rfl fun b2 w3 H => ?_
  have H := (H.addNil 3 1).single (i := 1) (j := 2) (by decide) (e2 := 3) (ys := []) rfl rfl
  have H := ((H.addNil 22 1).emptySS 3 (e2 := 3) (fun _ => (none, 0)) rfl).erase 2
  simp only [List.nil_append, List.cons_append, List.set_cons_zero, List.set_cons_succ, List.eraseIdx_cons_zero, List.eraseIdx_cons_succ] at H
  refine loop_to (most + 1) 0 (fun n f w' => n ≤ most + 1 ∧ f 8 = .int .i64 n ∧ ∃ (U V : Option Addr) (d e : Nat) (ps qs : Nat → Option Addr × Nat), f 7 = .slice U (wordsN toks n).length d ∧ f 6 = .slice V (shortW gm n).length e ∧
      Apt w w' [bx b1 [.int .i64 gm.nons, .int .i64 gm.toks, .slice Y gm.rules.length cy] 37, lss U d (wordsN toks n) ps, lss V e (shortW gm n) qs])
    ⟨Nat.zero_le _, rfl, _, none, _, 0, _, _, rfl, rfl, H⟩ ?_
  rintro n f w4 N hag ⟨hn, h8, U, V, d, e, ps, qs, h7, h6, H⟩ hN
  have f1 : f 1 = .int .i64 most := hag 1 (by decide)
  have f2 : f 2 = ptrv b1 := hag 2 (by decide)
  simp only [f1, h8, h7, h6, go_sem, Nat.reduceEqDiff]
  by_cases hle : n ≤ most
  case neg =>
    simp only [show ¬ ((n : Int) ≤ most) from by omega, decide_false, go_sem, Nat.reduceEqDiff]
    obtain rfl : n = most + 1 := by omega
    exact hk _ V e qs H.gr (H.lssi 2 rfl)
  simp only [show ((n : Int) ≤ most) from by omega, decide_true, go_sem, Nat.reduceEqDiff]
  have hwl := wordsN_le (toks := toks) (n := n) (by omega) (by omega)
  have hwm := fun w => @wordsN_mem toks n w
  have hsl := shortW_len (gm := gm) htk.2 (n := n) (by omega)
  have hnext : wordsN toks (n + 1) = (wordsN toks n).flatMap (extW toks) := rfl
  have hshort := shortW_succ gm n
  rw [htn] at hshort
  generalize wordsN toks n = ls at *
  generalize shortW gm n = so at *
  have H := (H.addNil 22 1).emptySS 3 (e2 := 3) (fun _ => (none, 0)) rfl
  simp only [List.nil_append, List.cons_append, List.set_cons_zero, List.set_cons_succ] at H
  refine loop_to ls.length 0 (fun i f w' => i ≤ ls.length ∧ f 29 = .int .i64 i ∧ ∃ (V X : Option Addr) (e c : Nat) (qs rs : Nat → Option Addr × Nat), f 6 = .slice V (so ++ (ls.take i).filter (inL gm.rules)).length e ∧ f 9 = .slice X ((ls.take i).flatMap (extW toks)).length c ∧
      Apt w w' [bx b1 [.int .i64 gm.nons, .int .i64 gm.toks, .slice Y gm.rules.length cy] 37, lss U d ls ps, lss V e (so ++ (ls.take i).filter (inL gm.rules)) qs, lss X c ((ls.take i).flatMap (extW toks)) rs])
    ⟨Nat.zero_le _, rfl, V, none, e, 0, qs, _, by simp; exact h6, rfl, by simpa using H⟩ ?_
  rintro i g w5 N2 hag2 ⟨hi, h29, V, X, e, c, qs, rs, h6, h9, H⟩ hN2
  have g27 : g 27 = .slice U ls.length d := hag2 27 (by decide)
  have g28 : g 28 = .int .i64 ls.length := hag2 28 (by decide)
  have g2' : g 2 = ptrv b1 := (hag2 2 (by decide)).trans f2
  have g8 : g 8 = .int .i64 n := (hag2 8 (by decide)).trans h8
  simp only [g27, g28, g2', g8, h29, h6, h9, go_sem, Nat.reduceEqDiff]
  by_cases hlt : i < ls.length
  case neg =>
    simp only [show ¬ ((i : Int) < ls.length) from by omega, decide_false, go_sem, Nat.reduceEqDiff]
    rw [List.take_of_length_le (by omega)] at H h9 h6 ⊢
    rw [i64_of (by omega) (by omega)]
    refine hN _ _ (by omega) ⟨by omega, rfl, X, V, c, e, rs, qs, ?_, ?_, ?_⟩
    · rw [hnext]
      exact rfl
    · rw [hshort]
      exact h6
    · rw [hnext, hshort]
      exact ((H.erase 1).pick (L' := [_, _, _]) (fun i => [0, 2, 1].getD i 0) (fun i a ha => by
        match i, ha with
        | 0, ha => exact ha
        | 1, ha => exact ha
        | 2, ha => exact ha
        | i + 3, ha => simp at ha) (fun i j hi hj e => by
        simp only [List.length_cons, List.length_nil] at hi hj
        match i, j, hi, hj, e with
        | 0, 0, _, _, _ | 1, 1, _, _, _ | 2, 2, _, _, _ => rfl
        | 0, 1, _, _, e | 0, 2, _, _, e | 1, 0, _, _, e | 1, 2, _, _, e | 2, 0, _, _, e | 2, 1, _, _, e => exact absurd e (by decide)
        | i + 3, _, h, _, _ => omega
        | _, j + 3, _, h, _ => omega))
  simp only [show ((i : Int) < ls.length) from by omega, decide_true, go_sem, Nat.reduceEqDiff]
  have o := H.lssi 1 rfl
  have hm2 := hwm _ (rgt_mem hlt)
  have hwi := (o.own i hlt).ints
  have hfl := filter_le (inL gm.rules) (ls.take i)
  rw [List.length_take] at hfl
  have hflat := flatMap_take_le (ls := ls) (k := toks) i
  have hmul : ls.length * toks ≤ 1024 * 4 := Nat.mul_le_mul hwl (by omega)
  have hel : ∀ t, (extW t (rgt ls i)).length = t := fun t => by simp [extW]
  refine rdi (ixn48 (fun h => o.ptr h) hlt) ?_
  refine rdi (ld22 (o.cell hlt)) ?_
  refine rdi (ldB_agg agg37 sz37 rfl (H.box 0 rfl)) ?_
  refine l4In_c (gm := gm) ⟨Y, cy, rfl, hc, hy.gr H.gr⟩ hg hwi rfl (by omega) fun w6 g6 => ?_
  have H := H.step g6
  have o := H.lssi 1 rfl
  have hwi := (o.own i hlt).ints
  cases hin : inL gm.rules (rgt ls i)
  · simp only [go_sem, Nat.reduceEqDiff]
    have hso : so ++ (ls.take (i + 1)).filter (inL gm.rules) = so ++ (ls.take i).filter (inL gm.rules) := by
      rw [take_snoc_rgt hlt, filter_snoc, hin, if_neg Bool.false_ne_true, List.append_nil]
    rw [← hso] at H
    refine loop_to toks 0 (fun t f w' => t ≤ toks ∧ f 12 = .int .i64 t ∧ ∃ (X : Option Addr) (c : Nat) (rs : Nat → Option Addr × Nat), f 9 = .slice X ((ls.take i).flatMap (extW toks) ++ extW t (rgt ls i)).length c ∧
        Apt w w' [bx b1 [.int .i64 gm.nons, .int .i64 gm.toks, .slice Y gm.rules.length cy] 37, lss U d ls ps, lss V e (so ++ (ls.take (i + 1)).filter (inL gm.rules)) qs, lss X c ((ls.take i).flatMap (extW toks) ++ extW t (rgt ls i)) rs])
      ⟨Nat.zero_le _, rfl, X, c, rs, by simp only [extW, List.range_zero, List.map_nil, List.append_nil]; exact h9, by simpa only [extW, List.range_zero, List.map_nil, List.append_nil] using H⟩ ?_
    rintro t r w7 N3 hag3 ⟨ht, r12, X, c, rs, r9, H⟩ hN3
    have r2 : r 2 = ptrv b1 := (hag3 2 (by decide)).trans g2'
    have r11 : r 11 = .slice (ps i).1 (rgt ls i).length (ps i).2 := hag3 11 (by decide)
    have r6 : r 6 = .slice V (so ++ (ls.take (i + 1)).filter (inL gm.rules)).length e := by
      rw [hso]
      exact (hag3 6 (by decide)).trans h6
    have r29 : r 29 = .int .i64 i := (hag3 29 (by decide)).trans h29
    simp only [r2, r11, r12, r9, go_sem, Nat.reduceEqDiff]
    rw [ldB3 (H.box 0 rfl) rfl]
    simp only [go_sem, Nat.reduceEqDiff]
    by_cases hlt2 : t < toks
    case neg =>
      simp only [show ¬ ((t : Int) < gm.toks) from by omega, decide_false, r29, go_sem, Nat.reduceEqDiff]
      rw [i64_of (by omega) (by omega)]
      obtain rfl : t = toks := by omega
      refine hN2 _ _ hlt ⟨by omega, rfl, V, X, e, c, qs, rs, r6, ?_, ?_⟩
      · rw [take_snoc_rgt hlt, flatMap_snoc]
        exact r9
      · rw [show (ls.take (i + 1)).flatMap (extW t) = (ls.take i).flatMap (extW t) ++ extW t (rgt ls i) from by rw [take_snoc_rgt hlt, flatMap_snoc]]
        exact H
    simp only [show ((t : Int) < gm.toks) from by omega, decide_true, go_sem, Nat.reduceEqDiff]
    have o := H.lssi 1 rfl
    have hwi := (o.own i hlt).ints
    refine l1Own_c hwi rfl (by omega) fun X1 d1 w8 g8 o1 => ?_
    have H := H.addRow g8 o1
    simp only [List.nil_append, List.cons_append] at H
    refine pushH H 4 rfl rfl (by omega) fun t1 X2 d2 w9 H => ?_
    simp only [List.set_cons_zero, List.set_cons_succ] at H
    refine pushSSH H 3 4 (by decide) rfl rfl rfl rfl (by rw [List.length_append, hel]; omega) fun t2 X3 c3 w10 rs3 H => ?_
    have H := H.erase 4
    simp only [List.set_cons_zero, List.set_cons_succ, List.eraseIdx_cons_zero, List.eraseIdx_cons_succ] at H
    rw [i64_of (by omega) (by omega)]
    refine hN3 _ _ hlt2 ⟨by omega, rfl, X3, c3, rs3, ?_, ?_⟩
    · rw [extW_succ, ← List.append_assoc]
      rfl
    · rw [extW_succ, ← List.append_assoc]
      exact H
  · simp only [go_sem, Nat.reduceEqDiff]
    have hso : so ++ (ls.take (i + 1)).filter (inL gm.rules) = so ++ (ls.take i).filter (inL gm.rules) ++ [rgt ls i] := by
      rw [take_snoc_rgt hlt, filter_snoc, hin, if_pos rfl, List.append_assoc]
    refine l1Own_c hwi rfl (by omega) fun X1 d1 w7 g7 o1 => ?_
    have H := H.addRow g7 o1
    simp only [List.nil_append, List.cons_append] at H
    refine pushSSH H 2 4 (by decide) rfl rfl rfl rfl (by rw [List.length_append]; omega) fun t V' e' w8 qs' H => ?_
    have H := H.erase 4
    simp only [List.set_cons_zero, List.set_cons_succ, List.eraseIdx_cons_zero, List.eraseIdx_cons_succ] at H
    rw [← hso] at H
    refine loop_to toks 0 (fun t f w' => t ≤ toks ∧ f 12 = .int .i64 t ∧ ∃ (X : Option Addr) (c : Nat) (rs : Nat → Option Addr × Nat), f 9 = .slice X ((ls.take i).flatMap (extW toks) ++ extW t (rgt ls i)).length c ∧
        Apt w w' [bx b1 [.int .i64 gm.nons, .int .i64 gm.toks, .slice Y gm.rules.length cy] 37, lss U d ls ps, lss V' e' (so ++ (ls.take (i + 1)).filter (inL gm.rules)) qs', lss X c ((ls.take i).flatMap (extW toks) ++ extW t (rgt ls i)) rs])
      ⟨Nat.zero_le _, rfl, X, c, rs, by simp only [extW, List.range_zero, List.map_nil, List.append_nil]; exact h9, by simpa only [extW, List.range_zero, List.map_nil, List.append_nil] using H⟩ ?_
    rintro t r w7 N3 hag3 ⟨ht, r12, X, c, rs, r9, H⟩ hN3
    have r2 : r 2 = ptrv b1 := (hag3 2 (by decide)).trans g2'
    have r11 : r 11 = .slice (ps i).1 (rgt ls i).length (ps i).2 := hag3 11 (by decide)
    have r6 : r 6 = .slice V' (so ++ (ls.take (i + 1)).filter (inL gm.rules)).length e' := by
      rw [hso]
      exact hag3 6 (by decide)
    have r29 : r 29 = .int .i64 i := (hag3 29 (by decide)).trans h29
    simp only [r2, r11, r12, r9, go_sem, Nat.reduceEqDiff]
    rw [ldB3 (H.box 0 rfl) rfl]
    simp only [go_sem, Nat.reduceEqDiff]
    by_cases hlt2 : t < toks
    case neg =>
      simp only [show ¬ ((t : Int) < gm.toks) from by omega, decide_false, r29, go_sem, Nat.reduceEqDiff]
      rw [i64_of (by omega) (by omega)]
      obtain rfl : t = toks := by omega
      refine hN2 _ _ hlt ⟨by omega, rfl, V', X, e', c, qs', rs, r6, ?_, ?_⟩
      · rw [take_snoc_rgt hlt, flatMap_snoc]
        exact r9
      · rw [show (ls.take (i + 1)).flatMap (extW t) = (ls.take i).flatMap (extW t) ++ extW t (rgt ls i) from by rw [take_snoc_rgt hlt, flatMap_snoc]]
        exact H
    simp only [show ((t : Int) < gm.toks) from by omega, decide_true, go_sem, Nat.reduceEqDiff]
    have o := H.lssi 1 rfl
    have hwi := (o.own i hlt).ints
    refine l1Own_c hwi rfl (by omega) fun X1 d1 w8 g8 o1 => ?_
    have H := H.addRow g8 o1
    simp only [List.nil_append, List.cons_append] at H
    refine pushH H 4 rfl rfl (by omega) fun t1 X2 d2 w9 H => ?_
    simp only [List.set_cons_zero, List.set_cons_succ] at H
    refine pushSSH H 3 4 (by decide) rfl rfl rfl rfl (by rw [List.length_append, hel]; omega) fun t2 X3 c3 w10 rs3 H => ?_
    have H := H.erase 4
    simp only [List.set_cons_zero, List.set_cons_succ, List.eraseIdx_cons_zero, List.eraseIdx_cons_succ] at H
    rw [i64_of (by omega) (by omega)]
    refine hN3 _ _ hlt2 ⟨by omega, rfl, X3, c3, rs3, ?_, ?_⟩
    · rw [extW_succ, ← List.append_assoc]
      rfl
    · rw [extW_succ, ← List.append_assoc]
      exact H
end Go.Proofs.Ytiohaeckagjebaa

/- Contracts: words of so many tokens, and all short words of a language, by the program. -/
set_option linter.unusedVariables false
set_option linter.unusedSimpArgs false
set_option maxRecDepth 100000
namespace Go.Sh
open Go
/-- Slices of numbers of which those from place n on are the call's own still. -/
structure OwnSF (e1 e2 : Nat) (w : World) (B : Nat) (X : Option Addr) (c : Nat) (ls : List (List Int)) (ps : Nat → Option Addr × Nat) (n : Nat) : Prop where
  row : ∃ cells, Row w B e1 1 X ls.length c cells ∧ ∀ j, j < ls.length → cells[j]? = some (.slice (ps j).1 (rgt ls j).length (ps j).2)
  own : ∀ j, n ≤ j → j < ls.length → Own e2 w B (ps j).1 (ps j).2 (rgt ls j)
  two : ∀ i j, n ≤ i → n ≤ j → i < ls.length → j < ls.length → i ≠ j → blk (ps i).1 = none ∨ blk (ps i).1 ≠ blk (ps j).1
def FootF (X : Option Addr) (ps : Nat → Option Addr × Nat) (n m : Nat) (q : Nat) : Prop := blk X = some q ∨ ∃ l, n ≤ l ∧ l < m ∧ blk (ps l).1 = some q
section
variable {e1 e2 c n B : Nat} {w w' w0 : World} {X : Option Addr} {ls : List (List Int)} {ps : Nat → Option Addr × Nat} {L : List Thing}
theorem OwnSF.same (h : OwnSF e1 e2 w B X c ls ps n) (hs : ∀ q, FootF X ps n ls.length q → w'.heap[q]? = w.heap[q]?) : OwnSF e1 e2 w' B X c ls ps n := by
  obtain ⟨⟨cells, hr, hc⟩, ho, ht⟩ := h
  exact ⟨⟨cells, hr.same fun q hq => hs q (.inl hq), hc⟩, fun j hn hj => Row.same (ho j hn hj) fun q hq => hs q (.inr ⟨j, hn, hj, hq⟩), ht⟩
theorem OwnSF.up {B' : Nat} (h : OwnSF e1 e2 w B X c ls ps n) (hs : ∀ q, FootF X ps n ls.length q → B' ≤ q) : OwnSF e1 e2 w B' X c ls ps n := by
  obtain ⟨⟨cells, hr, hc⟩, ho, ht⟩ := h
  exact ⟨⟨cells, hr.up fun q hq => hs q (.inl hq), hc⟩, fun j hn hj => Row.up (ho j hn hj) fun q hq => hs q (.inr ⟨j, hn, hj, hq⟩), ht⟩
theorem OwnSF.mono {B' : Nat} (h : OwnSF e1 e2 w B X c ls ps n) (hb : B' ≤ B) : OwnSF e1 e2 w B' X c ls ps n := by
  obtain ⟨⟨cells, hr, hc⟩, ho, ht⟩ := h
  exact ⟨⟨cells, Row.mono hr hb, hc⟩, fun j hn hj => Row.mono (ho j hn hj) hb, ht⟩
theorem OwnSF.foot (h : OwnSF e1 e2 w B X c ls ps n) {q : Nat} (hq : FootF X ps n ls.length q) : B ≤ q ∧ q < w.heap.size := by
  obtain ⟨⟨cells, hr, hc⟩, ho, ht⟩ := h
  rcases hq with hq | ⟨l, hn, hl, hq⟩
  · exact hr.ge hq
  · exact Row.ge (ho l hn hl) hq
theorem OwnSF.ptr (h : OwnSF e1 e2 w B X c ls ps n) (hl : 0 < ls.length) : X = some (ad X) := by
  obtain ⟨⟨cells, hr, hc⟩, _⟩ := h
  exact hr.ptr hl
theorem OwnSF.cell (h : OwnSF e1 e2 w B X c ls ps n) {j : Nat} (hj : j < ls.length) : w.cell? ((ad X).add j) = some (.slice (ps j).1 (rgt ls j).length (ps j).2) := by
  obtain ⟨⟨cells, hr, hc⟩, _⟩ := h
  exact hr.src.cell _ _ (hc j hj)
def lsfi (e1 e2 : Nat) (X : Option Addr) (c : Nat) (ls : List (List Int)) (ps : Nat → Option Addr × Nat) (n : Nat) : Thing := ⟨fun w => OwnSF e1 e2 w 0 X c ls ps n, FootF X ps n ls.length⟩
theorem Apt.lsfi (H : Apt w0 w L) (i : Nat) (hi : L[i]? = some (lsfi e1 e2 X c ls ps n)) : OwnSF e1 e2 w w0.heap.size X c ls ps n := OwnSF.up (H.get i hi) (H.ok i _ hi).lo
theorem Apt.lsf0 (H : Apt w0 w L) (i : Nat) (hi : L[i]? = some (Sh.lssi e1 e2 X c ls ps)) : Apt w0 w (L.set i (Sh.lsfi e1 e2 X c ls ps 0)) := by
  have o := H.lssi i hi
  refine H.set hi (Gx.refl _ w) (fun q hq => .inl ?_) (fun q hq => (o.foot ?_).2) fun w' hs => ?_
  · rcases hq with hq | ⟨l, _, hl, hq⟩
    · exact .inl hq
    · exact .inr ⟨l, hl, hq⟩
  · rcases hq with hq | ⟨l, _, hl, hq⟩
    · exact .inl hq
    · exact .inr ⟨l, hl, hq⟩
  · have o' : OwnSF e1 e2 w w0.heap.size X c ls ps 0 := ⟨o.row, fun j _ hj => o.own j hj, fun i j _ _ hi hj => o.two i j hi hj⟩
    exact (o'.mono (Nat.zero_le _)).same hs
/-- The slice at place n is taken out. -/
theorem Apt.pull (H : Apt w0 w L) (j : Nat) (he : e1 ≠ e2) (hj : L[j]? = some (Sh.lsfi e1 e2 X c ls ps n)) (hn : n < ls.length) : Apt w0 w (L.set j (Sh.lsfi e1 e2 X c ls ps (n + 1)) ++ [rwi e2 1 (ps n).1 (rgt ls n).length (ps n).2 (Sh.ints (rgt ls n))]) := by
  have o := H.lsfi j hj
  have okj := H.ok j _ hj
  have hsub : ∀ q, FootF X ps (n + 1) ls.length q → FootF X ps n ls.length q := fun q hq => by
    rcases hq with hq | ⟨l, h1, hl, hq⟩
    · exact .inl hq
    · exact .inr ⟨l, by omega, hl, hq⟩
  have hin : ∀ q, blk (ps n).1 = some q → FootF X ps n ls.length q := fun q hq => .inr ⟨n, Nat.le_refl _, hn, hq⟩
  have hoff : ∀ q, FootF X ps (n + 1) ls.length q → blk (ps n).1 ≠ some q := fun q hq e => by
    rcases hq with hq | ⟨l, h1, hl, hq⟩
    · obtain ⟨cells, hr, _⟩ := o.row
      rcases row_ne (o.own n (Nat.le_refl _) hn) hr (fun e => he e.symm) with h | h
      · rw [h] at e; cases e
      · exact h (e.trans hq.symm)
    · rcases o.two n l (Nat.le_refl _) (by omega) hn hl (by omega) with h | h
      · rw [h] at e; cases e
      · exact h (e.trans hq.symm)
  have sub : ∀ l x, (L.set j (Sh.lsfi e1 e2 X c ls ps (n + 1)) ++ [rwi e2 1 (ps n).1 (rgt ls n).length (ps n).2 (Sh.ints (rgt ls n))])[l]? = some x → (l = j ∧ x = Sh.lsfi e1 e2 X c ls ps (n + 1)) ∨ (l ≠ j ∧ L[l]? = some x) ∨ (l = L.length ∧ x = rwi e2 1 (ps n).1 (rgt ls n).length (ps n).2 (Sh.ints (rgt ls n))) := fun l x hx => by
    rcases get_snoc hx with h | ⟨h1, h2⟩
    · rcases get_set h with h | h
      · exact .inl h
      · exact .inr (.inl h)
    · rw [List.length_set] at h1
      exact .inr (.inr ⟨h1, h2⟩)
  have ho := o.own n (Nat.le_refl _) hn
  refine ⟨H.gr, fun l x hx => ?_, fun l m x y hlm hx hy q hq hq' => ?_⟩
  · rcases sub l x hx with ⟨_, rfl⟩ | ⟨_, h⟩ | ⟨_, rfl⟩
    · have o' : OwnSF e1 e2 w w0.heap.size X c ls ps (n + 1) := ⟨o.row, fun i hi => o.own i (by omega), fun a b ha hb => o.two a b (by omega) (by omega)⟩
      exact ⟨fun q hq => okj.lo q (hsub q hq), fun q hq => okj.hi q (hsub q hq), fun w' hs => (o'.mono (Nat.zero_le _)).same hs⟩
    · exact H.ok l x h
    · exact ⟨fun q hq => okj.lo q (hin q hq), fun q hq => okj.hi q (hin q hq), rwi_kept ho⟩
  · rcases sub l x hx with ⟨hl, rfl⟩ | ⟨hl, h⟩ | ⟨hl, rfl⟩
    · rcases sub m y hy with ⟨hm, rfl⟩ | ⟨hm, h'⟩ | ⟨hm, rfl⟩
      · exact hlm (hl.trans hm.symm)
      · exact H.two j m _ y (fun e => hm e.symm) hj h' q (hsub q hq) hq'
      · exact hoff q hq hq'
    · rcases sub m y hy with ⟨hm, rfl⟩ | ⟨hm, h'⟩ | ⟨hm, rfl⟩
      · exact H.two l j x _ hl h hj q hq (hsub q hq')
      · exact H.two l m x y hlm h h' q hq hq'
      · exact H.two l j x _ hl h hj q hq (hin q hq')
    · rcases sub m y hy with ⟨hm, rfl⟩ | ⟨hm, h'⟩ | ⟨hm, rfl⟩
      · exact hoff q hq' hq
      · exact H.two m j y _ hm h' hj q hq' (hin q hq)
      · exact hlm (hl.trans hm.symm)
end
end Go.Sh
namespace Go.Proofs.Ytiohaeckagjebaa
open Go Go.Sh Go.RowKit
abbrev lsf (X : Option Addr) (c : Nat) (ls : List (List Int)) (ps : Nat → Option Addr × Nat) (n : Nat) : Thing := lsfi 22 3 X c ls ps n
theorem wordsOf_c {toks n : Nat} {tk : Int} {w : World} (htk : tk = toks) (ht : toks ≤ 4) (hn : n ≤ 4) {k : Value → World → Prop}
    (hk : ∀ w' U d ps, Gr w w' → OwnSS 22 3 w' w.heap.size U d (wordsN toks n) ps → k (.slice U (wordsN toks n).length d) w') :
    CallK Try.prog 150 [.int .i64 tk, .int .i64 n] k w := by
  subst htk
  refine enter150 ?_
  unfold S150
  have H := Apt.nil w
  refine buildH H u22 inf3 [] (by decide) (by decide) (by simp [Instr.fill, madeCells]) rfl fun b0 w1 H => ?_
  refine buildH H u48 inf22 [.slice (some ⟨b0, 0, none⟩) 0 0] (by decide) (by decide) (by simp [Instr.fill, madeCells, Value.cells, rng1]) rfl fun b1 w2 H => ?_
  simp only [List.nil_append, List.cons_append] at H
  have H := (H.single (i := 1) (j := 0) (by decide) (e2 := 3) (ys := []) rfl rfl).erase 0
  simp only [List.set_cons_zero, List.set_cons_succ, List.eraseIdx_cons_zero, List.eraseIdx_cons_succ] at H
  refine loop_to n 0 (fun m f w' => m ≤ n ∧ f 13 = .int .i64 m ∧ ∃ (U : Option Addr) (d : Nat) (ps : Nat → Option Addr × Nat), f 5 = .slice U (wordsN toks m).length d ∧ Apt w w' [lss U d (wordsN toks m) ps])
    ⟨Nat.zero_le _, rfl, _, _, _, rfl, H⟩ ?_
  rintro m f w3 N hag ⟨hm, h13, U, d, ps, h5, H⟩ hN
  have f0 : f 0 = .int .i64 toks := hag 0 (by decide)
  have f12 : f 12 = .int .i64 n := hag 12 (by decide)
  simp only [f12, h13, h5, f0, go_sem, Nat.reduceEqDiff]
  by_cases hlt : m < n
  case neg =>
    simp only [show ¬ ((m : Int) < n) from by omega, decide_false, go_sem, Nat.reduceEqDiff]
    obtain rfl : m = n := by omega
    exact hk _ U d ps H.gr (H.lssi 0 rfl)
  simp only [show ((m : Int) < n) from by omega, decide_true, go_sem, Nat.reduceEqDiff]
  have hwl := wordsN_le (toks := toks) (n := m) (by omega) (by omega)
  have hwm := fun w => @wordsN_mem toks m w
  have hnext : wordsN toks (m + 1) = (wordsN toks m).flatMap (extW toks) := rfl
  generalize wordsN toks m = ls at *
  refine buildH H u48 inf22 [] (by decide) (by decide) (by simp [Instr.fill, madeCells]) rfl fun b2 w4 H => ?_
  simp only [List.nil_append, List.cons_append] at H
  have H := H.emptySS 1 (e2 := 3) (fun _ => (none, 0)) rfl
  simp only [List.set_cons_zero, List.set_cons_succ] at H
  refine loop_to ls.length 0 (fun i f w' => i ≤ ls.length ∧ f 18 = .int .i64 i ∧ ∃ (X : Option Addr) (c : Nat) (rs : Nat → Option Addr × Nat), f 6 = .slice X ((ls.take i).flatMap (extW toks)).length c ∧
      Apt w w' [lss U d ls ps, lss X c ((ls.take i).flatMap (extW toks)) rs])
    ⟨Nat.zero_le _, rfl, _, _, _, rfl, H⟩ ?_
  rintro i g w5 N2 hag2 ⟨hi, h18, X, c, rs, h6, H⟩ hN2
  have g0 : g 0 = .int .i64 toks := (hag2 0 (by decide)).trans f0
  have g16 : g 16 = .slice U ls.length d := hag2 16 (by decide)
  have g17 : g 17 = .int .i64 ls.length := hag2 17 (by decide)
  have g13 : g 13 = .int .i64 m := (hag2 13 (by decide)).trans h13
  simp only [g0, g16, g17, g13, h18, h6, go_sem, Nat.reduceEqDiff]
  by_cases hlt2 : i < ls.length
  case neg =>
    simp only [show ¬ ((i : Int) < ls.length) from by omega, decide_false, go_sem, Nat.reduceEqDiff]
    rw [List.take_of_length_le (by omega)] at H h6 ⊢
    rw [i64_of (by omega) (by omega)]
    refine hN _ _ hlt ⟨by omega, rfl, X, c, rs, ?_, ?_⟩
    · rw [hnext]
      exact rfl
    · rw [hnext]
      exact H.erase 0
  simp only [show ((i : Int) < ls.length) from by omega, decide_true, go_sem, Nat.reduceEqDiff]
  have o := H.lssi 0 rfl
  have hm2 := hwm _ (rgt_mem hlt2)
  have hflat := flatMap_take_le (ls := ls) (k := toks) i
  have hmul : ls.length * toks ≤ 1024 * 4 := Nat.mul_le_mul hwl (by omega)
  have hel : ∀ t, (extW t (rgt ls i)).length = t := fun t => by simp [extW]
  refine rdi (ixn48 (fun h => o.ptr h) hlt2) ?_
  refine rdi (ld22 (o.cell hlt2)) ?_
  refine loop_to toks 0 (fun t f w' => t ≤ toks ∧ f 23 = .int .i64 t ∧ ∃ (X : Option Addr) (c : Nat) (rs : Nat → Option Addr × Nat), f 6 = .slice X ((ls.take i).flatMap (extW toks) ++ extW t (rgt ls i)).length c ∧
      Apt w w' [lss U d ls ps, lss X c ((ls.take i).flatMap (extW toks) ++ extW t (rgt ls i)) rs])
    ⟨Nat.zero_le _, rfl, X, c, rs, by simp only [extW, List.range_zero, List.map_nil, List.append_nil]; exact h6, by simpa only [extW, List.range_zero, List.map_nil, List.append_nil] using H⟩ ?_
  rintro t r w7 N3 hag3 ⟨ht', r23, X, c, rs, r6, H⟩ hN3
  have r8 : r 8 = .slice (ps i).1 (rgt ls i).length (ps i).2 := hag3 8 (by decide)
  have r22 : r 22 = .int .i64 toks := hag3 22 (by decide)
  have r18 : r 18 = .int .i64 i := (hag3 18 (by decide)).trans h18
  simp only [r8, r22, r23, r6, go_sem, Nat.reduceEqDiff]
  by_cases hlt3 : t < toks
  case neg =>
    simp only [show ¬ ((t : Int) < toks) from by omega, decide_false, r18, go_sem, Nat.reduceEqDiff]
    rw [i64_of (by omega) (by omega)]
    obtain rfl : t = toks := by omega
    refine hN2 _ _ hlt2 ⟨by omega, rfl, X, c, rs, ?_, ?_⟩
    · rw [take_snoc_rgt hlt2, flatMap_snoc]
      exact r6
    · rw [take_snoc_rgt hlt2, flatMap_snoc]
      exact H
  simp only [show ((t : Int) < toks) from by omega, decide_true, go_sem, Nat.reduceEqDiff]
  refine buildH H u22 inf3 [] (by decide) (by decide) (by simp [Instr.fill, madeCells]) rfl fun b3 w8 H => ?_
  simp only [List.nil_append, List.cons_append] at H
  have o := H.lssi 0 rfl
  have hwi := (o.own i hlt2).ints
  refine apH H 2 (xs := []) rfl hwi rfl rfl (by simp; omega) fun X1 d1 w9 H => ?_
  simp only [List.set_cons_zero, List.set_cons_succ, List.nil_append] at H ⊢
  refine pushH H 2 rfl rfl (by omega) fun t1 X2 d2 w10 H => ?_
  simp only [List.set_cons_zero, List.set_cons_succ] at H
  refine pushSSH H 1 2 (by decide) rfl rfl rfl rfl (by rw [List.length_append, hel]; omega) fun t2 X3 c3 w11 rs3 H => ?_
  have H := H.erase 2
  simp only [List.set_cons_zero, List.set_cons_succ, List.eraseIdx_cons_zero, List.eraseIdx_cons_succ] at H
  rw [i64_of (by omega) (by omega)]
  refine hN3 _ _ hlt3 ⟨by omega, rfl, X3, c3, rs3, ?_, ?_⟩
  · rw [extW_succ, ← List.append_assoc]
    rfl
  · rw [extW_succ, ← List.append_assoc]
    exact H
theorem implShortWords_c {F : Nat → Prop} {w : World} {v : Value} {gm : Gram} {most : Int} (hv : GramV F w v gm) {k : Value → World → Prop}
    (hk : ∀ w' U d ps, Gr w w' → OwnSS 22 3 w' w.heap.size U d (shortV gm most).1 ps → k (.tuple #[.slice U (shortV gm most).1.length d, .bool (shortV gm most).2]) w') :
    CallK Try.prog 106 [v, .int .i64 most] k w := by
  obtain ⟨Y, cy, rfl, hc, hy⟩ := hv
  refine enter106 ?_
  unfold S106
  have H := Apt.nil w
  refine boxH H fun b1 w1 H => ?_
  rw [ldB_agg agg37 sz37 rfl (H.box 0 rfl)]
  refine isGrammar_c (gm := gm) ⟨Y, cy, rfl, hc, hy.gr H.gr⟩ fun w2 g2 => ?_
  have H := H.step g2
  unfold shortV at hk
  cases hg : goodG gm
  · simp only [Bool.not_false, go_sem, Nat.reduceEqDiff]
    rw [hg, Bool.false_and, if_neg Bool.false_ne_true] at hk
    exact hk _ none 0 (fun _ => (none, 0)) H.gr (OwnSS.nil _ _ _ _ _)
  simp only [Bool.not_true, go_sem, Nat.reduceEqDiff]
  refine in_c ?_
  rw [hg, Bool.true_and] at hk
  cases hm : inB most 0 4
  · simp only [Bool.not_false, go_sem, Nat.reduceEqDiff]
    rw [hm, if_neg Bool.false_ne_true] at hk
    exact hk _ none 0 (fun _ => (none, 0)) H.gr (OwnSS.nil _ _ _ _ _)
  rw [hm, if_pos rfl] at hk
  obtain ⟨most, rfl⟩ : ∃ m' : Nat, most = m' := by
    simp only [inB, Bool.and_eq_true, decide_eq_true_eq] at hm
    exact ⟨most.toNat, by omega⟩
  have hm4 : most ≤ 4 := by
    simp only [inB, Bool.and_eq_true, decide_eq_true_eq] at hm
    omega
  rw [Int.toNat_natCast] at hk
  dsimp only at hk
  have htk := good_toks hg
  obtain ⟨toks, htoks⟩ : ∃ t : Nat, gm.toks = t := ⟨gm.toks.toNat, by omega⟩
  have htn : gm.toks.toNat = toks := by omega
  simp only [Bool.not_true, go_sem, Nat.reduceEqDiff]
  simp only [List.nil_append] at H
  refine buildH H u48 inf22 [] (by decide) (by decide) (by simp [Instr.fill, madeCells]) rfl fun b2 w3 H => ?_
  simp only [List.nil_append, List.cons_append] at H
  have H := H.emptySS 1 (e2 := 3) (fun _ => (none, 0)) rfl
  simp only [List.set_cons_zero, List.set_cons_succ] at H
  rw [i64_of (by omega) (by omega)]
  refine loop_to (most + 1) 0 (fun n f w' => n ≤ most + 1 ∧ f 21 = .int .i64 n ∧ ∃ (V : Option Addr) (e : Nat) (qs : Nat → Option Addr × Nat), f 6 = .slice V (shortW gm n).length e ∧
      Apt w w' [bx b1 [.int .i64 gm.nons, .int .i64 gm.toks, .slice Y gm.rules.length cy] 37, lss V e (shortW gm n) qs])
    ⟨Nat.zero_le _, rfl, _, _, _, rfl, H⟩ ?_
  rintro n f w4 N hag ⟨hn, h21, V, e, qs, h6, H⟩ hN
  have f20 : f 20 = .int .i64 ((most : Int) + 1) := hag 20 (by decide)
  have f2 : f 2 = ptrv b1 := hag 2 (by decide)
  simp only [f20, f2, h21, h6, go_sem, Nat.reduceEqDiff]
  by_cases hlt0 : n < most + 1
  case neg =>
    simp only [show ¬ ((n : Int) < (most : Int) + 1) from by omega, decide_false, go_sem, Nat.reduceEqDiff]
    obtain rfl : n = most + 1 := by omega
    exact hk _ V e qs H.gr (H.lssi 1 rfl)
  simp only [show ((n : Int) < (most : Int) + 1) from by omega, decide_true, go_sem, Nat.reduceEqDiff]
  rw [ldB3 (H.box 0 rfl) rfl]
  refine wordsOf_c (toks := toks) htoks (by omega) (by omega) fun w5 U d ps g5 o5 => ?_
  have H := H.addLss g5 o5
  have H := H.lsf0 2 rfl
  simp only [List.nil_append, List.cons_append, List.set_cons_zero, List.set_cons_succ] at H
  have hwl := wordsN_le (toks := toks) (n := n) (by omega) (by omega)
  have hwm := fun w => @wordsN_mem toks n w
  have hsl := shortW_len (gm := gm) htk.2 (n := n) (by omega)
  have hshort := shortW_succ gm n
  rw [htn] at hshort
  clear o5
  generalize wordsN toks n = ls at *
  generalize shortW gm n = so at *
  simp only [go_sem, Nat.reduceEqDiff]
  refine loop_to ls.length 0 (fun i f w' => i ≤ ls.length ∧ f 29 = .int .i64 i ∧ ∃ (V : Option Addr) (e : Nat) (qs : Nat → Option Addr × Nat), f 6 = .slice V (so ++ (ls.take i).filter (inL gm.rules)).length e ∧
      Apt w w' [bx b1 [.int .i64 gm.nons, .int .i64 gm.toks, .slice Y gm.rules.length cy] 37, lss V e (so ++ (ls.take i).filter (inL gm.rules)) qs, lsf U d ls ps i])
    ⟨Nat.zero_le _, rfl, V, e, qs, by simp only [List.take_zero, List.filter_nil, List.append_nil]; exact h6, by simpa only [List.take_zero, List.filter_nil, List.append_nil] using H⟩ ?_
  rintro i g w6 N2 hag2 ⟨hi, h29, V, e, qs, h6, H⟩ hN2
  have g27 : g 27 = .slice U ls.length d := hag2 27 (by decide)
  have g28 : g 28 = .int .i64 ls.length := hag2 28 (by decide)
  have g2' : g 2 = ptrv b1 := (hag2 2 (by decide)).trans f2
  have g7 : g 7 = .int .i64 n := hag2 7 (by decide)
  have g21 : g 21 = .int .i64 n := (hag2 21 (by decide)).trans h21
  simp only [g27, g28, g2', g7, g21, h29, h6, go_sem, Nat.reduceEqDiff]
  by_cases hlt : i < ls.length
  case neg =>
    simp only [show ¬ ((i : Int) < ls.length) from by omega, decide_false, go_sem, Nat.reduceEqDiff]
    rw [List.take_of_length_le (by omega)] at H h6
    rw [i64_of (by omega) (by omega)]
    refine hN _ _ hlt0 ⟨by omega, rfl, V, e, qs, ?_, ?_⟩
    · rw [hshort]
      exact h6
    · rw [hshort]
      exact H.erase 2
  simp only [show ((i : Int) < ls.length) from by omega, decide_true, go_sem, Nat.reduceEqDiff]
  have o := H.lsfi 2 rfl
  have hm2 := hwm _ (rgt_mem hlt)
  have hwi := (o.own i (Nat.le_refl _) hlt).ints
  have hfl := filter_le (inL gm.rules) (ls.take i)
  rw [List.length_take] at hfl
  have hxt : ∀ t ∈ rgt ls i, 0 ≤ t ∧ t ≤ 100 := fun t hmem => by
    have := hm2.2 t hmem
    omega
  refine rdi (ixn48 (fun h => o.ptr h) hlt) ?_
  refine rdi (ld22 (o.cell hlt)) ?_
  refine rdi (ldB_agg agg37 sz37 rfl (H.box 0 rfl)) ?_
  refine spans_c (gm := gm) ⟨Y, cy, rfl, hc, hy.gr H.gr⟩ hg hwi rfl (by omega) hxt fun w7 bT HT => ?_
  simp only [go_sem, Nat.reduceEqDiff]
  refine rdi (ixa109 (by decide) (by decide)) ?_
  refine rdi (ixa108 (by decide) (by decide)) ?_
  refine rdi (ixa107 (by omega) (by omega)) ?_
  simp only [Int.toNat_natCast, go_sem, Nat.reduceEqDiff]
  have hoff : 0 + (0 + 1) + Int.toNat 0 * 121 + Int.toNat 0 * 11 + n = 0 * 121 + 0 * 11 + (rgt ls i).length + 1 := by
    rw [show Int.toNat 0 = 0 from rfl, hm2.1]
    omega
  rw [hoff]
  refine rdi (ldB4 (HT.box 0 rfl) (cellsT_at (by decide) (by decide) (by omega))) ?_
  have H := (H.step HT.gr).pull 2 (by decide) rfl hlt
  simp only [List.nil_append, List.cons_append, List.set_cons_zero, List.set_cons_succ] at H
  have hsp : spanT gm.rules (rgt ls i) 0 0 (rgt ls i).length = inL gm.rules (rgt ls i) := rfl
  rw [hsp]
  cases hin : inL gm.rules (rgt ls i)
  · simp only [go_sem, Nat.reduceEqDiff]
    rw [i64_of (by omega) (by omega)]
    have hso : so ++ (ls.take (i + 1)).filter (inL gm.rules) = so ++ (ls.take i).filter (inL gm.rules) := by
      rw [take_snoc_rgt hlt, filter_snoc, hin, if_neg Bool.false_ne_true, List.append_nil]
    rw [← hso] at H h6
    exact hN2 _ _ hlt ⟨by omega, rfl, V, e, qs, h6, H.erase 3⟩
  · simp only [go_sem, Nat.reduceEqDiff]
    have hso : so ++ (ls.take (i + 1)).filter (inL gm.rules) = so ++ (ls.take i).filter (inL gm.rules) ++ [rgt ls i] := by
      rw [take_snoc_rgt hlt, filter_snoc, hin, if_pos rfl, List.append_assoc]
    refine pushSSH H 1 3 (by decide) rfl rfl rfl rfl (by rw [List.length_append]; omega) fun t V' e' w8 qs' H => ?_
    have H := H.erase 3
    simp only [List.set_cons_zero, List.set_cons_succ, List.eraseIdx_cons_zero, List.eraseIdx_cons_succ] at H
    rw [i64_of (by omega) (by omega)]
    rw [← hso] at H
    refine hN2 _ _ hlt ⟨by omega, rfl, V', e', qs', ?_, H⟩
    rw [hso]
    exact rfl
end Go.Proofs.Ytiohaeckagjebaa

/- Contract: what comes again and again, by the program. -/
set_option linter.unusedVariables false
set_option linter.unusedSimpArgs false
set_option maxRecDepth 100000
namespace Go.Proofs.Ytiohaeckagjebaa
open Go Go.Sh Go.RowKit

theorem implStarOf_c {F : Nat → Prop} {w : World} {v : Value} {gm : Gram} (hv : GramV F w v gm) {k : Value → World → Prop}
    (hk : ∀ v w', Gr w w' → GramR w' w.heap.size v (starV gm) → k (.tuple #[v, .bool (starV gm).isSome]) w') :
    CallK Try.prog 35 [v] k w := by
  obtain ⟨Y, c, rfl, hc, hy⟩ := hv
  refine enter35 ?_
  unfold S35
  refine do_box fun b1 w1 g1 hb1 h1 => ?_
  refine do_alloc_of inf37 fun b3 w2 g2 hb3 h3 => ?_
  have n3 := h1.ne hb3
  have h1 := h1.gr g2
  have q3 := Nat.le_trans g1.size hb3
  rw [ldB_agg agg37 sz37 rfl h1]
  have g := gr_trans g1 g2
  refine isGrammar_c (gm := gm) ⟨Y, c, rfl, hc, hy.gr g⟩ fun w4 g4 => ?_
  have g := gr_trans g g4
  have h1 := h1.gr g4
  have h3 := h3.gr g4
  cases hg : goodG gm
  · simp only [Bool.not_false, go_sem, Nat.reduceEqDiff]
    rw [bd37 (cells := #[.int .i64 0, .int .i64 0, .slice none 0 0]) rfl]
    refine do_store sz37 rfl (by intro u hu; simp [Value.cells] at hu; rcases hu with rfl | rfl | rfl <;> rfl) h3 (by simp [Value.cells]) fun w5 g5 s5 h5 => ?_
    rw [rd_loadVar, ldB_agg agg37 sz37 rfl h5]
    have := hk zeroGram w5 (gr_put g g5 q3)
    simp only [starV, hg] at this
    exact this rfl
  simp only [Bool.not_true, go_sem, Nat.reduceEqDiff]
  refine bs22 [] (by decide) (by simp [Instr.fill, madeCells]) rfl fun b5 w5 hb5 hb5' g5 hbox5 hrow5 => ?_
  refine bs22 [.int .i64 1, .int .i64 0] (by decide) (by simp [Instr.fill, madeCells, Value.cells, rng2]) rfl fun b6 w6 hb6 hb6' g6 hbox6 hrow6 => ?_
  refine bs48 [.slice (some ⟨b5, 0, none⟩) 0 0, .slice (some ⟨b6, 0, none⟩) 2 2] (by decide) (by simp [Instr.fill, madeCells, Value.cells, rng2]) rfl fun b7 w7 hb7 hb7' g7 hbox7 hrow7 => ?_
  have h1 := h1.gr (gr_trans g5 (gr_trans g6 g7))
  rw [ldB_agg agg37 sz37 rfl h1]
  refine bs154 [.int .i64 gm.nons, .int .i64 gm.toks, .slice Y gm.rules.length c] (by decide) (by simp [Instr.fill, madeCells, Value.cells, rng3]) rfl fun b8 w8 hb8 hb8' g8 hbox8 hrow8 => ?_
  have g58 := gr_trans g5 (gr_trans g6 (gr_trans g7 g8))
  have g0 := gr_trans g g58
  have i5 : Ints w8 (some ⟨b5, 0, none⟩) [] := (Own.ints (show Own 3 w5 w4.heap.size (some ⟨b5, 0, none⟩) 0 [] from hrow5 _ (Nat.le_refl _))).gr (gr_trans g6 (gr_trans g7 g8))
  have i6 : Ints w8 (some ⟨b6, 0, none⟩) [1, 0] := (Own.ints (show Own 3 w6 w5.heap.size (some ⟨b6, 0, none⟩) 2 [1, 0] from hrow6 _ (Nat.le_refl _))).gr (gr_trans g7 g8)
  have hrs : Intss w8 (some ⟨b7, 0, none⟩) [[], [1, 0]] := by
    refine ⟨by simp, fun _ => rfl, fun j hj => ?_⟩
    match j, hj with
    | 0, _ => exact ⟨_, 0, (hbox7.gr g8).cell 0, Nat.le_refl _, i5⟩
    | 1, _ => exact ⟨_, 2, (hbox7.gr g8).cell 1, Nat.le_refl _, i6⟩
  have hgs : GramsF (fun _ => True) w8 (some ⟨b8, 0, none⟩) [gm] := by
    refine ⟨by simp, fun _ => rfl, fun _ => trivial, fun j hj => ?_⟩
    obtain rfl : j = 0 := by simpa using hj
    exact ⟨Y, c, hbox8.cell 0, hbox8.cell 1, hbox8.cell 2, hc, (hy.gr g0).mono fun _ _ => trivial⟩
  refine beside_c (rl := [[], [1, 0]]) (gs := [gm]) hrs (by simp) (fun j hj => by
    match j, hj with
    | 0, _ => simp [rgt]
    | 1, _ => simp [rgt]) hgs (by simp) (by simp) (fun j hj => by
    obtain rfl : j = 0 := by simpa using hj
    exact hg) fun v w9 g9 hres => ?_
  have he : madeV (firsts [[], [1, 0]]) (nextN [gm] [gm].length) (gmn [gm] 0).toks [gm] = starV gm := by
    unfold starV
    rw [if_pos hg]
    rfl
  rw [he] at hres ⊢
  have h38 := h3.gr (gr_trans g58 g9)
  obtain ⟨x, y, z, rfl, hx1, hy1, hz1⟩ := hres.three
  simp only [go_sem, Nat.reduceEqDiff]
  refine do_store sz37 rfl (by intro u hu; simp [Value.cells] at hu; rcases hu with rfl | rfl | rfl <;> assumption) h38 (by simp [Value.cells]) fun w10 g10 s10 h10 => ?_
  rw [rd_loadVar, ldB_agg agg37 sz37 rfl h10]
  refine hk _ w10 (gr_put (gr_trans g0 g9) g10 q3) ?_
  have := hres.put h38 (by decide) (by decide) g10
  cases hs : starV gm with
  | none => rw [hs] at this; exact this
  | some m =>
    rw [hs] at this
    exact GramO.mono this g0.size
end Go.Proofs.Ytiohaeckagjebaa

/- Bm: bodies of functions as terms of the frame calculus, printed by shgen.py of this repository. -/
set_option linter.unusedVariables false
set_option maxRecDepth 100000
namespace Go.Proofs.Ytiohaeckagjebaa
open Go Go.Sh

/-! loop.example/g00758/spec.l20Two -/
def pl90 : Plans := fun _ => ⟨false, [], .nil⟩
def S90 (v0 v1 : Value) (k : Value → World → Prop) (w : World) : Prop :=
 Do Try.prog (sBox 37 v0) (fun t1 w2 =>
 Do Try.prog (sBox 37 v1) (fun t3 w4 =>
 Rd Try.prog (WS.at w4) (sLoad 37 t1) fun t5 =>
 CallK Try.prog 81 [t5] (fun t6 w7 =>
 GuardK t6 true (fun k w' => Rd Try.prog (WS.at w7) (sLoad 37 t3) fun v => k v w') (fun t8 w9 =>
 GuardK t6 true (fun k w' => CallK Try.prog 81 [t8] k w') (fun t10 w11 =>
 Rd Try.prog (WS.at w11) (sPick t6 t10 (.bool false)) fun t12 =>
 GuardK t12 true (fun k w' => Rd Try.prog (WS.at w11) (sFieldAddr 37 t1 1) fun v => k v w') (fun t13 w14 =>
 GuardK t12 true (fun k w' => Rd Try.prog (WS.at w14) (sLoad 3 t13) fun v => k v w') (fun t15 w16 =>
 GuardK t12 true (fun k w' => Rd Try.prog (WS.at w16) (sFieldAddr 37 t3 1) fun v => k v w') (fun t17 w18 =>
 GuardK t12 true (fun k w' => Rd Try.prog (WS.at w18) (sLoad 3 t17) fun v => k v w') (fun t19 w20 =>
 GuardK t12 true (fun k w' => Rd Try.prog (WS.at w20) (sBin .eql 3 false t15 t19) fun v => k v w') (fun t21 w22 =>
 Rd Try.prog (WS.at w22) (sPick t12 t21 (.bool false)) fun t23 =>
 k t23 w22) w20) w18) w16) w14) w11) w9) w7) w4) w2) w
theorem body90 : Try.f90.body = some (bodyOf Try.f90) := by kernel_rfl
theorem same90 (v0 v1 : Value) (k : Value → World → Prop) (w : World) : wpF Try.prog pl90 (bodyOf Try.f90) (bodyQ Try.prog Try.f90.results.toList k) (initF [v0, v1]) w = S90 v0 v1 k w := by kernel_rfl
theorem enter90 {v0 v1 : Value} {k : Value → World → Prop} {w : World} (h : S90 v0 v1 k w) : CallK Try.prog 90 [v0, v1] k w :=
  call_of_wpF (pl := pl90) mixed Try.func90 body90 (by kernel_rfl) (of_decide_eq_true (by kernel_rfl)) (by kernel_rfl) (by kernel_rfl) (same90 v0 v1 k w ▸ h)

end Go.Proofs.Ytiohaeckagjebaa

/- Contract: whether two grammars may be set beside each other (the reference's l20Two). -/
set_option linter.unusedVariables false
set_option linter.unusedSimpArgs false
set_option maxRecDepth 100000
namespace Go.Sh
open Go
def twoB (a b : Gram) : Bool := goodG a && goodG b && decide (a.toks = b.toks)
def joinFirst (a : Gram) : List RuleL := [(0, [1, IntKind.i64.wrap (1 + a.nons)])]
def unionFirst (a : Gram) : List RuleL := [(0, [1]), (0, [IntKind.i64.wrap (1 + a.nons)])]
def joinV (a b : Gram) : Option Gram := if twoB a b = true then madeV (joinFirst a) (IntKind.i64.wrap (IntKind.i64.wrap (1 + a.nons) + b.nons)) a.toks [a, b] else none
def unionV (a b : Gram) : Option Gram := if twoB a b = true then madeV (unionFirst a) (IntKind.i64.wrap (IntKind.i64.wrap (1 + a.nons) + b.nons)) a.toks [a, b] else none
end Go.Sh
namespace Go.Proofs.Ytiohaeckagjebaa
open Go Go.Sh Go.RowKit

theorem l20Two_c {F E : Nat → Prop} {w : World} {v u : Value} {a b : Gram} (hv : GramV F w v a) (hu : GramV E w u b) {k : Value → World → Prop} (hk : ∀ w', Gr w w' → k (.bool (twoB a b)) w') :
    CallK Try.prog 90 [v, u] k w := by
  obtain ⟨Y, c, rfl, hc, hy⟩ := hv
  obtain ⟨Z, d, rfl, hd, hz⟩ := hu
  refine enter90 ?_
  unfold S90
  refine do_box fun b1 w1 g1 hb1 h1 => ?_
  refine do_box fun b2 w2 g2 hb2 h2 => ?_
  have h1 := h1.gr g2
  have g := gr_trans g1 g2
  rw [ldB_agg agg37 sz37 rfl h1]
  refine goodGrammar_c (gm := a) ⟨Y, c, rfl, hc, hy.gr g⟩ fun w3 g3 => ?_
  have g := gr_trans g g3
  cases ha : goodG a
  · simp only [go_sem, Nat.reduceEqDiff]
    have := hk _ g
    rwa [show twoB a b = false from by simp [twoB, ha]] at this
  simp only [go_sem, Nat.reduceEqDiff]
  rw [ldB_agg agg37 sz37 rfl (h2.gr g3)]
  refine goodGrammar_c (gm := b) ⟨Z, d, rfl, hd, hz.gr g⟩ fun w4 g4 => ?_
  have g := gr_trans g g4
  cases hb : goodG b
  · simp only [go_sem, Nat.reduceEqDiff]
    have := hk _ g
    rwa [show twoB a b = false from by simp [twoB, hb]] at this
  simp only [go_sem, Nat.reduceEqDiff]
  rw [ldB3 (h1.gr (gr_trans g3 g4)) rfl]
  rw [ldB3 (h2.gr (gr_trans g3 g4)) rfl]
  simp only [go_sem, Nat.reduceEqDiff]
  have := hk _ g
  rwa [show twoB a b = decide (a.toks = b.toks) from by simp [twoB, ha, hb]] at this
end Go.Proofs.Ytiohaeckagjebaa

/- Contracts: words in order, the first unlike word of two lists (the reference), equal lists (the program's library). -/
set_option linter.unusedVariables false
set_option linter.unusedSimpArgs false
set_option maxRecDepth 100000
namespace Go.Sh
open Go
def lexLess : List Int → List Int → Bool
  | x :: xs, y :: ys => if x ≠ y then decide (x < y) else lexLess xs ys
  | _, _ => false
def lessW (a b : List Int) : Bool := if a.length ≠ b.length then decide (a.length < b.length) else lexLess a b
def unlikeL : List (List Int) → List (List Int) → Option (List Int)
  | [], [] => none
  | x :: _, [] => some x
  | [], y :: _ => some y
  | x :: xs, y :: ys => if lessW x y = true then some x else if lessW y x = true then some y else unlikeL xs ys
def unlikeR (ls bs : List (List Int)) : List Int × Bool := match unlikeL ls bs with
  | some x => (x, true)
  | none => ([], false)
theorem lexLess_nil (b : List Int) : lexLess [] b = false := by cases b <;> rfl
theorem lexLess_drop {a b : List Int} {i : Nat} (hi : i < a.length) (hj : i < b.length) : lexLess (a.drop i) (b.drop i) = if a.getD i 0 ≠ b.getD i 0 then decide (a.getD i 0 < b.getD i 0) else lexLess (a.drop (i + 1)) (b.drop (i + 1)) := by
  rw [List.drop_eq_getElem_cons hi, List.drop_eq_getElem_cons hj, lexLess]
  simp [List.getD_eq_getElem?_getD, hi, hj]
theorem lex_eq : ∀ {a b : List Int}, a.length = b.length → lexLess a b = false → lexLess b a = false → a = b := by
  intro a
  induction a with
  | nil =>
    intro b h _ _
    cases b with
    | nil => rfl
    | cons y b => simp at h
  | cons x a ih =>
    intro b h h1 h2
    cases b with
    | nil => simp at h
    | cons y b =>
      unfold lexLess at h1 h2
      by_cases e : x = y
      · subst e
        rw [if_neg (fun h => h rfl)] at h1 h2
        rw [ih (by simpa using h) h1 h2]
      · rw [if_pos e] at h1
        rw [if_pos (fun e' => e e'.symm)] at h2
        simp only [decide_eq_false_iff_not] at h1 h2
        omega
theorem lexLess_self : ∀ a : List Int, lexLess a a = false := by
  intro a
  induction a with
  | nil => rfl
  | cons x a ih => rw [lexLess, if_neg (fun h => h rfl), ih]
theorem lessW_self (a : List Int) : lessW a a = false := by rw [lessW, if_neg (fun h => h rfl), lexLess_self]
theorem lessW_eq {a b : List Int} (h1 : lessW a b = false) (h2 : lessW b a = false) : a = b := by
  unfold lessW at h1 h2
  by_cases e : a.length = b.length
  · rw [if_neg (fun h => h e)] at h1
    rw [if_neg (fun h => h e.symm)] at h2
    exact lex_eq e h1 h2
  · rw [if_pos e] at h1
    rw [if_pos (fun h => e h.symm)] at h2
    simp only [decide_eq_false_iff_not] at h1 h2
    omega
theorem unlike_same : ∀ ls bs : List (List Int), (unlikeL ls bs).isSome = !decide (ls = bs) := by
  intro ls
  induction ls with
  | nil =>
    intro bs
    cases bs <;> simp [unlikeL]
  | cons x ls ih =>
    intro bs
    cases bs with
    | nil => simp [unlikeL]
    | cons y bs =>
      rw [unlikeL]
      cases h1 : lessW x y
      · cases h2 : lessW y x
        · rw [if_neg Bool.false_ne_true, if_neg Bool.false_ne_true, ih, lessW_eq h1 h2]
          simp
        · rw [if_neg Bool.false_ne_true, if_pos rfl]
          have : x ≠ y := fun e => by rw [e, lessW_self] at h2; cases h2
          simp [this]
      · rw [if_pos rfl]
        have : x ≠ y := fun e => by rw [e, lessW_self] at h1; cases h1
        simp [this]
theorem unlikeR_same (ls bs : List (List Int)) : (unlikeR ls bs).2 = !decide (ls = bs) := by
  rw [← unlike_same]
  unfold unlikeR
  cases unlikeL ls bs <;> rfl
theorem drop_rgt {ls : List (List Int)} {i : Nat} (h : i < ls.length) : ls.drop i = rgt ls i :: ls.drop (i + 1) := by
  rw [List.drop_eq_getElem_cons h, rgt_eq h]
theorem unlikeR_of {ls bs : List (List Int)} {x : List Int} (h : unlikeL ls bs = some x) : unlikeR ls bs = (x, true) := by rw [unlikeR, h]
theorem unlikeR_no {ls bs : List (List Int)} (h : unlikeL ls bs = none) : unlikeR ls bs = ([], false) := by rw [unlikeR, h]
end Go.Sh
namespace Go.Proofs.Ytiohaeckagjebaa
open Go Go.Sh Go.RowKit
theorem l5Less_c {w : World} {X Y : Option Addr} {c d : Nat} {a b : List Int} (hX : Ints w X a) (hY : Ints w Y b) (hl : a.length = b.length) {k : Value → World → Prop} (hk : ∀ w', Gr w w' → k (.bool (lexLess a b)) w') :
    CallK Try.prog 183 [.slice X a.length c, .slice Y b.length d] k w := by
  refine enter183 ?_
  unfold S183
  simp only [go_sem, Nat.reduceEqDiff]
  have hle := hX.le
  refine loop_to a.length 0 (fun i f w' => i ≤ a.length ∧ f 8 = .int .i64 i ∧ Gr w w' ∧ lexLess a b = lexLess (a.drop i) (b.drop i)) ⟨Nat.zero_le _, rfl, Gr.refl _, by simp⟩ ?_
  rintro i f w1 N hag ⟨hi, h8, g, hE⟩ hN
  have f0 : f 0 = .slice X a.length c := hag 0 (by decide)
  have f1 : f 1 = .slice Y b.length d := hag 1 (by decide)
  have f7 : f 7 = .int .i64 a.length := hag 7 (by decide)
  simp only [f0, f1, f7, h8, go_sem, Nat.reduceEqDiff]
  by_cases hlt : i < a.length
  case neg =>
    simp only [show ¬ ((i : Int) < a.length) from by omega, decide_false, go_sem, Nat.reduceEqDiff]
    rw [List.drop_of_length_le (by omega), lexLess_nil] at hE
    rw [hE] at hk
    exact hk _ g
  simp only [show ((i : Int) < a.length) from by omega, decide_true, go_sem, Nat.reduceEqDiff]
  have hj : i < b.length := by omega
  have g1 := gr_trans g (gr_drew _)
  have g2 := gr_trans g1 (gr_drew _)
  refine rdi (ixn22 hX.ptr hlt) (rdi (ld3 ((hX.gr g1).cell i hlt)) (rdi (ixn22 hY.ptr hj) (rdi (ld3 ((hY.gr g1).cell i hj)) ?_)))
  simp only [go_sem, Nat.reduceEqDiff]
  rw [lexLess_drop hlt hj] at hE
  by_cases e : a.getD i 0 = b.getD i 0
  · simp only [e, decide_true, Bool.not_true, go_sem, Nat.reduceEqDiff]
    rw [i64_of (by omega) (by omega)]
    rw [if_neg (fun h => h e)] at hE
    exact hN _ _ hlt ⟨by omega, rfl, g1, hE⟩
  · simp only [e, decide_false, Bool.not_false, go_sem, Nat.reduceEqDiff]
    refine rdi (ixn22 hX.ptr hlt) (rdi (ld3 ((hX.gr g2).cell i hlt)) (rdi (ixn22 hY.ptr hj) (rdi (ld3 ((hY.gr g2).cell i hj)) ?_)))
    simp only [go_sem, Nat.reduceEqDiff]
    rw [if_pos e] at hE
    rw [hE] at hk
    exact hk _ g2
theorem l20Less_c {w : World} {X Y : Option Addr} {c d : Nat} {a b : List Int} (hX : Ints w X a) (hY : Ints w Y b) {k : Value → World → Prop} (hk : ∀ w', Gr w w' → k (.bool (lessW a b)) w') :
    CallK Try.prog 151 [.slice X a.length c, .slice Y b.length d] k w := by
  refine enter151 ?_
  unfold S151
  simp only [go_sem, Nat.reduceEqDiff]
  unfold lessW at hk
  by_cases e : a.length = b.length
  · simp only [show ((a.length : Int) = b.length) from by omega, decide_true, Bool.not_true, go_sem, Nat.reduceEqDiff]
    rw [if_neg (fun h => h e)] at hk
    refine l5Less_c hX hY e fun w1 g1 => ?_
    exact hk _ g1
  · simp only [show ¬ ((a.length : Int) = b.length) from by omega, decide_false, Bool.not_false, go_sem, Nat.reduceEqDiff]
    rw [if_pos e] at hk
    have := hk _ (Gr.refl _)
    rwa [show decide (a.length < b.length) = decide ((a.length : Int) < b.length) from by simp] at this
theorem l20Unlike_c {w : World} {U V : Option Addr} {d e : Nat} {ls bs : List (List Int)} (hA : Intss w U ls) (hB : Intss w V bs) (ha : ∀ x ∈ ls, x.length ≤ 1000) (hb : ∀ x ∈ bs, x.length ≤ 1000) {k : Value → World → Prop}
    (hk : ∀ w' X c, Gr w w' → Own 3 w' w.heap.size X c (unlikeR ls bs).1 → k (.tuple #[.slice X (unlikeR ls bs).1.length c, .bool (unlikeR ls bs).2]) w') :
    CallK Try.prog 107 [.slice U ls.length d, .slice V bs.length e] k w := by
  refine enter107 ?_
  unfold S107
  have hle := hA.le
  have hle2 := hB.le
  refine loop_to ls.length 0 (fun n f w' => n ≤ ls.length ∧ n ≤ bs.length ∧ f 6 = .int .i64 n ∧ f 7 = .int .i64 n ∧ Gr w w' ∧ unlikeL ls bs = unlikeL (ls.drop n) (bs.drop n)) ⟨Nat.zero_le _, Nat.zero_le _, rfl, rfl, Gr.refl _, by simp⟩ ?_
  rintro n f w1 N hag ⟨hn, hn2, h6, h7, g, hE⟩ hN
  have f0 : f 0 = .slice U ls.length d := hag 0 (by decide)
  have f1 : f 1 = .slice V bs.length e := hag 1 (by decide)
  simp only [f0, f1, h6, h7, go_sem, Nat.reduceEqDiff]
  by_cases h1 : n < ls.length
  · simp only [show ((n : Int) < ls.length) from by omega, decide_true, go_sem, Nat.reduceEqDiff]
    obtain ⟨XA, cA, cellA, leA, intA⟩ := (hA.gr g).row n h1
    have lA := ha _ (rgt_mem h1)
    by_cases h2 : n = bs.length
    · subst h2
      simp only [decide_true, go_sem, Nat.reduceEqDiff]
      rw [drop_rgt h1, show bs.drop bs.length = [] from List.drop_of_length_le (Nat.le_refl _), unlikeL] at hE
      rw [unlikeR_of hE] at hk
      have g1 := gr_trans g (gr_drew _)
      refine rdi (ixn48 hA.ptr h1) (rdi (ld22 ((gr_drew w1).cell cellA)) ?_)
      refine l1Own_c (intA.gr (gr_drew _)) rfl (by omega) fun X1 d1 w2 g2 o1 => ?_
      exact hk _ X1 d1 (gr_trans g1 g2) (Row.mono o1 g1.size)
    · simp only [show ¬ ((n : Int) = bs.length) from by omega, show ((n : Int) < ls.length) from by omega, show ¬ ((n : Int) = ls.length) from by omega, decide_true, decide_false, go_sem, Nat.reduceEqDiff]
      have h3 : n < bs.length := by omega
      rw [drop_rgt h1, drop_rgt h3, unlikeL] at hE
      have g1 := gr_trans g (gr_drew _)
      obtain ⟨XA, cA, cellA, leA, intA⟩ := (hA.gr g1).row n h1
      obtain ⟨XB, cB, cellB, leB, intB⟩ := (hB.gr g1).row n h3
      have lB := hb _ (rgt_mem h3)
      refine rdi (ixn48 hA.ptr h1) (rdi (ld22 cellA) (rdi (ixn48 hB.ptr h3) (rdi (ld22 cellB) ?_)))
      refine l20Less_c intA intB fun w2 g2 => ?_
      have G2 := gr_trans g1 g2
      cases hl : lessW (rgt ls n) (rgt bs n)
      · rw [hl, if_neg Bool.false_ne_true] at hE
        simp only [go_sem, Nat.reduceEqDiff]
        have G3 := gr_trans G2 (gr_drew _)
        have cellA := g2.cell cellA
        have cellB := g2.cell cellB
        have intA := intA.gr g2
        have intB := intB.gr g2
        refine rdi (ixn48 hB.ptr h3) (rdi (ld22 ((gr_drew w2).cell cellB)) (rdi (ixn48 hA.ptr h1) (rdi (ld22 ((gr_drew w2).cell cellA)) ?_)))
        refine l20Less_c (intB.gr (gr_drew _)) (intA.gr (gr_drew _)) fun w3 g3 => ?_
        have G4 := gr_trans G3 g3
        cases hl2 : lessW (rgt bs n) (rgt ls n)
        · simp only [go_sem, Nat.reduceEqDiff]
          rw [hl2, if_neg Bool.false_ne_true] at hE
          rw [i64_of (by omega) (by omega)]
          exact hN _ _ h1 ⟨by omega, by omega, rfl, rfl, G4, hE⟩
        · simp only [go_sem, Nat.reduceEqDiff]
          rw [hl2, if_pos rfl] at hE
          rw [unlikeR_of hE] at hk
          obtain ⟨XB, cB, cellB, leB, intB⟩ := (hB.gr G4).row n h3
          refine rdi (ixn48 hB.ptr h3) (rdi (ld22 cellB) ?_)
          refine l1Own_c intB rfl (by omega) fun X1 d1 w4 g4 o1 => ?_
          exact hk _ X1 d1 (gr_trans G4 g4) (Row.mono o1 G4.size)
      · rw [hl, if_pos rfl] at hE
        rw [unlikeR_of hE] at hk
        simp only [go_sem, Nat.reduceEqDiff]
        obtain ⟨XA, cA, cellA, leA, intA⟩ := (hA.gr G2).row n h1
        refine rdi (ixn48 hA.ptr h1) (rdi (ld22 cellA) ?_)
        refine l1Own_c intA rfl (by omega) fun X1 d1 w4 g4 o1 => ?_
        exact hk _ X1 d1 (gr_trans G2 g4) (Row.mono o1 G2.size)
  · simp only [show ¬ ((n : Int) < ls.length) from by omega, decide_false, go_sem, Nat.reduceEqDiff]
    obtain rfl : n = ls.length := by omega
    by_cases h2 : ls.length < bs.length
    · simp only [show ((ls.length : Int) < bs.length) from by omega, show ¬ ((ls.length : Int) = bs.length) from by omega, decide_true, decide_false, go_sem, Nat.reduceEqDiff]
      rw [show ls.drop ls.length = [] from List.drop_of_length_le (Nat.le_refl _), drop_rgt h2, unlikeL] at hE
      rw [unlikeR_of hE] at hk
      have lB := hb _ (rgt_mem h2)
      have g2 := gr_trans (gr_trans g (gr_drew _)) (gr_drew _)
      simp only [show ¬ ((ls.length : Int) < ls.length) from by omega, decide_true, decide_false, go_sem, Nat.reduceEqDiff]
      obtain ⟨XB, cB, cellB, leB, intB⟩ := (hB.gr g2).row _ h2
      refine rdi (ixn48 hB.ptr h2) (rdi (ld22 cellB) ?_)
      refine l1Own_c intB rfl (by omega) fun X1 d1 w4 g4 o1 => ?_
      exact hk _ X1 d1 (gr_trans g2 g4) (Row.mono o1 g2.size)
    · simp only [show ¬ ((ls.length : Int) < bs.length) from by omega, decide_false, go_sem, Nat.reduceEqDiff]
      rw [show ls.drop ls.length = [] from List.drop_of_length_le (Nat.le_refl _), show bs.drop ls.length = [] from List.drop_of_length_le (by omega), unlikeL] at hE
      rw [unlikeR_no hE] at hk
      exact hk _ none 0 g (Row.nil _ _ _ _)
end Go.Proofs.Ytiohaeckagjebaa

/- Contract: how far two words lie apart, by the reference. -/
set_option linter.unusedVariables false
set_option linter.unusedSimpArgs false
set_option maxRecDepth 100000
namespace Go.Sh
open Go
def leastI (x y : Int) : Int := if x < y then x else y
def edCell (x y d u l : Int) : Int := leastI (if x = y then d else d + 1) (leastI u l + 1)
def edNext (x : Int) (b row : List Int) (h : Int) : Nat → List Int
  | 0 => [h]
  | j + 1 => edNext x b row h j ++ [edCell x (b.getD j 0) (row.getD j 0) (row.getD (j + 1) 0) ((edNext x b row h j).getD j 0)]
def ri (n : Nat) : List Int := (List.range n).map fun (t : Nat) => (t : Int)
def edRows (a b : List Int) : Nat → List Int
  | 0 => ri (b.length + 1)
  | i + 1 => edNext (a.getD i 0) b (edRows a b i) ((i : Int) + 1) b.length
def edist (a b : List Int) : Int := (edRows a b a.length).getD b.length 0
theorem ri_length (n : Nat) : (ri n).length = n := by simp [ri]
theorem ri_get {n i : Nat} (h : i < n) : (ri n).getD i 0 = i := by simp [ri, List.getD_eq_getElem?_getD, h]
theorem edNext_len (x : Int) (b row : List Int) (h : Int) : ∀ j, (edNext x b row h j).length = j + 1 := by
  intro j
  induction j with
  | zero => rfl
  | succ j ih => rw [edNext, List.length_append, ih]; rfl
theorem edRows_len (a b : List Int) (i : Nat) : (edRows a b i).length = b.length + 1 := by
  cases i with
  | zero => exact ri_length _
  | succ i => exact edNext_len _ _ _ _ _
theorem getD_snoc_lt {l : List Int} {x : Int} {j : Nat} (h : j < l.length) : (l ++ [x]).getD j 0 = l.getD j 0 := by
  simp [List.getD_eq_getElem?_getD, List.getElem?_append_left h]
theorem getD_snoc_eq {l : List Int} {x : Int} {j : Nat} (h : j = l.length) : (l ++ [x]).getD j 0 = x := by
  subst h
  simp [List.getD_eq_getElem?_getD]
theorem leastI_bd {x y B : Int} (hx : 0 ≤ x) (hy : 0 ≤ y) (hb : y ≤ B) : 0 ≤ leastI x y ∧ leastI x y ≤ B := by
  unfold leastI
  split <;> omega
theorem edNext_bd {x : Int} {b row : List Int} {i m : Nat} (hr : ∀ j, j ≤ m → 0 ≤ row.getD j 0 ∧ row.getD j 0 ≤ ((i + j : Nat) : Int)) : ∀ j, j ≤ m → ∀ t, t ≤ j → 0 ≤ (edNext x b row ((i : Int) + 1) j).getD t 0 ∧ (edNext x b row ((i : Int) + 1) j).getD t 0 ≤ ((i + 1 + t : Nat) : Int) := by
  intro j
  induction j with
  | zero =>
    intro _ t ht
    obtain rfl : t = 0 := by omega
    show 0 ≤ (i : Int) + 1 ∧ (i : Int) + 1 ≤ _
    omega
  | succ j ih =>
    intro hj t ht
    rw [edNext]
    by_cases h : t = j + 1
    · subst h
      rw [getD_snoc_eq (by rw [edNext_len])]
      have h1 := ih (by omega) j (Nat.le_refl _)
      have h2 := hr j (by omega)
      have h3 := hr (j + 1) hj
      unfold edCell
      have h4 := leastI_bd h3.1 h1.1 h1.2
      refine leastI_bd (by split <;> omega) (by omega) (by omega)
    · rw [getD_snoc_lt (by rw [edNext_len]; omega)]
      exact ih (by omega) t (by omega)
theorem edRows_bd (a b : List Int) : ∀ i j, j ≤ b.length → 0 ≤ (edRows a b i).getD j 0 ∧ (edRows a b i).getD j 0 ≤ ((i + j : Nat) : Int) := by
  intro i
  induction i with
  | zero =>
    intro j hj
    rw [edRows, ri_get (by omega)]
    omega
  | succ i ih =>
    intro j hj
    exact edNext_bd ih b.length (Nat.le_refl _) j hj
end Go.Sh
namespace Go.Proofs.Ytiohaeckagjebaa
open Go Go.Sh Go.RowKit
theorem l1Least_c {w : World} {x y : Int} {k : Value → World → Prop} (hk : k (.int .i64 (leastI x y)) w) : CallK Try.prog 161 [.int .i64 x, .int .i64 y] k w := by
  refine enter161 ?_
  unfold S161
  simp only [go_sem, Nat.reduceEqDiff]
  unfold leastI at hk
  by_cases h : x < y
  · simp only [h, decide_true, go_sem, Nat.reduceEqDiff]
    rwa [if_pos h] at hk
  · simp only [h, decide_false, go_sem, Nat.reduceEqDiff]
    rwa [if_neg h] at hk
theorem ixn22' {k : Value → Prop} {S : WS} {X : Option Addr} {n c i : Nat} {t : Int} (ht : t = (i : Nat)) (hA : 0 < n → X = some (ad X)) (h1 : i < n) : Rd Try.prog S (sIndexAddr 22 (.slice X n c) (.int .i64 t)) k = k (.pointer (some ((ad X).add i))) := by
  subst ht
  exact ixn22 hA h1
theorem l17Apart_c {w : World} {X Y : Option Addr} {c d : Nat} {a b : List Int} (hX : Ints w X a) (hY : Ints w Y b) (la : a.length ≤ 1000) (lb : b.length ≤ 1000) {k : Value → World → Prop} (hk : ∀ w', Gr w w' → k (.int .i64 (edist a b)) w') :
    CallK Try.prog 121 [.slice X a.length c, .slice Y b.length d] k w := by
  refine enter121 ?_
  unfold S121
  have H := Apt.nil w
  simp only [go_sem, Nat.reduceEqDiff]
  rw [i64_of (by omega) (by omega), show ((b.length : Int) + 1) = ((b.length + 1 : Nat) : Int) from by omega]
  refine makeH H u22 inf3 (by omega) (by omega) fun b2 w1 H => ?_
  rw [zeros_ints] at H
  simp only [List.nil_append] at H
  simp only [go_sem, Nat.reduceEqDiff]
  refine loop_to (b.length + 1) 0 (fun i f w' => i ≤ b.length + 1 ∧ f 19 = .int .i64 i ∧ Apt w w' [rwi 3 1 (some ⟨b2, 0, none⟩) (b.length + 1) (b.length + 1) (Sh.ints ((ri (b.length + 1)).take i ++ (List.replicate (b.length + 1) (0 : Int)).drop i))])
    ⟨Nat.zero_le _, rfl, by simpa using H⟩ ?_
  rintro i f w2 N hag ⟨hi, h19, H⟩ hN
  have f5 : f 5 = .slice (some ⟨b2, 0, none⟩) (b.length + 1) (b.length + 1) := hag 5 (by decide)
  have f18 : f 18 = .int .i64 ((b.length + 1 : Nat) : Int) := hag 18 (by decide)
  have f0 : f 0 = .slice X a.length c := hag 0 (by decide)
  have f1 : f 1 = .slice Y b.length d := hag 1 (by decide)
  simp only [f5, f18, h19, f0, go_sem, Nat.reduceEqDiff]
  by_cases hlt : i < b.length + 1
  · simp only [show ((i : Int) < ((b.length + 1 : Nat) : Int)) from by omega, decide_true, go_sem, Nat.reduceEqDiff]
    refine rdi (ixn22 (X := some ⟨b2, 0, none⟩) (fun _ => rfl) hlt) ?_
    refine do_store_row sz3 rfl rfl (H.row 0 rfl) (by omega) fun w3 g hs hr => ?_
    rw [ints_set, show (i : Int) = (ri (b.length + 1)).getD i 0 from (ri_get hlt).symm, set_take_drop (by simpa using hlt) (by simp [ri_length])] at hr
    have H := H.set (it' := rwi 3 1 (some ⟨b2, 0, none⟩) (b.length + 1) (b.length + 1) (Sh.ints ((ri (b.length + 1)).take (i + 1) ++ (List.replicate (b.length + 1) (0 : Int)).drop (i + 1)))) (i := 0) rfl (gx_of g fun q hq => hq) (fun q hq => .inl hq) (fun q hq => (Row.ge hr hq).2) (rwi_kept hr)
    rw [i64_of (by omega) (by omega)]
    exact hN _ _ hlt ⟨by omega, rfl, H⟩
  simp only [show ¬ ((i : Int) < ((b.length + 1 : Nat) : Int)) from by omega, decide_false, go_sem, Nat.reduceEqDiff]
  rw [List.take_of_length_le (by rw [ri_length]; omega), List.drop_of_length_le (by simp; omega), List.append_nil] at H
  have H : Apt w w2 [ows (some ⟨b2, 0, none⟩) (b.length + 1) (edRows a b 0)] := by
    show Apt w w2 [rwi 3 1 (some ⟨b2, 0, none⟩) (ri (b.length + 1)).length (b.length + 1) (Sh.ints (ri (b.length + 1)))]
    rw [ri_length]
    exact H
  clear hN hag N hlt h19 hi
  refine loop_to a.length 0 (fun i f w' => i ≤ a.length ∧ f 29 = .int .i64 i ∧ ∃ (U : Option Addr) (e : Nat), f 5 = .slice U (b.length + 1) e ∧ Apt w w' [ows U e (edRows a b i)])
    ⟨Nat.zero_le _, rfl, _, _, f5, H⟩ ?_
  rintro i g w3 N hag ⟨hi, h29, U, e, h5, H⟩ hN
  have g1 : g 1 = .slice Y b.length d := (hag 1 (by decide)).trans f1
  have g27 : g 27 = .slice X a.length c := hag 27 (by decide)
  have g28 : g 28 = .int .i64 a.length := hag 28 (by decide)
  simp only [g1, g27, g28, h5, h29, go_sem, Nat.reduceEqDiff]
  have hL := edRows_len a b i
  by_cases hlt : i < a.length
  case neg =>
    simp only [show ¬ ((i : Int) < a.length) from by omega, decide_false, go_sem, Nat.reduceEqDiff]
    obtain rfl : i = a.length := by omega
    refine rdi (ixn22 (fun h => (H.ints 0 rfl).ptr (by omega)) (by omega)) ?_
    refine rdi (ld3 ((H.ints 0 rfl).cell _ (by omega))) ?_
    exact hk _ H.gr
  simp only [show ((i : Int) < a.length) from by omega, decide_true, go_sem, Nat.reduceEqDiff]
  refine rdi (ixn22 hX.ptr hlt) (rdi (ld3 ((hX.gr H.gr).cell i hlt)) ?_)
  rw [i64_of (by omega) (by omega)]
  refine buildH H u22 inf3 [.int .i64 ((i : Int) + 1)] (by decide) (by decide) (by simp [Instr.fill, madeCells, Value.cells, rng1]) rfl fun b3 w4 H => ?_
  simp only [List.nil_append, List.cons_append] at H
  have hbr := edRows_bd a b i
  have hnext : edRows a b (i + 1) = edNext (a.getD i 0) b (edRows a b i) ((i : Int) + 1) b.length := rfl
  generalize edRows a b i = row at *
  refine loop_to b.length 0 (fun j f w' => j ≤ b.length ∧ f 39 = .int .i64 j ∧ ∃ (V : Option Addr) (e' : Nat), f 9 = .slice V (j + 1) e' ∧ Apt w w' [ows U e row, ows V e' (edNext (a.getD i 0) b row ((i : Int) + 1) j)])
    ⟨Nat.zero_le _, rfl, _, _, rfl, H⟩ ?_
  rintro j r w5 N3 hag3 ⟨hj, h39, V, e', h9, H⟩ hN3
  have r1 : r 1 = .slice Y b.length d := (hag3 1 (by decide)).trans g1
  have r5 : r 5 = .slice U (b.length + 1) e := (hag3 5 (by decide)).trans h5
  have r8 : r 8 = .int .i64 (a.getD i 0) := hag3 8 (by decide)
  have r29 : r 29 = .int .i64 i := (hag3 29 (by decide)).trans h29
  have r37 : r 37 = .slice Y b.length d := hag3 37 (by decide)
  have r38 : r 38 = .int .i64 b.length := hag3 38 (by decide)
  simp only [r1, r5, r8, r29, r37, r38, h39, h9, go_sem, Nat.reduceEqDiff]
  by_cases hlt3 : j < b.length
  case neg =>
    simp only [show ¬ ((j : Int) < b.length) from by omega, decide_false, go_sem, Nat.reduceEqDiff]
    obtain rfl : j = b.length := by omega
    rw [i64_of (by omega) (by omega)]
    refine hN _ _ hlt ⟨by omega, rfl, V, e', rfl, ?_⟩
    rw [hnext]
    exact H.erase 0
  simp only [show ((j : Int) < b.length) from by omega, decide_true, go_sem, Nat.reduceEqDiff]
  have rowp : 0 < b.length + 1 → U = some (ad U) := fun _ => (H.ints 0 rfl).ptr (by omega)
  refine rdi (ixn22 hY.ptr hlt3) (rdi (ld3 ((hY.gr H.gr).cell j hlt3)) ?_)
  refine rdi (ixn22 rowp (by omega)) (rdi (ld3 ((H.ints 0 rfl).cell j (by omega))) ?_)
  simp only [go_sem, Nat.reduceEqDiff]
  have hb1 := hbr j (by omega)
  have hb2 := hbr (j + 1) (by omega)
  have hb3 := edNext_bd (x := a.getD i 0) (b := b) hbr j (by omega) j (Nat.le_refl _)
  by_cases hxy : a.getD i 0 = b.getD j 0
  · simp only [hxy, decide_true, Bool.not_true, go_sem, Nat.reduceEqDiff]
    rw [← hxy]
    have hLc : (edNext (a.getD i 0) b row ((i : Int) + 1) j).length = j + 1 := edNext_len _ _ _ _ _
    have H := H.drew
    rw [i64_of (by omega) (by omega)]
    refine rdi (ixn22' (i := j + 1) (by omega) rowp (by omega)) ?_
    refine rdi (ld3 ((H.ints 0 rfl).cell (j + 1) (by omega))) ?_
    refine rdi (ixn22 (fun h => (H.ints 1 rfl).ptr (by omega)) (by omega)) ?_
    refine rdi (ld3 ((H.ints 1 rfl).cell j (by omega))) ?_
    refine l1Least_c ?_
    simp only [go_sem, Nat.reduceEqDiff]
    have hb4 := leastI_bd hb2.1 hb3.1 hb3.2
    rw [i64_of (by omega) (by omega)]
    refine l1Least_c ?_
    refine pushH H 1 rfl (by omega) (by omega) fun t1 V1 e1 w8 H => ?_
    simp only [List.set_cons_zero, List.set_cons_succ] at H
    refine hN3 _ _ hlt3 ⟨by omega, rfl, V1, e1, ?_, ?_⟩
    · show Value.slice V1 _ e1 = _
      rw [List.length_append, hLc]
      rfl
    · rw [edNext, edCell, if_pos hxy]
      exact H
  · simp only [hxy, decide_false, Bool.not_false, go_sem, Nat.reduceEqDiff]
    rw [i64_of (n := row.getD j 0 + 1) (by omega) (by omega)]
    have hLc : (edNext (a.getD i 0) b row ((i : Int) + 1) j).length = j + 1 := edNext_len _ _ _ _ _
    have H := H.drew
    rw [i64_of (by omega) (by omega)]
    refine rdi (ixn22' (i := j + 1) (by omega) rowp (by omega)) ?_
    refine rdi (ld3 ((H.ints 0 rfl).cell (j + 1) (by omega))) ?_
    refine rdi (ixn22 (fun h => (H.ints 1 rfl).ptr (by omega)) (by omega)) ?_
    refine rdi (ld3 ((H.ints 1 rfl).cell j (by omega))) ?_
    refine l1Least_c ?_
    simp only [go_sem, Nat.reduceEqDiff]
    have hb4 := leastI_bd hb2.1 hb3.1 hb3.2
    rw [i64_of (by omega) (by omega)]
    refine l1Least_c ?_
    refine pushH H 1 rfl (by omega) (by omega) fun t1 V1 e1 w8 H => ?_
    simp only [List.set_cons_zero, List.set_cons_succ] at H
    refine hN3 _ _ hlt3 ⟨by omega, rfl, V1, e1, ?_, ?_⟩
    · show Value.slice V1 _ e1 = _
      rw [List.length_append, hLc]
      rfl
    · rw [edNext, edCell, if_neg hxy]
      exact H
end Go.Proofs.Ytiohaeckagjebaa

/- Contracts: how many words of each length, by the reference and by the program. -/
set_option linter.unusedVariables false
set_option linter.unusedSimpArgs false
set_option maxRecDepth 100000
namespace Go.Sh
open Go
def tallyS (acc w : List Int) : List Int := acc.set w.length (acc.getD w.length 0 + 1)
def tally (n : Nat) (ls : List (List Int)) : List Int := ls.foldl tallyS (List.replicate n 0)
theorem tally_snoc (n : Nat) (ls : List (List Int)) (l : List Int) : tally n (ls ++ [l]) = tallyS (tally n ls) l := by
  unfold tally
  rw [List.foldl_append]
  rfl
theorem tally_length (n : Nat) : ∀ (ls : List (List Int)) (acc : List Int), (ls.foldl tallyS acc).length = acc.length := by
  intro ls
  induction ls with
  | nil => intro acc; rfl
  | cons l ls ih =>
    intro acc
    rw [List.foldl_cons, ih]
    simp [tallyS]
theorem tally_bd : ∀ (ls : List (List Int)) (acc : List Int) (B : Nat), (∀ j, 0 ≤ acc.getD j 0 ∧ acc.getD j 0 ≤ B) → ∀ j, 0 ≤ (ls.foldl tallyS acc).getD j 0 ∧ (ls.foldl tallyS acc).getD j 0 ≤ ((B + ls.length : Nat) : Int) := by
  intro ls
  induction ls with
  | nil => intro acc B h j; exact h j
  | cons l ls ih =>
    intro acc B h j
    rw [List.foldl_cons]
    have := ih (tallyS acc l) (B + 1) (fun j => ?_) j
    · rw [List.length_cons, show B + (ls.length + 1) = B + 1 + ls.length from by omega]
      exact this
    · have h1 := h j
      have h2 := h l.length
      unfold tallyS
      rw [List.getD_eq_getElem?_getD, List.getElem?_set]
      split
      · split
        · simp only [Option.getD_some]
          omega
        · simp only [Option.getD_none]
          omega
      · rw [← List.getD_eq_getElem?_getD]
        omega
theorem tally_get (n : Nat) (ls : List (List Int)) (j : Nat) : 0 ≤ (tally n ls).getD j 0 ∧ (tally n ls).getD j 0 ≤ ls.length := by
  have := tally_bd ls (List.replicate n 0) 0 (fun j => by
    rw [List.getD_eq_getElem?_getD, List.getElem?_replicate]
    split <;> simp) j
  rw [Nat.zero_add] at this
  exact this
theorem tally_len (n : Nat) (ls : List (List Int)) : (tally n ls).length = n := by
  unfold tally
  rw [tally_length n]
  simp
noncomputable def countV (gm : Gram) (most : Int) : List Int × Bool := if (shortV gm most).2 = true then (tally (most.toNat + 1) (shortV gm most).1, true) else ([], false)
theorem countV_len (gm : Gram) (most : Int) : (countV gm most).1.length ≤ 1000000 := by
  unfold countV
  by_cases hh : (goodG gm && inB most 0 4) = true
  · rw [show shortV gm most = (shortW gm (most.toNat + 1), true) from if_pos hh, if_pos rfl]
    simp only [inB, Bool.and_eq_true, decide_eq_true_eq] at hh
    dsimp only
    rw [tally_len]
    omega
  · rw [show shortV gm most = ([], false) from if_neg hh]
    simp
end Go.Sh
namespace Go.Proofs.Ytiohaeckagjebaa
open Go Go.Sh Go.RowKit
theorem putH {k : Value → World → Prop} {w0 w : World} {L : List Thing} (H : Apt w0 w L) (i : Nat) {j c : Nat} {X : Option Addr} {xs : List Int} {x : Int} (hi : L[i]? = some (ows X c xs)) (hj : j < xs.length)
    (h : ∀ w', Apt w0 w' (L.set i (ows X c (xs.set j x))) → k undef w') : Do Try.prog (sStore 3 (.pointer (some ((ad X).add j))) (.int .i64 x)) k w := by
  refine do_store_row sz3 rfl rfl (H.row i hi) (by omega) fun w' g hs hr => ?_
  have hr' : Row w' w0.heap.size 3 1 X (xs.set j x).length c (ints (xs.set j x)) := by
    rw [List.length_set, show ints (xs.set j x) = (ints xs).set j (.int .i64 x) from by simp [ints]]
    exact hr
  exact h w' (H.set hi (gx_of g fun q hq => hq) (fun q hq => .inl hq) (fun q hq => (Row.ge hr' hq).2) (rwi_kept hr'))
theorem specCountByLong_c {F : Nat → Prop} {w : World} {v : Value} {gm : Gram} {most : Int} (hv : GramV F w v gm) {k : Value → World → Prop}
    (hk : ∀ w' U d, Gr w w' → Own 3 w' w.heap.size U d (countV gm most).1 → k (.tuple #[.slice U (countV gm most).1.length d, .bool (countV gm most).2]) w') :
    CallK Try.prog 53 [v, .int .i64 most] k w := by
  obtain ⟨Y, cy, rfl, hc, hy⟩ := hv
  refine enter53 ?_
  unfold S53
  have H := Apt.nil w
  refine boxH H fun b1 w1 H => ?_
  rw [ldB_agg agg37 sz37 rfl (H.box 0 rfl)]
  unfold countV at hk
  refine specShortWords_c (gm := gm) ⟨Y, cy, rfl, hc, hy.gr H.gr⟩ fun w2 U d ps g2 o2 => ?_
  have H := (H.addLss g2 o2).erase 0
  simp only [List.nil_append, List.cons_append, List.eraseIdx_cons_zero] at H
  simp only [go_sem, Nat.reduceEqDiff]
  cases hs : (shortV gm most).2
  · simp only [Bool.not_false, go_sem, Nat.reduceEqDiff]
    rw [hs, if_neg Bool.false_ne_true] at hk
    exact hk _ none 0 H.gr (Row.nil _ _ _ _)
  rw [hs, if_pos rfl] at hk
  dsimp only at hk
  simp only [Bool.not_true, go_sem, Nat.reduceEqDiff]
  have hm : (goodG gm && inB most 0 4) = true := by
    unfold shortV at hs
    split at hs
    · assumption
    · cases hs
  have hS : (shortV gm most).1 = shortW gm (most.toNat + 1) := by
    unfold shortV
    rw [if_pos hm]
  simp only [Bool.and_eq_true] at hm
  have htk := good_toks hm.1
  obtain ⟨most, rfl⟩ : ∃ m' : Nat, most = m' := by
    simp only [inB, Bool.and_eq_true, decide_eq_true_eq] at hm
    exact ⟨most.toNat, by omega⟩
  have hm4 : most ≤ 4 := by
    simp only [inB, Bool.and_eq_true, decide_eq_true_eq] at hm
    omega
  rw [Int.toNat_natCast] at hk hS
  clear o2
  rw [hS] at H hk ⊢
  have hsl := shortW_len (gm := gm) htk.2 (n := most + 1) (by omega)
  have hsm := fun x => @shortW_mem gm (most + 1) x
  generalize shortW gm (most + 1) = ls at *
  rw [i64_of (by omega) (by omega), show ((most : Int) + 1) = ((most + 1 : Nat) : Int) from by omega]
  refine makeH H u22 inf3 (by omega) (by omega) fun b2 w3 H => ?_
  rw [zeros_ints] at H
  simp only [List.nil_append, List.cons_append] at H
  refine loop_to ls.length 0 (fun i f w' => i ≤ ls.length ∧ f 24 = .int .i64 i ∧ Apt w w' [lss U d ls ps, ows (some ⟨b2, 0, none⟩) (most + 1) (tally (most + 1) (ls.take i))])
    ⟨Nat.zero_le _, rfl, by simpa [tally, ows] using H⟩ ?_
  rintro i f w4 N hag ⟨hi, h24, H⟩ hN
  have f22 : f 22 = .slice U ls.length d := hag 22 (by decide)
  have f23 : f 23 = .int .i64 ls.length := hag 23 (by decide)
  have f8 : f 8 = .slice (some ⟨b2, 0, none⟩) (most + 1) (most + 1) := hag 8 (by decide)
  simp only [f22, f23, f8, h24, go_sem, Nat.reduceEqDiff]
  by_cases hlt : i < ls.length
  case neg =>
    simp only [show ¬ ((i : Int) < ls.length) from by omega, decide_false, go_sem, Nat.reduceEqDiff]
    rw [List.take_of_length_le (by omega)] at H
    have := hk _ _ _ H.gr (H.own 1 rfl)
    rw [tally_len] at this
    exact this
  simp only [show ((i : Int) < ls.length) from by omega, decide_true, go_sem, Nat.reduceEqDiff]
  have o := H.lssi 0 rfl
  have hx := hsm _ (rgt_mem hlt)
  have hT := H.own 1 rfl
  have hln := tally_len (most + 1) (ls.take i)
  have hgt := tally_get (most + 1) (ls.take i) (rgt ls i).length
  rw [List.length_take] at hgt
  refine rdi (ixn48 (fun h => o.ptr h) hlt) ?_
  refine rdi (ld22 (o.cell hlt)) ?_
  refine rdi len22 ?_
  refine rdi (ixn22 (X := some ⟨b2, 0, none⟩) (fun _ => rfl) (by omega)) ?_
  refine rdi (ld3 ((Own.ints hT).cell _ (by omega))) ?_
  simp only [go_sem, Nat.reduceEqDiff]
  rw [i64_of (by omega) (by omega)]
  refine rdi (ixn22 (X := some ⟨b2, 0, none⟩) (fun _ => rfl) (by omega)) ?_
  refine putH H 1 rfl (by omega) fun w5 H => ?_
  simp only [List.set_cons_zero, List.set_cons_succ] at H
  rw [i64_of (by omega) (by omega)]
  refine hN _ _ hlt ⟨by omega, rfl, ?_⟩
  rw [take_snoc_rgt hlt, tally_snoc]
  exact H
theorem implCountByLong_c {F : Nat → Prop} {w : World} {v : Value} {gm : Gram} {most : Int} (hv : GramV F w v gm) {k : Value → World → Prop}
    (hk : ∀ w' U d, Gr w w' → Own 3 w' w.heap.size U d (countV gm most).1 → k (.tuple #[.slice U (countV gm most).1.length d, .bool (countV gm most).2]) w') :
    CallK Try.prog 54 [v, .int .i64 most] k w := by
  obtain ⟨Y, cy, rfl, hc, hy⟩ := hv
  refine enter54 ?_
  unfold S54
  have H := Apt.nil w
  refine boxH H fun b1 w1 H => ?_
  rw [ldB_agg agg37 sz37 rfl (H.box 0 rfl)]
  unfold countV at hk
  refine implShortWords_c (gm := gm) ⟨Y, cy, rfl, hc, hy.gr H.gr⟩ fun w2 U d ps g2 o2 => ?_
  have H := (H.addLss g2 o2).erase 0
  simp only [List.nil_append, List.cons_append, List.eraseIdx_cons_zero] at H
  simp only [go_sem, Nat.reduceEqDiff]
  cases hs : (shortV gm most).2
  · simp only [Bool.not_false, go_sem, Nat.reduceEqDiff]
    rw [hs, if_neg Bool.false_ne_true] at hk
    exact hk _ none 0 H.gr (Row.nil _ _ _ _)
  rw [hs, if_pos rfl] at hk
  dsimp only at hk
  simp only [Bool.not_true, go_sem, Nat.reduceEqDiff]
  have hm : (goodG gm && inB most 0 4) = true := by
    unfold shortV at hs
    split at hs
    · assumption
    · cases hs
  have hS : (shortV gm most).1 = shortW gm (most.toNat + 1) := by
    unfold shortV
    rw [if_pos hm]
  simp only [Bool.and_eq_true] at hm
  have htk := good_toks hm.1
  obtain ⟨most, rfl⟩ : ∃ m' : Nat, most = m' := by
    simp only [inB, Bool.and_eq_true, decide_eq_true_eq] at hm
    exact ⟨most.toNat, by omega⟩
  have hm4 : most ≤ 4 := by
    simp only [inB, Bool.and_eq_true, decide_eq_true_eq] at hm
    omega
  rw [Int.toNat_natCast] at hk hS
  clear o2
  rw [hS] at H hk ⊢
  have hsl := shortW_len (gm := gm) htk.2 (n := most + 1) (by omega)
  have hsm := fun x => @shortW_mem gm (most + 1) x
  generalize shortW gm (most + 1) = ls at *
  rw [i64_of (by omega) (by omega), show ((most : Int) + 1) = ((most + 1 : Nat) : Int) from by omega]
  refine makeH H u22 inf3 (by omega) (by omega) fun b2 w3 H => ?_
  rw [zeros_ints] at H
  simp only [List.nil_append, List.cons_append] at H
  refine loop_to ls.length 0 (fun i f w' => i ≤ ls.length ∧ f 24 = .int .i64 i ∧ Apt w w' [lss U d ls ps, ows (some ⟨b2, 0, none⟩) (most + 1) (tally (most + 1) (ls.take i))])
    ⟨Nat.zero_le _, rfl, by simpa [tally, ows] using H⟩ ?_
  rintro i f w4 N hag ⟨hi, h24, H⟩ hN
  have f22 : f 22 = .slice U ls.length d := hag 22 (by decide)
  have f23 : f 23 = .int .i64 ls.length := hag 23 (by decide)
  have f8 : f 8 = .slice (some ⟨b2, 0, none⟩) (most + 1) (most + 1) := hag 8 (by decide)
  simp only [f22, f23, f8, h24, go_sem, Nat.reduceEqDiff]
  by_cases hlt : i < ls.length
  case neg =>
    simp only [show ¬ ((i : Int) < ls.length) from by omega, decide_false, go_sem, Nat.reduceEqDiff]
    rw [List.take_of_length_le (by omega)] at H
    have := hk _ _ _ H.gr (H.own 1 rfl)
    rw [tally_len] at this
    exact this
  simp only [show ((i : Int) < ls.length) from by omega, decide_true, go_sem, Nat.reduceEqDiff]
  have o := H.lssi 0 rfl
  have hx := hsm _ (rgt_mem hlt)
  have hT := H.own 1 rfl
  have hln := tally_len (most + 1) (ls.take i)
  have hgt := tally_get (most + 1) (ls.take i) (rgt ls i).length
  rw [List.length_take] at hgt
  refine rdi (ixn48 (fun h => o.ptr h) hlt) ?_
  refine rdi (ld22 (o.cell hlt)) ?_
  refine rdi len22 ?_
  refine rdi (ixn22 (X := some ⟨b2, 0, none⟩) (fun _ => rfl) (by omega)) ?_
  refine rdi (ld3 ((Own.ints hT).cell _ (by omega))) ?_
  simp only [go_sem, Nat.reduceEqDiff]
  rw [i64_of (by omega) (by omega)]
  refine rdi (ixn22 (X := some ⟨b2, 0, none⟩) (fun _ => rfl) (by omega)) ?_
  refine putH H 1 rfl (by omega) fun w5 H => ?_
  simp only [List.set_cons_zero, List.set_cons_succ] at H
  rw [i64_of (by omega) (by omega)]
  refine hN _ _ hlt ⟨by omega, rfl, ?_⟩
  rw [take_snoc_rgt hlt, tally_snoc]
  exact H
end Go.Proofs.Ytiohaeckagjebaa

/- Contract: how far two words lie apart, by the program. -/
set_option linter.unusedVariables false
set_option linter.unusedSimpArgs false
set_option maxRecDepth 100000
namespace Go.Sh
open Go
variable {P : Program} {S : WS} {k : Value → Prop}
theorem min_int3 {kd : IntKind} {x y z : Int} {ts : Array TypeId} {t : TypeId} {cs : List Bool} : Rd P S (sBuiltin .min ts t cs [.int kd x, .int kd y, .int kd z]) k = k (.int kd (if z < (if y < x then y else x) then z else (if y < x then y else x))) := rd_eq fun w _ => by
  simp [sBuiltin, builtin, Builtin.min_, Builtin.min2]
theorem ri_succ (n : Nat) : ri (n + 1) = ri n ++ [(n : Int)] := by
  unfold ri
  rw [List.range_succ, List.map_append]
  rfl
/-- The row while it is turned into the next. -/
def edCur (x : Int) (b row : List Int) (h : Int) (j : Nat) : List Int := edNext x b row h j ++ row.drop (j + 1)
theorem edCur_len {x : Int} {b row : List Int} {h : Int} {j : Nat} (hj : j < row.length) : (edCur x b row h j).length = row.length := by
  unfold edCur
  rw [List.length_append, edNext_len, List.length_drop]
  omega
theorem edCur_up {x : Int} {b row : List Int} {h : Int} {j : Nat} (hj : j + 1 < row.length) : (edCur x b row h j).getD (j + 1) 0 = row.getD (j + 1) 0 := by
  unfold edCur
  rw [List.getD_eq_getElem?_getD, List.getElem?_append_right (by rw [edNext_len]; omega), edNext_len, List.getElem?_drop, List.getD_eq_getElem?_getD]
  congr 2
  omega
theorem edCur_left {x : Int} {b row : List Int} {h : Int} {j : Nat} : (edCur x b row h j).getD j 0 = (edNext x b row h j).getD j 0 := by
  unfold edCur
  rw [List.getD_eq_getElem?_getD, List.getElem?_append_left (by rw [edNext_len]; omega), List.getD_eq_getElem?_getD]
theorem edCur_set {x : Int} {b row : List Int} {h : Int} {j : Nat} (hj : j + 1 < row.length) {v : Int} (hv : v = edCell x (b.getD j 0) (row.getD j 0) (row.getD (j + 1) 0) ((edNext x b row h j).getD j 0)) : (edCur x b row h j).set (j + 1) v = edCur x b row h (j + 1) := by
  unfold edCur
  rw [List.set_append_right _ _ (by rw [edNext_len]; omega), edNext_len, Nat.sub_self, List.drop_eq_getElem_cons hj, List.set_cons_zero, edNext, ← hv, List.append_assoc]
  rfl
theorem edCur_zero {x : Int} {b row : List Int} {h : Int} (hr : 0 < row.length) : row.set 0 h = edCur x b row h 0 := by
  cases row with
  | nil => simp at hr
  | cons y row => rfl
theorem edCur_end {x : Int} {b row : List Int} {h : Int} {j : Nat} (hj : row.length = j + 1) : edCur x b row h j = edNext x b row h j := by
  unfold edCur
  rw [List.drop_of_length_le (by omega), List.append_nil]
theorem min3_cell {c u l : Int} : (if u + 1 < (if l + 1 < c then l + 1 else c) then u + 1 else (if l + 1 < c then l + 1 else c)) = leastI c (leastI u l + 1) := by
  unfold leastI
  split <;> split <;> split <;> split <;> omega
end Go.Sh
namespace Go.Proofs.Ytiohaeckagjebaa
open Go Go.Sh Go.RowKit
theorem apart_c {w : World} {X Y : Option Addr} {c d : Nat} {a b : List Int} (hX : Ints w X a) (hY : Ints w Y b) (la : a.length ≤ 1000) (lb : b.length ≤ 1000) {k : Value → World → Prop} (hk : ∀ w', Gr w w' → k (.int .i64 (edist a b)) w') :
    CallK Try.prog 122 [.slice X a.length c, .slice Y b.length d] k w := by
  refine enter122 ?_
  unfold S122
  have H := Apt.nil w
  refine buildH H u22 inf3 [] (by decide) (by decide) (by simp [Instr.fill, madeCells]) rfl fun b1 w1 H => ?_
  simp only [List.nil_append] at H
  simp only [go_sem, Nat.reduceEqDiff]
  rw [i64_of (by omega) (by omega), show ((b.length : Int) + 1) = ((b.length + 1 : Nat) : Int) from by omega]
  refine loop_to (b.length + 1) 0 (fun i f w' => i ≤ b.length + 1 ∧ f 17 = .int .i64 i ∧ ∃ (U : Option Addr) (e : Nat), f 5 = .slice U i e ∧ Apt w w' [ows U e (ri i)])
    ⟨Nat.zero_le _, rfl, _, _, rfl, H⟩ ?_
  rintro i f w2 N hag ⟨hi, h17, U, e, h5, H⟩ hN
  have f16 : f 16 = .int .i64 ((b.length + 1 : Nat) : Int) := hag 16 (by decide)
  have f0 : f 0 = .slice X a.length c := hag 0 (by decide)
  have f1 : f 1 = .slice Y b.length d := hag 1 (by decide)
  simp only [f16, h17, h5, f0, go_sem, Nat.reduceEqDiff]
  by_cases hlt : i < b.length + 1
  · simp only [show ((i : Int) < ((b.length + 1 : Nat) : Int)) from by omega, decide_true, go_sem, Nat.reduceEqDiff]
    refine pushH H 0 rfl (ri_length i).symm (by rw [ri_length]; omega) fun t1 V1 e1 w3 H => ?_
    simp only [List.set_cons_zero] at H
    rw [i64_of (by omega) (by omega)]
    refine hN _ _ hlt ⟨by omega, rfl, V1, e1, ?_, ?_⟩
    · show Value.slice V1 _ e1 = _
      rw [List.length_append, ri_length]
      rfl
    · rw [ri_succ]
      exact H
  simp only [show ¬ ((i : Int) < ((b.length + 1 : Nat) : Int)) from by omega, decide_false, go_sem, Nat.reduceEqDiff]
  obtain rfl : i = b.length + 1 := by omega
  have H : Apt w w2 [ows U e (edRows a b 0)] := H
  clear hN hag N hlt h17 hi
  refine loop_to a.length 0 (fun i f w' => i ≤ a.length ∧ f 27 = .int .i64 i ∧ Apt w w' [ows U e (edRows a b i)])
    ⟨Nat.zero_le _, rfl, H⟩ ?_
  rintro i g w3 N hag ⟨hi, h27, H⟩ hN
  have g1 : g 1 = .slice Y b.length d := (hag 1 (by decide)).trans f1
  have g5 : g 5 = .slice U (b.length + 1) e := (hag 5 (by decide)).trans h5
  have g25 : g 25 = .slice X a.length c := hag 25 (by decide)
  have g26 : g 26 = .int .i64 a.length := hag 26 (by decide)
  simp only [g1, g5, g25, g26, h27, go_sem, Nat.reduceEqDiff]
  have hL := edRows_len a b i
  by_cases hlt : i < a.length
  case neg =>
    simp only [show ¬ ((i : Int) < a.length) from by omega, decide_false, go_sem, Nat.reduceEqDiff]
    obtain rfl : i = a.length := by omega
    refine rdi (ixn22 (fun h => (H.ints 0 rfl).ptr (by omega)) (by omega)) ?_
    refine rdi (ld3 ((H.ints 0 rfl).cell _ (by omega))) ?_
    exact hk _ H.gr
  simp only [show ((i : Int) < a.length) from by omega, decide_true, go_sem, Nat.reduceEqDiff]
  have hbr := edRows_bd a b i
  have hnext : edRows a b (i + 1) = edNext (a.getD i 0) b (edRows a b i) ((i : Int) + 1) b.length := rfl
  generalize edRows a b i = row at *
  have rowp : 0 < b.length + 1 → U = some (ad U) := fun _ => (H.ints 0 rfl).ptr (by omega)
  refine rdi (ixn22 hX.ptr hlt) (rdi (ld3 ((hX.gr H.gr).cell i hlt)) ?_)
  refine rdi (ix22_0 rowp (by omega)) (rdi (ld3 ((H.ints 0 rfl).cell 0 (by omega))) ?_)
  simp only [go_sem, Nat.reduceEqDiff]
  rw [i64_of (by omega) (by omega)]
  refine rdi (ix22_0 rowp (by omega)) ?_
  refine putH H 0 (j := 0) rfl (by omega) fun w4 H => ?_
  simp only [List.set_cons_zero] at H
  rw [edCur_zero (x := a.getD i 0) (b := b) (by omega)] at H
  refine loop_to b.length 0 (fun j f w' => j ≤ b.length ∧ f 41 = .int .i64 j ∧ f 9 = .int .i64 (row.getD j 0) ∧ Apt w w' [ows U e (edCur (a.getD i 0) b row ((i : Int) + 1) j)])
    ⟨Nat.zero_le _, rfl, rfl, H⟩ ?_
  rintro j r w5 N3 hag3 ⟨hj, h41, h9, H⟩ hN3
  have r1 : r 1 = .slice Y b.length d := (hag3 1 (by decide)).trans g1
  have r5 : r 5 = .slice U (b.length + 1) e := (hag3 5 (by decide)).trans g5
  have r8 : r 8 = .int .i64 (a.getD i 0) := hag3 8 (by decide)
  have r27 : r 27 = .int .i64 i := (hag3 27 (by decide)).trans h27
  have r39 : r 39 = .slice Y b.length d := hag3 39 (by decide)
  have r40 : r 40 = .int .i64 b.length := hag3 40 (by decide)
  simp only [r1, r5, r8, r27, r39, r40, h41, h9, go_sem, Nat.reduceEqDiff]
  have hcl : (edCur (a.getD i 0) b row ((i : Int) + 1) j).length = row.length := edCur_len (by omega)
  by_cases hlt3 : j < b.length
  case neg =>
    simp only [show ¬ ((j : Int) < b.length) from by omega, decide_false, go_sem, Nat.reduceEqDiff]
    obtain rfl : j = b.length := by omega
    rw [i64_of (by omega) (by omega)]
    refine hN _ _ hlt ⟨by omega, rfl, ?_⟩
    rw [hnext, ← edCur_end (by omega)]
    exact H
  simp only [show ((j : Int) < b.length) from by omega, decide_true, go_sem, Nat.reduceEqDiff]
  refine rdi (ixn22 hY.ptr hlt3) (rdi (ld3 ((hY.gr H.gr).cell j hlt3)) ?_)
  simp only [go_sem, Nat.reduceEqDiff]
  have hb1 := hbr j (by omega)
  have hb2 := hbr (j + 1) (by omega)
  have hb3 := edNext_bd (x := a.getD i 0) (b := b) hbr j (by omega) j (Nat.le_refl _)
  have hup : (edCur (a.getD i 0) b row ((i : Int) + 1) j).getD (j + 1) 0 = row.getD (j + 1) 0 := edCur_up (by omega)
  have hle : (edCur (a.getD i 0) b row ((i : Int) + 1) j).getD j 0 = (edNext (a.getD i 0) b row ((i : Int) + 1) j).getD j 0 := edCur_left
  by_cases hxy : a.getD i 0 = b.getD j 0
  · simp only [hxy, decide_true, Bool.not_true, go_sem, Nat.reduceEqDiff]
    rw [← hxy]
    rw [i64_of (n := (j : Int) + 1) (by omega) (by omega)]
    refine rdi (ixn22' (i := j + 1) (by omega) rowp (by omega)) ?_
    refine rdi (ld3 ((H.ints 0 rfl).cell (j + 1) (by omega))) ?_
    refine rdi (ixn22 rowp (by omega)) ?_
    refine rdi (ld3 ((H.ints 0 rfl).cell j (by omega))) ?_
    rw [hup, hle]
    simp only [go_sem, Nat.reduceEqDiff]
    rw [i64_of (n := (edNext (a.getD i 0) b row ((i : Int) + 1) j).getD j 0 + 1) (by omega) (by omega), i64_of (n := row.getD (j + 1) 0 + 1) (by omega) (by omega)]
    refine rdi min_int3 ?_
    rw [min3_cell]
    refine rdi (ixn22' (i := j + 1) (by omega) rowp (by omega)) ?_
    refine putH H 0 (j := j + 1) rfl (by omega) fun w6 H => ?_
    simp only [List.set_cons_zero] at H
    rw [edCur_set (by omega) (by rw [edCell, if_pos hxy])] at H
    refine hN3 _ _ hlt3 ⟨by omega, rfl, rfl, H⟩
  · simp only [hxy, decide_false, Bool.not_false, go_sem, Nat.reduceEqDiff]
    rw [i64_of (n := row.getD j 0 + 1) (by omega) (by omega)]
    rw [i64_of (n := (j : Int) + 1) (by omega) (by omega)]
    refine rdi (ixn22' (i := j + 1) (by omega) rowp (by omega)) ?_
    refine rdi (ld3 ((H.ints 0 rfl).cell (j + 1) (by omega))) ?_
    refine rdi (ixn22 rowp (by omega)) ?_
    refine rdi (ld3 ((H.ints 0 rfl).cell j (by omega))) ?_
    rw [hup, hle]
    simp only [go_sem, Nat.reduceEqDiff]
    rw [i64_of (n := (edNext (a.getD i 0) b row ((i : Int) + 1) j).getD j 0 + 1) (by omega) (by omega), i64_of (n := row.getD (j + 1) 0 + 1) (by omega) (by omega)]
    refine rdi min_int3 ?_
    rw [min3_cell]
    refine rdi (ixn22' (i := j + 1) (by omega) rowp (by omega)) ?_
    refine putH H 0 (j := j + 1) rfl (by omega) fun w6 H => ?_
    simp only [List.set_cons_zero] at H
    rw [edCur_set (by omega) (by rw [edCell, if_neg hxy])] at H
    refine hN3 _ _ hlt3 ⟨by omega, rfl, rfl, H⟩
end Go.Proofs.Ytiohaeckagjebaa

/- Contracts: equal lists (the program's library), SameUpTo of the reference and of the program. -/
set_option linter.unusedVariables false
set_option linter.unusedSimpArgs false
set_option maxRecDepth 100000
namespace Go.Sh
open Go
theorem drop_eq_iff {a b : List Int} {i : Nat} (hi : i < a.length) (hj : i < b.length) : a.drop i = b.drop i ↔ a.getD i 0 = b.getD i 0 ∧ a.drop (i + 1) = b.drop (i + 1) := by
  rw [List.drop_eq_getElem_cons hi, List.drop_eq_getElem_cons hj, List.cons.injEq]
  simp [List.getD_eq_getElem?_getD, hi, hj]
theorem drops_eq_iff {a b : List (List Int)} {i : Nat} (hi : i < a.length) (hj : i < b.length) : a.drop i = b.drop i ↔ rgt a i = rgt b i ∧ a.drop (i + 1) = b.drop (i + 1) := by
  rw [drop_rgt hi, drop_rgt hj, List.cons.injEq]
noncomputable def sameV (a b : Gram) (most : Int) : Bool × Bool := if (shortV a most).2 = true ∧ (shortV b most).2 = true ∧ twoB a b = true then (decide ((shortV a most).1 = (shortV b most).1), true) else (false, false)
theorem shortV_mem {gm : Gram} {most : Int} {x : List Int} (h : x ∈ (shortV gm most).1) : x.length ≤ 1000 := by
  unfold shortV at h
  by_cases hh : (goodG gm && inB most 0 4) = true
  · rw [if_pos hh] at h
    have := (shortW_mem h).1
    simp only [inB, Bool.and_eq_true, decide_eq_true_eq] at hh
    omega
  · rw [if_neg hh] at h
    simp at h
theorem shortV_good {gm : Gram} {most : Int} (h : (shortV gm most).2 = true) : goodG gm = true := by
  unfold shortV at h
  by_cases hh : (goodG gm && inB most 0 4) = true
  · simp only [Bool.and_eq_true] at hh
    exact hh.1
  · rw [if_neg hh] at h
    cases h
end Go.Sh
namespace Go.Proofs.Ytiohaeckagjebaa
open Go Go.Sh Go.RowKit
theorem equalI_c {w : World} {X Y : Option Addr} {c d n m : Nat} {a b : List Int} (hX : Ints w X a) (hY : Ints w Y b) (hn : n = a.length) (hm : m = b.length) {k : Value → World → Prop} (hk : ∀ w', Gr w w' → k (.bool (decide (a = b))) w') :
    CallK Try.prog 110 [.slice X n c, .slice Y m d] k w := by
  subst hn hm
  refine enter110 ?_
  unfold S110
  have hle := hX.le
  simp only [go_sem, Nat.reduceEqDiff]
  by_cases hl : a.length = b.length
  case neg =>
    simp only [show ¬ ((a.length : Int) = b.length) from by omega, decide_false, Bool.not_false, go_sem, Nat.reduceEqDiff]
    have := hk _ (Gr.refl w)
    rwa [show decide (a = b) = false from decide_eq_false fun e => hl (by rw [e])] at this
  simp only [show ((a.length : Int) = b.length) from by omega, decide_true, Bool.not_true, go_sem, Nat.reduceEqDiff]
  refine loop_to a.length 0 (fun i f w' => i ≤ a.length ∧ f 13 = .int .i64 i ∧ Gr w w' ∧ (a = b ↔ a.drop i = b.drop i)) ⟨Nat.zero_le _, rfl, Gr.refl _, by simp⟩ ?_
  rintro i f w1 N hag ⟨hi, h13, g, hE⟩ hN
  have f0 : f 0 = .slice X a.length c := hag 0 (by decide)
  have f1 : f 1 = .slice Y b.length d := hag 1 (by decide)
  have f12 : f 12 = .int .i64 b.length := hag 12 (by decide)
  simp only [f0, f1, f12, h13, go_sem, Nat.reduceEqDiff]
  by_cases hlt : i < a.length
  case neg =>
    simp only [show ¬ ((i : Int) < b.length) from by omega, decide_false, go_sem, Nat.reduceEqDiff]
    rw [List.drop_of_length_le (by omega), List.drop_of_length_le (by omega)] at hE
    have := hk _ g
    rwa [show decide (a = b) = true from decide_eq_true (hE.2 rfl)] at this
  simp only [show ((i : Int) < b.length) from by omega, decide_true, go_sem, Nat.reduceEqDiff]
  have hj : i < b.length := by omega
  have g1 := gr_trans g (gr_drew _)
  refine rdi (ixn22 hX.ptr hlt) (rdi (ld3 ((hX.gr g1).cell i hlt)) (rdi (ixn22 hY.ptr hj) (rdi (ld3 ((hY.gr g1).cell i hj)) ?_)))
  simp only [go_sem, Nat.reduceEqDiff]
  rw [drop_eq_iff hlt hj] at hE
  by_cases e : a.getD i 0 = b.getD i 0
  · simp only [e, decide_true, Bool.not_true, go_sem, Nat.reduceEqDiff]
    rw [i64_of (by omega) (by omega)]
    exact hN _ _ hlt ⟨by omega, rfl, g1, hE.trans ⟨fun h => h.2, fun h => ⟨e, h⟩⟩⟩
  · simp only [e, decide_false, Bool.not_false, go_sem, Nat.reduceEqDiff]
    have := hk _ g1
    rwa [show decide (a = b) = false from decide_eq_false fun h => e (hE.1 h).1] at this
theorem equalFunc_c {w : World} {U V : Option Addr} {d e n m : Nat} {ls bs : List (List Int)} (hA : Intss w U ls) (hB : Intss w V bs) (hn : n = ls.length) (hm : m = bs.length) {k : Value → World → Prop} (hk : ∀ w', Gr w w' → k (.bool (decide (ls = bs))) w') :
    CallK Try.prog 108 [.slice U n d, .slice V m e, .func (.func 109) #[] #[]] k w := by
  subst hn hm
  refine enter108 ?_
  unfold S108
  have hle := hA.le
  simp only [go_sem, Nat.reduceEqDiff]
  by_cases hl : ls.length = bs.length
  case neg =>
    simp only [show ¬ ((ls.length : Int) = bs.length) from by omega, decide_false, Bool.not_false, go_sem, Nat.reduceEqDiff]
    have := hk _ (Gr.refl w)
    rwa [show decide (ls = bs) = false from decide_eq_false fun e => hl (by rw [e])] at this
  simp only [show ((ls.length : Int) = bs.length) from by omega, decide_true, Bool.not_true, go_sem, Nat.reduceEqDiff]
  refine loop_to ls.length 0 (fun i f w' => i ≤ ls.length ∧ f 17 = .int .i64 i ∧ Gr w w' ∧ (ls = bs ↔ ls.drop i = bs.drop i)) ⟨Nat.zero_le _, rfl, Gr.refl _, by simp⟩ ?_
  rintro i f w1 N hag ⟨hi, h17, g, hE⟩ hN
  have f1 : f 1 = .slice V bs.length e := hag 1 (by decide)
  have f2 : f 2 = .func (.func 109) #[] #[] := hag 2 (by decide)
  have f15 : f 15 = .slice U ls.length d := hag 15 (by decide)
  have f16 : f 16 = .int .i64 bs.length := hag 16 (by decide)
  simp only [f1, f2, f15, f16, h17, go_sem, Nat.reduceEqDiff]
  by_cases hlt : i < ls.length
  case neg =>
    simp only [show ¬ ((i : Int) < bs.length) from by omega, decide_false, go_sem, Nat.reduceEqDiff]
    rw [List.drop_of_length_le (by omega), List.drop_of_length_le (by omega)] at hE
    have := hk _ g
    rwa [show decide (ls = bs) = true from decide_eq_true (hE.2 rfl)] at this
  simp only [show ((i : Int) < bs.length) from by omega, decide_true, go_sem, Nat.reduceEqDiff]
  have hj : i < bs.length := by omega
  obtain ⟨XA, cA, cellA, leA, intA⟩ := (hA.gr g).row i hlt
  obtain ⟨XB, cB, cellB, leB, intB⟩ := (hB.gr g).row i hj
  refine rdi (ixn48 hA.ptr hlt) (rdi (ld22 cellA) (rdi (ixn48 hB.ptr hj) (rdi (ld22 cellB) ?_)))
  refine callVc (caps := []) ?_
  refine enter109 ?_
  unfold S109
  refine equalI_c intA intB rfl rfl fun w2 g2 => ?_
  have G := gr_trans g g2
  simp only [go_sem, Nat.reduceEqDiff]
  rw [drops_eq_iff hlt hj] at hE
  by_cases e : rgt ls i = rgt bs i
  · simp only [e, decide_true, Bool.not_true, go_sem, Nat.reduceEqDiff]
    rw [i64_of (by omega) (by omega)]
    exact hN _ _ hlt ⟨by omega, rfl, G, hE.trans ⟨fun h => h.2, fun h => ⟨e, h⟩⟩⟩
  · simp only [e, decide_false, Bool.not_false, go_sem, Nat.reduceEqDiff]
    have := hk _ G
    rwa [show decide (ls = bs) = false from decide_eq_false fun h => e (hE.1 h).1] at this
theorem specSameUpTo_c {F E : Nat → Prop} {w : World} {v u : Value} {a b : Gram} {most : Int} (hv : GramV F w v a) (hu : GramV E w u b) {k : Value → World → Prop} (hk : ∀ w', Gr w w' → k (.tuple #[.bool (sameV a b most).1, .bool (sameV a b most).2]) w') :
    CallK Try.prog 55 [v, u, .int .i64 most] k w := by
  obtain ⟨Y, cy, rfl, hc, hy⟩ := hv
  obtain ⟨Z, cz, rfl, hd, hz⟩ := hu
  refine enter55 ?_
  unfold S55
  have H := Apt.nil w
  refine boxH H fun b1 w1 H => ?_
  refine boxH H fun b2 w2 H => ?_
  refine rdi (ldB_agg agg37 sz37 rfl (H.box 0 rfl)) ?_
  refine specShortWords_c (gm := a) ⟨Y, cy, rfl, hc, hy.gr H.gr⟩ fun w3 U d ps g3 o3 => ?_
  have H := H.addLss g3 o3
  simp only [List.nil_append, List.cons_append] at H
  refine rdi extract_two_0 (rdi extract_two_1 ?_)
  refine rdi (ldB_agg agg37 sz37 rfl (H.box 1 rfl)) ?_
  refine specShortWords_c (gm := b) ⟨Z, cz, rfl, hd, hz.gr H.gr⟩ fun w4 V e qs g4 o4 => ?_
  have H := H.addLss g4 o4
  simp only [List.nil_append, List.cons_append] at H
  clear o3 o4
  have no : ¬ ((shortV a most).2 = true ∧ (shortV b most).2 = true ∧ twoB a b = true) → ∀ w', Gr w w' → k (.tuple #[.bool false, .bool false]) w' := fun h w' g => by
    have := hk w' g
    rwa [sameV, if_neg h] at this
  simp only [go_sem, Nat.reduceEqDiff]
  cases h1 : (shortV a most).2
  · simp only [Bool.not_false, go_sem, Nat.reduceEqDiff]
    exact no (fun h => by rw [h1] at h; exact absurd h.1 Bool.false_ne_true) _ H.gr
  simp only [Bool.not_true, go_sem, Nat.reduceEqDiff]
  cases h2 : (shortV b most).2
  · simp only [Bool.not_false, go_sem, Nat.reduceEqDiff]
    exact no (fun h => by rw [h2] at h; exact absurd h.2.1 Bool.false_ne_true) _ H.gr
  simp only [Bool.not_true, go_sem, Nat.reduceEqDiff]
  refine rdi (ldB_agg agg37 sz37 rfl (H.box 0 rfl)) ?_
  refine rdi (ldB_agg agg37 sz37 rfl (H.box 1 rfl)) ?_
  refine l20Two_c (a := a) (b := b) ⟨Y, cy, rfl, hc, hy.gr H.gr⟩ ⟨Z, cz, rfl, hd, hz.gr H.gr⟩ fun w5 g5 => ?_
  have H := H.step g5
  cases h3 : twoB a b
  · simp only [Bool.not_false, go_sem, Nat.reduceEqDiff]
    exact no (fun h => by rw [h3] at h; exact absurd h.2.2 Bool.false_ne_true) _ H.gr
  simp only [Bool.not_true, go_sem, Nat.reduceEqDiff]
  refine l20Unlike_c (H.lssi 2 rfl).read (H.lssi 3 rfl).read (fun x => shortV_mem) (fun x => shortV_mem) fun w6 X c g6 o6 => ?_
  simp only [go_sem, Nat.reduceEqDiff]
  have := hk w6 (gr_trans H.gr g6)
  rw [sameV, if_pos ⟨h1, h2, h3⟩] at this
  rw [unlikeR_same, Bool.not_not]
  exact this
theorem implSameUpTo_c {F E : Nat → Prop} {w : World} {v u : Value} {a b : Gram} {most : Int} (hv : GramV F w v a) (hu : GramV E w u b) {k : Value → World → Prop} (hk : ∀ w', Gr w w' → k (.tuple #[.bool (sameV a b most).1, .bool (sameV a b most).2]) w') :
    CallK Try.prog 56 [v, u, .int .i64 most] k w := by
  obtain ⟨Y, cy, rfl, hc, hy⟩ := hv
  obtain ⟨Z, cz, rfl, hd, hz⟩ := hu
  refine enter56 ?_
  unfold S56
  have H := Apt.nil w
  refine boxH H fun b1 w1 H => ?_
  refine boxH H fun b2 w2 H => ?_
  refine rdi (ldB_agg agg37 sz37 rfl (H.box 0 rfl)) ?_
  refine implShortWords_c (gm := a) ⟨Y, cy, rfl, hc, hy.gr H.gr⟩ fun w3 U d ps g3 o3 => ?_
  have H := H.addLss g3 o3
  simp only [List.nil_append, List.cons_append] at H
  refine rdi extract_two_0 (rdi extract_two_1 ?_)
  refine rdi (ldB_agg agg37 sz37 rfl (H.box 1 rfl)) ?_
  refine implShortWords_c (gm := b) ⟨Z, cz, rfl, hd, hz.gr H.gr⟩ fun w4 V e qs g4 o4 => ?_
  have H := H.addLss g4 o4
  simp only [List.nil_append, List.cons_append] at H
  clear o3 o4
  have no : ¬ ((shortV a most).2 = true ∧ (shortV b most).2 = true ∧ twoB a b = true) → ∀ w', Gr w w' → k (.tuple #[.bool false, .bool false]) w' := fun h w' g => by
    have := hk w' g
    rwa [sameV, if_neg h] at this
  simp only [go_sem, Nat.reduceEqDiff]
  cases h1 : (shortV a most).2
  · simp only [Bool.not_false, go_sem, Nat.reduceEqDiff]
    exact no (fun h => by rw [h1] at h; exact absurd h.1 Bool.false_ne_true) _ H.gr
  simp only [Bool.not_true, go_sem, Nat.reduceEqDiff]
  cases h2 : (shortV b most).2
  · simp only [Bool.not_false, go_sem, Nat.reduceEqDiff]
    exact no (fun h => by rw [h2] at h; exact absurd h.2.1 Bool.false_ne_true) _ H.gr
  simp only [Bool.not_true, go_sem, Nat.reduceEqDiff]
  refine rdi (ldB3 (H.box 0 rfl) rfl) ?_
  refine rdi (ldB3 (H.box 1 rfl) rfl) ?_
  simp only [go_sem, Nat.reduceEqDiff]
  have h3' : twoB a b = decide (a.toks = b.toks) := by rw [twoB, shortV_good h1, shortV_good h2]; rfl
  by_cases h3 : a.toks = b.toks
  case neg =>
    simp only [h3, decide_false, Bool.not_false, go_sem, Nat.reduceEqDiff]
    exact no (fun h => by rw [h3'] at h; exact h3 (of_decide_eq_true h.2.2)) _ H.gr
  simp only [h3, decide_true, Bool.not_true, go_sem, Nat.reduceEqDiff]
  refine equalFunc_c (H.lssi 2 rfl).read (H.lssi 3 rfl).read rfl rfl fun w6 g6 => ?_
  have := hk w6 (gr_trans H.gr g6)
  rwa [sameV, if_pos ⟨h1, h2, by rw [h3']; exact decide_eq_true h3⟩] at this
end Go.Proofs.Ytiohaeckagjebaa

/- Bn: bodies of functions as terms of the frame calculus, printed by shgen.py of this repository. -/
set_option linter.unusedVariables false
set_option maxRecDepth 100000
namespace Go.Proofs.Ytiohaeckagjebaa
open Go Go.Sh

/-! loop.example/g00758/spec.l17Word -/
def pl97 : Plans := fun _ => ⟨false, [], .nil⟩
def S97 (v0 v1 : Value) (k : Value → World → Prop) (w : World) : Prop :=
 Do Try.prog (sBox 37 v0) (fun t1 w2 =>
 Rd Try.prog (WS.at w2) (sLoad 37 t1) fun t3 =>
 CallK Try.prog 101 [t3, v1] (fun t4 w5 =>
 GuardK t4 true (fun k w' => k v1 w') (fun t6 w7 =>
 GuardK t4 true (fun k w' => Rd Try.prog (WS.at w7) (sBuiltin .len #[22] 3 [false] [t6]) fun v => k v w') (fun t8 w9 =>
 GuardK t4 true (fun k w' => Rd Try.prog (WS.at w9) (sBin .leq 3 true t8 (.int .i64 8)) fun v => k v w') (fun t10 w11 =>
 Rd Try.prog (WS.at w11) (sPick t4 t10 (.bool false)) fun t12 =>
 k t12 w11) w9) w7) w5) w2) w
theorem body97 : Try.f97.body = some (bodyOf Try.f97) := by kernel_rfl
theorem same97 (v0 v1 : Value) (k : Value → World → Prop) (w : World) : wpF Try.prog pl97 (bodyOf Try.f97) (bodyQ Try.prog Try.f97.results.toList k) (initF [v0, v1]) w = S97 v0 v1 k w := by kernel_rfl
theorem enter97 {v0 v1 : Value} {k : Value → World → Prop} {w : World} (h : S97 v0 v1 k w) : CallK Try.prog 97 [v0, v1] k w :=
  call_of_wpF (pl := pl97) mixed Try.func97 body97 (by kernel_rfl) (of_decide_eq_true (by kernel_rfl)) (by kernel_rfl) (by kernel_rfl) (same97 v0 v1 k w ▸ h)

end Go.Proofs.Ytiohaeckagjebaa

/- Contracts: the nearest short word, by the reference and by the program. -/
set_option linter.unusedVariables false
set_option linter.unusedSimpArgs false
set_option maxRecDepth 100000
namespace Go.Sh
open Go
def nearI (ws : List Int) (ls : List (List Int)) : Nat → Nat
  | 0 => 0
  | n + 1 => if edist ws (rgt ls n) < edist ws (rgt ls (nearI ws ls n)) then n else nearI ws ls n
theorem nearI_lt {ws : List Int} {ls : List (List Int)} (h : 0 < ls.length) : ∀ {n : Nat}, n ≤ ls.length → nearI ws ls n < ls.length := by
  intro n
  induction n with
  | zero => intro _; exact h
  | succ n ih =>
    intro hn
    rw [nearI]
    split
    · omega
    · exact ih (by omega)
def NearOk (gm : Gram) (ws : List Int) (most : Int) : Prop := (shortV gm most).2 = true ∧ wordB gm.toks ws = true ∧ ws.length ≤ 8 ∧ 0 < (shortV gm most).1.length
open Classical in
noncomputable def nearV (gm : Gram) (ws : List Int) (most : Int) : List Int × Bool := if NearOk gm ws most then (rgt (shortV gm most).1 (nearI ws (shortV gm most).1 (shortV gm most).1.length), true) else ([], false)
theorem nearV_len (gm : Gram) (ws : List Int) (most : Int) : (nearV gm ws most).1.length ≤ 1000000 := by
  unfold nearV
  split
  · rename_i h
    have := shortV_mem (rgt_mem (nearI_lt (ws := ws) h.2.2.2 (Nat.le_refl _)))
    dsimp only
    omega
  · simp
end Go.Sh
namespace Go.Proofs.Ytiohaeckagjebaa
open Go Go.Sh Go.RowKit
theorem l17Word_c {F : Nat → Prop} {w : World} {v : Value} {gm : Gram} {X : Option Addr} {n cx : Nat} {ws : List Int} (hv : GramV F w v gm) (hX : Ints w X ws) (hn : n = ws.length) {k : Value → World → Prop} (hk : ∀ w', Gr w w' → k (.bool (goodG gm && wordB gm.toks ws && decide (ws.length ≤ 8))) w') :
    CallK Try.prog 97 [v, .slice X n cx] k w := by
  subst hn
  obtain ⟨Y, cy, rfl, hc, hy⟩ := hv
  refine enter97 ?_
  unfold S97
  have H := Apt.nil w
  refine boxH H fun b1 w1 H => ?_
  refine rdi (ldB_agg agg37 sz37 rfl (H.box 0 rfl)) ?_
  refine goodWord_c (gm := gm) ⟨Y, cy, rfl, hc, hy.gr H.gr⟩ (hX.gr H.gr) rfl fun w2 g2 => ?_
  have H := H.step g2
  have := hk w2 H.gr
  cases hg : goodG gm && wordB gm.toks ws
  · simp only [go_sem, Nat.reduceEqDiff]
    rwa [hg, Bool.false_and] at this
  · simp only [go_sem, Nat.reduceEqDiff]
    rw [hg, Bool.true_and] at this
    by_cases hl : ws.length ≤ 8
    · simp only [show ((ws.length : Int) ≤ 8) from by omega, decide_true]
      simpa [hl] using this
    · simp only [show ¬ ((ws.length : Int) ≤ 8) from by omega, decide_false]
      simpa [hl] using this
theorem specNearWord_c {F : Nat → Prop} {w : World} {v : Value} {gm : Gram} {most : Int} {X : Option Addr} {n cx : Nat} {ws : List Int} (hv : GramV F w v gm) (hX : Ints w X ws) (hn : n = ws.length) {k : Value → World → Prop}
    (hk : ∀ w' U d, Gr w w' → Own 3 w' w.heap.size U d (nearV gm ws most).1 → k (.tuple #[.slice U (nearV gm ws most).1.length d, .bool (nearV gm ws most).2]) w') :
    CallK Try.prog 67 [v, .slice X n cx, .int .i64 most] k w := by
  subst hn
  obtain ⟨Y, cy, rfl, hc, hy⟩ := hv
  refine enter67 ?_
  unfold S67
  have H := Apt.nil w
  refine boxH H fun b1 w1 H => ?_
  refine rdi (ldB_agg agg37 sz37 rfl (H.box 0 rfl)) ?_
  refine specShortWords_c (gm := gm) ⟨Y, cy, rfl, hc, hy.gr H.gr⟩ fun w2 U d ps g2 o2 => ?_
  have H := H.addLss g2 o2
  simp only [List.nil_append, List.cons_append] at H
  clear o2
  have no : ¬ NearOk gm ws most → ∀ w', Gr w w' → k (.tuple #[.slice none 0 0, .bool false]) w' := fun h w' g => by
    rw [nearV, if_neg h] at hk
    exact hk w' none 0 g (Row.nil _ _ _ _)
  simp only [go_sem, Nat.reduceEqDiff]
  cases h1 : (shortV gm most).2
  · simp only [Bool.not_false, go_sem, Nat.reduceEqDiff]
    exact no (fun h => by have := h.1; rw [h1] at this; cases this) _ H.gr
  simp only [Bool.not_true, go_sem, Nat.reduceEqDiff]
  have hg := shortV_good h1
  have htk := good_toks hg
  refine rdi (ldB_agg agg37 sz37 rfl (H.box 0 rfl)) ?_
  refine l17Word_c (gm := gm) ⟨Y, cy, rfl, hc, hy.gr H.gr⟩ (hX.gr H.gr) rfl fun w3 g3 => ?_
  have H := H.step g3
  rw [hg, Bool.true_and]
  cases h2 : wordB gm.toks ws && decide (ws.length ≤ 8)
  · simp only [Bool.not_false, go_sem, Nat.reduceEqDiff]
    exact no (fun h => by rw [h.2.1, decide_eq_true h.2.2.1] at h2; cases h2) _ H.gr
  simp only [Bool.not_true, go_sem, Nat.reduceEqDiff]
  simp only [Bool.and_eq_true, decide_eq_true_eq] at h2
  have h3 := h2.2
  have h2 := h2.1
  by_cases h4 : 0 < (shortV gm most).1.length
  case neg =>
    simp only [show (((shortV gm most).1.length : Int) = 0) from by omega, decide_true, go_sem, Nat.reduceEqDiff]
    exact no (fun h => h4 h.2.2.2) _ H.gr
  simp only [show ¬ (((shortV gm most).1.length : Int) = 0) from by omega, decide_false, go_sem, Nat.reduceEqDiff]
  rw [nearV, if_pos ⟨h1, h2, h3, h4⟩] at hk
  have hbA := fun x => @shortV_mem gm most x
  clear no
  generalize (shortV gm most).1 = ls at *
  have hle : ls.length ≤ 9223372036854775807 := (H.lssi 1 rfl).read.le
  refine rdi (ix48_0 (fun h => (H.lssi 1 rfl).ptr h) h4) ?_
  refine rdi (ld22 ((H.lssi 1 rfl).cell h4)) ?_
  refine loop_to ls.length 0 (fun i f w' => i ≤ ls.length ∧ f 37 = .int .i64 i ∧ f 10 = .slice (ps (nearI ws ls i)).1 (rgt ls (nearI ws ls i)).length (ps (nearI ws ls i)).2 ∧
      Apt w w' [bx b1 [.int .i64 gm.nons, .int .i64 gm.toks, .slice Y gm.rules.length cy] 37, lss U d ls ps])
    ⟨Nat.zero_le _, rfl, rfl, H⟩ ?_
  rintro i f w4 N hag ⟨hi, hC, h10, H⟩ hN
  have f1 : f 1 = .slice X ws.length cx := hag 1 (by decide)
  have fw : f 35 = .slice U ls.length d := hag 35 (by decide)
  have fl : f 36 = .int .i64 ls.length := hag 36 (by decide)
  simp only [f1, fw, fl, hC, h10, go_sem, Nat.reduceEqDiff]
  have hI := nearI_lt (ws := ws) h4 hi
  by_cases hlt : i < ls.length
  case neg =>
    simp only [show ¬ ((i : Int) < ls.length) from by omega, decide_false, go_sem, Nat.reduceEqDiff]
    obtain rfl : i = ls.length := by omega
    exact hk _ _ _ H.gr ((H.lssi 1 rfl).own _ hI)
  simp only [show ((i : Int) < ls.length) from by omega, decide_true, go_sem, Nat.reduceEqDiff]
  have o := H.lssi 1 rfl
  have hb1 := hbA _ (rgt_mem hlt)
  have hb2 := hbA _ (rgt_mem hI)
  refine rdi (ixn48 (fun h => o.ptr h) hlt) (rdi (ld22 (o.cell hlt)) ?_)
  refine l17Apart_c (hX.gr H.gr) ((o.own i hlt).ints) (by omega) hb1 fun w5 g5 => ?_
  have H := H.step g5
  have o := H.lssi 1 rfl
  refine l17Apart_c (hX.gr H.gr) ((o.own _ hI).ints) (by omega) hb2 fun w6 g6 => ?_
  have H := H.step g6
  simp only [go_sem, Nat.reduceEqDiff]
  by_cases hd : edist ws (rgt ls i) < edist ws (rgt ls (nearI ws ls i))
  · simp only [hd, decide_true, go_sem, Nat.reduceEqDiff]
    rw [i64_of (by omega) (by omega)]
    exact hN _ _ hlt ⟨by omega, rfl, by rw [nearI, if_pos hd]; rfl, H⟩
  · simp only [hd, decide_false, go_sem, Nat.reduceEqDiff]
    rw [i64_of (by omega) (by omega)]
    exact hN _ _ hlt ⟨by omega, rfl, by rw [nearI, if_neg hd]; exact h10, H⟩
theorem implNearWord_c {F : Nat → Prop} {w : World} {v : Value} {gm : Gram} {most : Int} {X : Option Addr} {n cx : Nat} {ws : List Int} (hv : GramV F w v gm) (hX : Ints w X ws) (hn : n = ws.length) {k : Value → World → Prop}
    (hk : ∀ w' U d, Gr w w' → Own 3 w' w.heap.size U d (nearV gm ws most).1 → k (.tuple #[.slice U (nearV gm ws most).1.length d, .bool (nearV gm ws most).2]) w') :
    CallK Try.prog 68 [v, .slice X n cx, .int .i64 most] k w := by
  subst hn
  obtain ⟨Y, cy, rfl, hc, hy⟩ := hv
  refine enter68 ?_
  unfold S68
  have H := Apt.nil w
  refine boxH H fun b1 w1 H => ?_
  refine rdi (ldB_agg agg37 sz37 rfl (H.box 0 rfl)) ?_
  refine implShortWords_c (gm := gm) ⟨Y, cy, rfl, hc, hy.gr H.gr⟩ fun w2 U d ps g2 o2 => ?_
  have H := H.addLss g2 o2
  simp only [List.nil_append, List.cons_append] at H
  clear o2
  have no : ¬ NearOk gm ws most → ∀ w', Gr w w' → k (.tuple #[.slice none 0 0, .bool false]) w' := fun h w' g => by
    rw [nearV, if_neg h] at hk
    exact hk w' none 0 g (Row.nil _ _ _ _)
  simp only [go_sem, Nat.reduceEqDiff]
  cases h1 : (shortV gm most).2
  · simp only [Bool.not_false, go_sem, Nat.reduceEqDiff]
    exact no (fun h => by have := h.1; rw [h1] at this; cases this) _ H.gr
  simp only [Bool.not_true, go_sem, Nat.reduceEqDiff]
  have hg := shortV_good h1
  have htk := good_toks hg
  refine rdi (ldB3 (H.box 0 rfl) rfl) ?_
  refine isWord_c (hX.gr H.gr) rfl htk.1 htk.2 fun w3 g3 => ?_
  have H := H.step g3
  cases h2 : wordB gm.toks ws
  · simp only [Bool.not_false, go_sem, Nat.reduceEqDiff]
    exact no (fun h => by have := h.2.1; rw [h2] at this; cases this) _ H.gr
  simp only [Bool.not_true, go_sem, Nat.reduceEqDiff]
  by_cases h3 : ws.length ≤ 8
  case neg =>
    simp only [show ((8 : Int) < ws.length) from by omega, decide_true, go_sem, Nat.reduceEqDiff]
    exact no (fun h => h3 h.2.2.1) _ H.gr
  simp only [show ¬ ((8 : Int) < ws.length) from by omega, decide_false, go_sem, Nat.reduceEqDiff]
  by_cases h4 : 0 < (shortV gm most).1.length
  case neg =>
    simp only [show (((shortV gm most).1.length : Int) = 0) from by omega, decide_true, go_sem, Nat.reduceEqDiff]
    exact no (fun h => h4 h.2.2.2) _ H.gr
  simp only [show ¬ (((shortV gm most).1.length : Int) = 0) from by omega, decide_false, go_sem, Nat.reduceEqDiff]
  rw [nearV, if_pos ⟨h1, h2, h3, h4⟩] at hk
  have hbA := fun x => @shortV_mem gm most x
  clear no
  generalize (shortV gm most).1 = ls at *
  have hle : ls.length ≤ 9223372036854775807 := (H.lssi 1 rfl).read.le
  refine rdi (ix48_0 (fun h => (H.lssi 1 rfl).ptr h) h4) ?_
  refine rdi (ld22 ((H.lssi 1 rfl).cell h4)) ?_
  refine loop_to ls.length 0 (fun i f w' => i ≤ ls.length ∧ f 43 = .int .i64 i ∧ f 10 = .slice (ps (nearI ws ls i)).1 (rgt ls (nearI ws ls i)).length (ps (nearI ws ls i)).2 ∧
      Apt w w' [bx b1 [.int .i64 gm.nons, .int .i64 gm.toks, .slice Y gm.rules.length cy] 37, lss U d ls ps])
    ⟨Nat.zero_le _, rfl, rfl, H⟩ ?_
  rintro i f w4 N hag ⟨hi, hC, h10, H⟩ hN
  have f1 : f 1 = .slice X ws.length cx := hag 1 (by decide)
  have fw : f 41 = .slice U ls.length d := hag 41 (by decide)
  have fl : f 42 = .int .i64 ls.length := hag 42 (by decide)
  simp only [f1, fw, fl, hC, h10, go_sem, Nat.reduceEqDiff]
  have hI := nearI_lt (ws := ws) h4 hi
  by_cases hlt : i < ls.length
  case neg =>
    simp only [show ¬ ((i : Int) < ls.length) from by omega, decide_false, go_sem, Nat.reduceEqDiff]
    obtain rfl : i = ls.length := by omega
    exact hk _ _ _ H.gr ((H.lssi 1 rfl).own _ hI)
  simp only [show ((i : Int) < ls.length) from by omega, decide_true, go_sem, Nat.reduceEqDiff]
  have o := H.lssi 1 rfl
  have hb1 := hbA _ (rgt_mem hlt)
  have hb2 := hbA _ (rgt_mem hI)
  refine rdi (ixn48 (fun h => o.ptr h) hlt) (rdi (ld22 (o.cell hlt)) ?_)
  refine apart_c (hX.gr H.gr) ((o.own i hlt).ints) (by omega) hb1 fun w5 g5 => ?_
  have H := H.step g5
  have o := H.lssi 1 rfl
  refine apart_c (hX.gr H.gr) ((o.own _ hI).ints) (by omega) hb2 fun w6 g6 => ?_
  have H := H.step g6
  simp only [go_sem, Nat.reduceEqDiff]
  by_cases hd : edist ws (rgt ls i) < edist ws (rgt ls (nearI ws ls i))
  · simp only [hd, decide_true, go_sem, Nat.reduceEqDiff]
    rw [i64_of (by omega) (by omega)]
    exact hN _ _ hlt ⟨by omega, rfl, by rw [nearI, if_pos hd]; rfl, H⟩
  · simp only [hd, decide_false, go_sem, Nat.reduceEqDiff]
    rw [i64_of (by omega) (by omega)]
    exact hN _ _ hlt ⟨by omega, rfl, by rw [nearI, if_neg hd]; exact h10, H⟩
end Go.Proofs.Ytiohaeckagjebaa

/- Contracts: how long a word must be, by the reference and by the program. -/
set_option linter.unusedVariables false
set_option linter.unusedSimpArgs false
set_option maxRecDepth 100000
namespace Go.Sh
open Go
def mostN (rs : List RuleL) : Nat → Int
  | 0 => 2
  | i + 1 => if mostN rs i < (rul rs i).2.length then (rul rs i).2.length else mostN rs i
def powN (m : Int) : Nat → Int
  | 0 => 1
  | j + 1 => IntKind.i64.wrap (powN m j * m)
def longV (g : Gram) : Value :=
  if goodG g = true then
    if 1000 < IntKind.i64.wrap (powN (mostN g.rules g.rules.length) g.nons.toNat + 1) then .tuple #[.int .i64 0, .bool false]
    else .tuple #[.int .i64 (IntKind.i64.wrap (powN (mostN g.rules g.rules.length) g.nons.toNat + 1)), .bool true]
  else .tuple #[.int .i64 0, .bool false]
end Go.Sh
namespace Go.Proofs.Ytiohaeckagjebaa
open Go Go.Sh Go.RowKit

theorem l1Most_c {x y : Int} {w : World} {k : Value → World → Prop} (hk : k (.int .i64 (if x < y then y else x)) w) : CallK Try.prog 82 [.int .i64 x, .int .i64 y] k w := by
  refine enter82 ?_
  unfold S82
  simp only [go_sem, Nat.reduceEqDiff]
  by_cases h : y < x
  · simp only [h, decide_true, go_sem, Nat.reduceEqDiff]
    rwa [if_neg (by omega)] at hk
  · simp only [h, decide_false, go_sem, Nat.reduceEqDiff]
    by_cases h2 : x < y
    · rwa [if_pos h2] at hk
    · rw [if_neg h2] at hk
      have : x = y := by omega
      rwa [this] at hk
theorem specLongEnough_c {F : Nat → Prop} {w : World} {v : Value} {gm : Gram} (hv : GramV F w v gm) {k : Value → World → Prop} (hk : ∀ w', Gr w w' → k (longV gm) w') :
    CallK Try.prog 30 [v] k w := by
  have hv0 := hv
  obtain ⟨Y, c, rfl, hc, hy⟩ := hv
  refine enter30 ?_
  unfold S30
  refine do_box fun b w1 g1 hb1 hB => ?_
  rw [ldB_agg agg37 sz37 rfl hB]
  refine goodGrammar_c (gm := gm) ⟨Y, c, rfl, hc, hy.gr g1⟩ fun w2 g2 => ?_
  have g := gr_trans g1 g2
  cases hg : goodG gm
  · simp only [Bool.not_false, go_sem, Nat.reduceEqDiff]
    have := hk _ g
    rwa [show longV gm = .tuple #[.int .i64 0, .bool false] from by simp only [longV, hg]; rfl] at this
  simp only [Bool.not_true, go_sem, Nat.reduceEqDiff]
  have hB := hB.gr g2
  rw [ldB35 hB rfl]
  simp only [go_sem, Nat.reduceEqDiff]
  have hle := hy.le
  have hn : 0 ≤ gm.nons ∧ gm.nons ≤ 6 := by
    have h : inB gm.nons 1 6 = true := by
      simp only [goodG, Bool.and_eq_true] at hg
      exact hg.1.1.1
    have : 1 ≤ gm.nons ∧ gm.nons ≤ 6 := by simpa [inB] using h
    omega
  refine ⟨fun f w' => ∃ i : Nat, i ≤ gm.rules.length ∧ f 15 = .int .i64 i ∧ f 4 = .int .i64 (mostN gm.rules i) ∧ Gr w2 w', fun f _ => gm.rules.length - (intOf (f 15)).toNat, ⟨0, Nat.zero_le _, rfl, rfl, Gr.refl w2⟩, ?_⟩
  rintro f w3 hag ⟨i, hi, hsi, h4, g3⟩
  have f1 : f 1 = .pointer (some ⟨b, 0, none⟩) := hag 1 (by decide)
  have fs : f 13 = .slice Y gm.rules.length c := hag 13 (by decide)
  have fl : f 14 = .int .i64 gm.rules.length := hag 14 (by decide)
  simp only [f1, fs, fl, hsi, h4, go_sem, Nat.reduceEqDiff]
  have g' := gr_trans g g3
  by_cases hlt : i < gm.rules.length
  · have hlt' : (i : Int) < gm.rules.length := by omega
    simp only [hlt', decide_true, go_sem, Nat.reduceEqDiff]
    rw [ixn35 hy.ptr hlt]
    refine ld_rule agg77 sz77 (hy.gr g') hlt fun v hv => ?_
    obtain ⟨Z, d, rfl, hd, hz⟩ := hv
    refine do_alloc_of inf77 fun b3 w4 g4 hb3 h3 => ?_
    refine do_store sz77 rfl (by intro u hu; simp [Value.cells] at hu; rcases hu with rfl | rfl <;> rfl) h3 (by simp [Value.cells]) fun w5 g5 s5 h5 => ?_
    simp only [go_sem, Nat.reduceEqDiff]
    rw [ldB22 h5 rfl]
    simp only [go_sem, Nat.reduceEqDiff]
    refine l1Most_c ?_
    rw [i64_of (by omega) (by omega)]
    refine ⟨⟨i + 1, hlt, rfl, rfl, gr_put (gr_trans g3 g4) g5 (Nat.le_trans g3.size hb3)⟩, ?_⟩
    simp only [intOf]
    omega
  simp only [show ¬ (i : Int) < gm.rules.length from by omega, decide_false, go_sem, Nat.reduceEqDiff]
  obtain rfl : i = gm.rules.length := by omega
  obtain ⟨n, hnn⟩ := Int.eq_ofNat_of_zero_le hn.1
  refine ⟨fun f w' => ∃ j : Nat, j ≤ n ∧ f 8 = .int .i64 j ∧ f 7 = .int .i64 (powN (mostN gm.rules gm.rules.length) j) ∧ Gr w3 w', fun f _ => n - (intOf (f 8)).toNat, ⟨0, Nat.zero_le _, rfl, rfl, Gr.refl w3⟩, ?_⟩
  rintro f2 w4 hag2 ⟨j, hj, h8, h7, g4⟩
  have e1 : f2 1 = .pointer (some ⟨b, 0, none⟩) := (hag2 1 (by decide)).trans f1
  have e4 : f2 4 = .int .i64 (mostN gm.rules gm.rules.length) := (hag2 4 (by decide)).trans h4
  simp only [e1, e4, h7, h8, go_sem, Nat.reduceEqDiff]
  rw [ldB3 (hB.gr (gr_trans g3 g4)) rfl]
  simp only [go_sem, Nat.reduceEqDiff]
  rw [hnn]
  by_cases hlt : j < n
  · have hlt' : (j : Int) < ((n : Nat) : Int) := by omega
    simp only [hlt', decide_true, go_sem, Nat.reduceEqDiff]
    rw [i64_of (n := (j : Int) + 1) (by omega) (by omega)]
    refine ⟨⟨j + 1, hlt, rfl, rfl, g4⟩, ?_⟩
    simp only [intOf]
    omega
  simp only [show ¬ (j : Int) < ((n : Nat) : Int) from by omega, decide_false, go_sem, Nat.reduceEqDiff]
  obtain rfl : j = n := by omega
  have := hk _ (gr_trans g' g4)
  by_cases h9 : 1000 < IntKind.i64.wrap (powN (mostN gm.rules gm.rules.length) j + 1)
  · simp only [h9, decide_true, go_sem, Nat.reduceEqDiff]
    rwa [show longV gm = .tuple #[.int .i64 0, .bool false] from by simp only [longV, hg, hnn, Int.toNat_natCast, h9, if_true]] at this
  · simp only [h9, decide_false, go_sem, Nat.reduceEqDiff]
    rwa [show longV gm = .tuple #[.int .i64 (IntKind.i64.wrap (powN (mostN gm.rules gm.rules.length) j + 1)), .bool true] from by simp only [longV, hg, hnn, Int.toNat_natCast, h9, if_true, if_false]] at this
theorem implLongEnough_c {F : Nat → Prop} {w : World} {v : Value} {gm : Gram} (hv : GramV F w v gm) {k : Value → World → Prop} (hk : ∀ w', Gr w w' → k (longV gm) w') :
    CallK Try.prog 32 [v] k w := by
  have hv0 := hv
  obtain ⟨Y, c, rfl, hc, hy⟩ := hv
  refine enter32 ?_
  unfold S32
  refine do_box fun b w1 g1 hb1 hB => ?_
  rw [ldB_agg agg37 sz37 rfl hB]
  refine isGrammar_c (gm := gm) ⟨Y, c, rfl, hc, hy.gr g1⟩ fun w2 g2 => ?_
  have g := gr_trans g1 g2
  cases hg : goodG gm
  · simp only [Bool.not_false, go_sem, Nat.reduceEqDiff]
    have := hk _ g
    rwa [show longV gm = .tuple #[.int .i64 0, .bool false] from by simp only [longV, hg]; rfl] at this
  simp only [Bool.not_true, go_sem, Nat.reduceEqDiff]
  have hB := hB.gr g2
  rw [ldB35 hB rfl]
  simp only [go_sem, Nat.reduceEqDiff]
  have hle := hy.le
  have hn : 0 ≤ gm.nons ∧ gm.nons ≤ 6 := by
    have h : inB gm.nons 1 6 = true := by
      simp only [goodG, Bool.and_eq_true] at hg
      exact hg.1.1.1
    have : 1 ≤ gm.nons ∧ gm.nons ≤ 6 := by simpa [inB] using h
    omega
  refine ⟨fun f w' => ∃ i : Nat, i ≤ gm.rules.length ∧ f 14 = .int .i64 i ∧ f 4 = .int .i64 (mostN gm.rules i) ∧ Gr w2 w', fun f _ => gm.rules.length - (intOf (f 14)).toNat, ⟨0, Nat.zero_le _, rfl, rfl, Gr.refl w2⟩, ?_⟩
  rintro f w3 hag ⟨i, hi, hsi, h4, g3⟩
  have f1 : f 1 = .pointer (some ⟨b, 0, none⟩) := hag 1 (by decide)
  have fs : f 12 = .slice Y gm.rules.length c := hag 12 (by decide)
  have fl : f 13 = .int .i64 gm.rules.length := hag 13 (by decide)
  simp only [f1, fs, fl, hsi, h4, go_sem, Nat.reduceEqDiff]
  have g' := gr_trans g g3
  by_cases hlt : i < gm.rules.length
  · have hlt' : (i : Int) < gm.rules.length := by omega
    simp only [hlt', decide_true, go_sem, Nat.reduceEqDiff]
    rw [ixn35 hy.ptr hlt]
    refine ld_rule agg77 sz77 (hy.gr g') hlt fun v hv => ?_
    obtain ⟨Z, d, rfl, hd, hz⟩ := hv
    refine do_alloc_of inf77 fun b3 w4 g4 hb3 h3 => ?_
    refine do_store sz77 rfl (by intro u hu; simp [Value.cells] at hu; rcases hu with rfl | rfl <;> rfl) h3 (by simp [Value.cells]) fun w5 g5 s5 h5 => ?_
    simp only [go_sem, Nat.reduceEqDiff]
    rw [ldB22 h5 rfl]
    simp only [go_sem, Nat.reduceEqDiff]
    rw [max_int]
    rw [i64_of (by omega) (by omega)]
    refine ⟨⟨i + 1, hlt, rfl, rfl, gr_put (gr_trans g3 g4) g5 (Nat.le_trans g3.size hb3)⟩, ?_⟩
    simp only [intOf]
    omega
  simp only [show ¬ (i : Int) < gm.rules.length from by omega, decide_false, go_sem, Nat.reduceEqDiff]
  obtain rfl : i = gm.rules.length := by omega
  rw [ldB3 (hB.gr g3) rfl]
  obtain ⟨n, hnn⟩ := Int.eq_ofNat_of_zero_le hn.1
  rw [hnn]
  refine ⟨fun f w' => ∃ j : Nat, j ≤ n ∧ f 26 = .int .i64 j ∧ f 7 = .int .i64 (powN (mostN gm.rules gm.rules.length) j) ∧ Gr w3 w', fun f _ => n - (intOf (f 26)).toNat, ⟨0, Nat.zero_le _, rfl, rfl, Gr.refl w3⟩, ?_⟩
  rintro f2 w4 hag2 ⟨j, hj, h8, h7, g4⟩
  have e4 : f2 4 = .int .i64 (mostN gm.rules gm.rules.length) := (hag2 4 (by decide)).trans h4
  have e25 : f2 25 = .int .i64 ((n : Nat) : Int) := hag2 25 (by decide)
  simp only [e4, e25, h7, h8, go_sem, Nat.reduceEqDiff]
  by_cases hlt : j < n
  · have hlt' : (j : Int) < ((n : Nat) : Int) := by omega
    simp only [hlt', decide_true, go_sem, Nat.reduceEqDiff]
    rw [i64_of (n := (j : Int) + 1) (by omega) (by omega)]
    refine ⟨⟨j + 1, hlt, rfl, rfl, g4⟩, ?_⟩
    simp only [intOf]
    omega
  simp only [show ¬ (j : Int) < ((n : Nat) : Int) from by omega, decide_false, go_sem, Nat.reduceEqDiff]
  obtain rfl : j = n := by omega
  have := hk _ (gr_trans g' g4)
  by_cases h9 : 1000 < IntKind.i64.wrap (powN (mostN gm.rules gm.rules.length) j + 1)
  · simp only [h9, decide_true, go_sem, Nat.reduceEqDiff]
    rwa [show longV gm = .tuple #[.int .i64 0, .bool false] from by simp only [longV, hg, hnn, Int.toNat_natCast, h9, if_true]] at this
  · simp only [h9, decide_false, go_sem, Nat.reduceEqDiff]
    rwa [show longV gm = .tuple #[.int .i64 (IntKind.i64.wrap (powN (mostN gm.rules gm.rules.length) j + 1)), .bool true] from by simp only [longV, hg, hnn, Int.toNat_natCast, h9, if_true, if_false]] at this
end Go.Proofs.Ytiohaeckagjebaa

/- The law of LongEnough, over its contracts. -/
set_option linter.unusedVariables false
set_option linter.unusedSimpArgs false
set_option maxRecDepth 100000
namespace Go.Sh
open Go
theorem longV_two (g : Gram) : ∃ n b, longV g = .tuple #[.int .i64 n, .bool b] := by
  unfold longV
  split
  · split
    · exact ⟨_, _, rfl⟩
    · exact ⟨_, _, rfl⟩
  · exact ⟨_, _, rfl⟩
theorem left_neg {n : Int} {s : Nat} (h : left n s < 0) : left n s = -1 := by
  unfold left at h ⊢
  split at h
  · rw [if_pos (by assumption)]
  · omega
theorem left_ok {n : Int} {s : Nat} (h : ¬ left n s < 0) : (s : Int) ≤ n := by
  unfold left at h
  split at h <;> omega
end Go.Sh
namespace Go.Proofs.Ytiohaeckagjebaa
open Go Go.Sh Go.RowKit

theorem law_LongEnough {w : World} {v : Value} {gm : Gram} (hv : GramV (fun b => b < w.heap.size) w v gm) {k : Value → World → Prop} (hk : ∀ w', Gr w w' → k (.bool true) w') :
    CallK Try.prog 4 [v] k w := by
  obtain ⟨Y, c, rfl, hc, hy⟩ := hv
  refine enter4 ?_
  unfold S4
  refine do_box fun b w1 g1 hb1 hB => ?_
  rw [ldB_agg agg31 sz31 rfl hB]
  refine szGrammar_c (gm := gm) ⟨Y, c, rfl, hc, hy.gr g1⟩ (by decide) (by decide) fun w2 g2 => ?_
  have g := gr_trans g1 g2
  have hB := hB.gr g2
  simp only [go_sem, Nat.reduceEqDiff]
  by_cases hs : left 1048576 (sizeR gm.rules) < 0
  · simp only [hs, decide_true, go_sem, Nat.reduceEqDiff]
    exact hk _ g
  have hsz := left_ok hs
  simp only [hs, decide_false, go_sem, Nat.reduceEqDiff]
  rw [ldB_agg agg31 sz31 rfl hB]
  refine toGrammar_c (gm := gm) ⟨Y, c, rfl, hc, hy.gr g⟩ (by omega) fun v1 w3 g3 o1 => ?_
  have g := gr_trans g g3
  have hB := hB.gr g3
  refine specLongEnough_c o1.read fun w4 g4 => ?_
  have g := gr_trans g g4
  have hB := hB.gr g4
  obtain ⟨n, ok, e⟩ := longV_two gm
  rw [e]
  simp only [go_sem, Nat.reduceEqDiff]
  rw [ldB_agg agg31 sz31 rfl hB]
  refine toGrammar_c (gm := gm) ⟨Y, c, rfl, hc, hy.gr g⟩ (by omega) fun v2 w5 g5 o2 => ?_
  have g := gr_trans g g5
  have hB := hB.gr g5
  refine do_alloc_of inf37 fun b2 w6 g6 hb2 h2 => ?_
  have n2 := hB.ne hb2
  have hB := hB.gr g6
  have q2 := Nat.le_trans g.size hb2
  have g := gr_trans g g6
  obtain ⟨X2, c2, ps2, rfl, o2⟩ := o2
  refine do_store sz37 rfl (by intro u hu; simp [Value.cells] at hu; rcases hu with rfl | rfl | rfl <;> rfl) h2 (by simp [Value.cells]) fun w7 g7 s7 h2 => ?_
  have hB := hB.put g7 n2
  have o2 := o2.gr (gr_put g6 g7 hb2)
  have g := gr_put g g7 q2
  rw [ldB_agg agg37 sz37 rfl h2]
  have oc : ∀ w', Gr w7 w' → GramV (fun _ => True) w' (.agg #[.int .i64 gm.nons, .int .i64 gm.toks, .slice X2 gm.rules.length c2]) gm := fun w' g' => by
    obtain ⟨⟨cells, hr, hh⟩, hh2, hh3⟩ := o2
    exact ⟨X2, c2, rfl, (Row.cap hr).1, ((OwnR.read ⟨⟨cells, hr, hh⟩, hh2, hh3⟩).gr g').mono fun _ _ => trivial⟩
  refine implLongEnough_c (oc w7 (Gr.refl w7)) fun w8 g8 => ?_
  have g := gr_trans g g8
  have hB := hB.gr g8
  have h2 := h2.gr g8
  rw [e]
  simp only [go_sem, decide_true, Bool.not_true]
  rw [bin_neq_bool Try.underlying4]
  simp only [beq_self_eq_true, Bool.not_true, go_sem, Nat.reduceEqDiff]
  refine ⟨fun w' => Gr w8.drew w', Gr.refl _, ?_⟩
  have gd := gr_drew w8
  rw [rd_loadAgg agg37 sz37 (cs := [.int .i64 gm.nons, .int .i64 gm.toks, .slice X2 gm.rules.length c2]) rfl (fun w' hw' j hj => by
    rw [add_plain, Nat.zero_add, ((h2.gr gd).gr hw').cell]
    exact List.getElem?_eq_getElem hj)]
  rw [rd_loadAgg agg31 sz31 (cs := [.int .i64 gm.nons, .int .i64 gm.toks, .slice Y gm.rules.length c]) rfl (fun w' hw' j hj => by
    rw [add_plain, Nat.zero_add, ((hB.gr gd).gr hw').cell]
    exact List.getElem?_eq_getElem hj)]
  have gk := gr_trans g gd
  refine toGrammar_c (gm := gm) ⟨Y, c, rfl, hc, hy.gr gk⟩ (by omega) fun v3 w9 g9 o3 => ?_
  refine ⟨g9, ?_⟩
  refine eqGrammar_c (oc w9 (gr_trans g8 (gr_trans gd g9))) o3.read fun w10 g10 => ?_
  simp only [decide_true, Bool.not_true, go_sem, Nat.reduceEqDiff]
  exact hk _ (gr_trans gk (gr_trans g9 g10))
end Go.Proofs.Ytiohaeckagjebaa

/- The law of StarOf, over its contracts. -/
set_option linter.unusedVariables false
set_option linter.unusedSimpArgs false
set_option maxRecDepth 100000
namespace Go.Sh
open Go
def resG : Option Gram → Gram
  | some m => m
  | none => ⟨0, 0, []⟩
theorem GramR.own {w : World} {B : Nat} {v : Value} {o : Option Gram} (h : GramR w B v o) : GramO w B v (resG o) := by
  cases o with
  | some m => exact h
  | none => exact ⟨none, 0, fun _ => (none, 0), h, ⟨[], Row.nil _ _ _ _, fun j hj => by simp [resG] at hj⟩, fun j hj => by simp [resG] at hj, fun i j hi => by simp [resG] at hi⟩
theorem lens_small {rs : List RuleL} (h : ∀ i, i < rs.length → (rul rs i).2.length ≤ 4) : ∀ i, i ≤ rs.length → lens (rs.take i) ≤ 4 * i
  | 0, _ => by simp [lens]
  | i + 1, hi => by
    have := lens_small h i (by omega)
    have := h i (by omega)
    rw [lens_take (by omega)]
    omega
theorem good_size {g : Gram} (hg : goodG g = true) : sizeR g.rules ≤ 80 := by
  have h := lens_small (good_rule hg) g.rules.length (Nat.le_refl _)
  rw [List.take_length] at h
  have := good_len hg
  unfold sizeR
  omega
theorem madeV_size {first : List RuleL} {nons toks : Int} {gs : List Gram} : sizeR (resG (madeV first nons toks gs)).rules ≤ 80 := by
  unfold madeV
  split
  · exact good_size (by assumption)
  · simp [resG, sizeR, lens]
theorem starV_size {g : Gram} : sizeR (resG (starV g)).rules ≤ 80 := by
  unfold starV
  split
  · exact madeV_size
  · simp [resG, sizeR, lens]
end Go.Sh
namespace Go.Proofs.Ytiohaeckagjebaa
open Go Go.Sh Go.RowKit

theorem law_StarOf {w : World} {v : Value} {gm : Gram} (hv : GramV (fun b => b < w.heap.size) w v gm) {k : Value → World → Prop} (hk : ∀ w', Gr w w' → k (.bool true) w') :
    CallK Try.prog 5 [v] k w := by
  obtain ⟨Y, c, rfl, hc, hy⟩ := hv
  refine enter5 ?_
  unfold S5
  refine do_box fun b w1 g1 hb1 hB => ?_
  rw [ldB_agg agg31 sz31 rfl hB]
  refine szGrammar_c (gm := gm) ⟨Y, c, rfl, hc, hy.gr g1⟩ (by decide) (by decide) fun w2 g2 => ?_
  have g := gr_trans g1 g2
  have hB := hB.gr g2
  simp only [go_sem, Nat.reduceEqDiff]
  by_cases hs : left 1048576 (sizeR gm.rules) < 0
  · simp only [hs, decide_true, go_sem, Nat.reduceEqDiff]
    exact hk _ g
  have hsz := left_ok hs
  simp only [hs, decide_false, go_sem, Nat.reduceEqDiff]
  rw [ldB_agg agg31 sz31 rfl hB]
  refine toGrammar_c (gm := gm) ⟨Y, c, rfl, hc, hy.gr g⟩ (by omega) fun v1 w3 g3 o1 => ?_
  have g := gr_trans g g3
  have hB := hB.gr g3
  refine specStarOf_c o1.read (fun q hq => hq.2) fun vS w4 g4 rS => ?_
  have hB := hB.gr g4
  have gw3 := g
  have g := gr_trans g g4
  have oS := rS.own
  obtain ⟨XS, cS, psS, rfl, oS⟩ := oS
  simp only [go_sem, Nat.reduceEqDiff]
  refine do_alloc_of inf37 fun b14 w5 g5 hb5 h14 => ?_
  have n14 := hB.ne hb5
  refine do_store sz37 rfl (by intro u hu; simp [Value.cells] at hu; rcases hu with rfl | rfl | rfl <;> rfl) h14 (by simp [Value.cells]) fun w6 g6 s6 h14 => ?_
  have g46 := gr_put g5 g6 hb5
  have hB := hB.gr g46
  have oS := oS.gr g46
  have g := gr_trans g g46
  rw [ldB_agg agg31 sz31 rfl hB]
  refine toGrammar_c (gm := gm) ⟨Y, c, rfl, hc, hy.gr g⟩ (by omega) fun vC w7 g7 oC => ?_
  obtain ⟨XC, cC, psC, rfl, oC⟩ := oC
  have hB := hB.gr g7
  have h14 := h14.gr g7
  have oS7 := oS.gr g7
  have gw6 := g
  have g := gr_trans g g7
  refine do_alloc_of inf37 fun b20 w8 g8 hb8 h20 => ?_
  refine do_store sz37 rfl (by intro u hu; simp [Value.cells] at hu; rcases hu with rfl | rfl | rfl <;> rfl) h20 (by simp [Value.cells]) fun w9 g9 s9 h20 => ?_
  have g79 := gr_put g8 g9 hb8
  have hB := hB.gr g79
  have h14 := h14.gr g79
  have g := gr_trans g g79
  have oC9 := oC.gr g79
  rw [ldB_agg agg37 sz37 rfl h20]
  have vC9 : ∀ w', Gr w7 w' → GramV (fun _ => True) w' (.agg #[.int .i64 gm.nons, .int .i64 gm.toks, .slice XC gm.rules.length cC]) gm := fun w' g' => by
    obtain ⟨cells, hr, _⟩ := oC.cells
    exact ⟨XC, cC, rfl, (Row.cap hr).1, (oC.read.gr g').mono fun _ _ => trivial⟩
  refine implStarOf_c (vC9 w9 g79) fun vI w10 g10 rI => ?_
  have oI := rI.own
  obtain ⟨XI, cI, psI, rfl, oI⟩ := oI
  simp only [go_sem, Nat.reduceEqDiff]
  refine do_alloc_of inf37 fun b28 w11 g11 hb11 h28 => ?_
  refine do_store sz37 rfl (by intro u hu; simp [Value.cells] at hu; rcases hu with rfl | rfl | rfl <;> rfl) h28 (by simp [Value.cells]) fun w12 g12 s12 h28 => ?_
  have g1012 := gr_put g11 g12 hb11
  have g912 := gr_trans g10 g1012
  have hB := hB.gr g912
  have h14 := h14.gr g912
  have h20 := h20.gr g912
  have oI := oI.gr g1012
  have g := gr_trans g g912
  rw [ldB_agg agg37 sz37 rfl h28, ldB_agg agg37 sz37 rfl h14]
  have vS : ∀ w', Gr w6 w' → GramV (fun q => q < w6.heap.size) w' (.agg #[.int .i64 (resG (starV gm)).nons, .int .i64 (resG (starV gm)).toks, .slice XS (resG (starV gm)).rules.length cS]) (resG (starV gm)) := fun w' g' => by
    obtain ⟨cells, hr, _⟩ := oS.cells
    exact ⟨XS, cS, rfl, (Row.cap hr).1, (oS.read.gr g').mono fun _ h => h.2⟩
  have vI : ∀ w', Gr w12 w' → GramV (fun q => w9.heap.size ≤ q) w' (.agg #[.int .i64 (resG (starV gm)).nons, .int .i64 (resG (starV gm)).toks, .slice XI (resG (starV gm)).rules.length cI]) (resG (starV gm)) := fun w' g' => by
    obtain ⟨cells, hr, _⟩ := oI.cells
    exact ⟨XI, cI, rfl, (Row.cap hr).1, (oI.read.gr g').mono fun _ h => h.1⟩
  have g612 : Gr w6 w12 := gr_trans (gr_trans g7 g79) g912
  refine eqGrammar_c (vI w12 (Gr.refl _)) (vS w12 g612) fun w13 g13 => ?_
  simp only [decide_true, Bool.not_true, go_sem, Nat.reduceEqDiff]
  rw [bin_neq_bool Try.underlying4]
  simp only [beq_self_eq_true, Bool.not_true, go_sem, Nat.reduceEqDiff]
  have gd := gr_drew w13
  have h2013 := h20.gr g13
  have hB13 := hB.gr g13
  refine ⟨fun w' => Gr w13.drew w', Gr.refl _, ?_⟩
  rw [rd_loadAgg agg37 sz37 (cs := [.int .i64 gm.nons, .int .i64 gm.toks, .slice XC gm.rules.length cC]) rfl (fun w' hw' j hj => by
    rw [add_plain, Nat.zero_add, ((h2013.gr gd).gr hw').cell]
    exact List.getElem?_eq_getElem hj)]
  rw [rd_loadAgg agg31 sz31 (cs := [.int .i64 gm.nons, .int .i64 gm.toks, .slice Y gm.rules.length c]) rfl (fun w' hw' j hj => by
    rw [add_plain, Nat.zero_add, ((hB13.gr gd).gr hw').cell]
    exact List.getElem?_eq_getElem hj)]
  have g13d := gr_trans g13 gd
  refine toGrammar_c (gm := gm) ⟨Y, c, rfl, hc, hy.gr (gr_trans g g13d)⟩ (by omega) fun v3 w14 g14 o3 => ?_
  refine ⟨g14, ?_⟩
  have g1214 := gr_trans g13d g14
  refine eqGrammar_c (vC9 w14 (gr_trans g79 (gr_trans g912 g1214))) o3.read fun w15 g15 => ?_
  have g1215 := gr_trans g1214 g15
  simp only [decide_true, Bool.not_true, go_sem, Nat.reduceEqDiff]
  have hB := hB.gr g1215
  have h14 := h14.gr g1215
  have h20 := h20.gr g1215
  have h28 := h28.gr g1215
  have g := gr_trans g g1215
  rw [ldB_agg agg37 sz37 rfl h20]
  have s67 := g7.size
  have s79 := g79.size
  have sw6 := gw6.size
  have oC15 := oC.gr (gr_trans g79 (gr_trans g912 g1215))
  refine markGrammar_c (gm := gm) oC15 rfl (by decide) (by omega) fun w16 g16 oC16 => ?_
  have hB16 := hB.gx g16 (oC15.foot_box hB (by decide) (by decide))
  have h1416 := h14.gx g16 (oC15.foot_box h14 (by decide) (by decide))
  have h2816 := h28.gx g16 (oC15.foot_box h28 (by decide) (by decide))
  have vS16 := (vS w15 (gr_trans g612 g1215)).gx g16 fun q hq hf => by have := (oC.foot hf).1; omega
  have vI16 := (vI w15 g1215).gx g16 fun q hq hf => by have := (oC.foot hf).2; omega
  have gw16 : Gr w w16 := Gx.gr_after g g16 fun q hf => by have := (oC.foot hf).1; omega
  simp only [show ¬ ((1 : Int) + (sizeR gm.rules : Nat) < 0) from by omega, decide_false, go_sem, Nat.reduceEqDiff]
  rw [ldB_agg agg37 sz37 rfl h2816]
  simp only [go_sem, Nat.reduceEqDiff]
  rw [ldB_agg agg37 sz37 rfl h1416]
  simp only [go_sem, Nat.reduceEqDiff]
  refine eqGrammar_c vI16 vS16 fun w17 g17 => ?_
  simp only [decide_true, Bool.not_true, go_sem, Nat.reduceEqDiff]
  rw [bin_neq_bool Try.underlying4]
  simp only [beq_self_eq_true, Bool.not_true, go_sem, Nat.reduceEqDiff]
  rw [ldB_agg agg37 sz37 rfl (h2816.gr g17)]
  have hIs := @starV_size gm
  have oI17 := ((oI.gr g1215).gx g16 fun q h1 h2 hf => by have := (oC.foot hf).2; omega).gr g17
  refine markGrammar_c (gm := resG (starV gm)) oI17 rfl (by decide) (by omega) fun w18 g18 oI18 => ?_
  have hB18 := (hB16.gr g17).gx g18 (oI17.foot_box (hB16.gr g17) (by decide) (by decide))
  have h1418 := (h1416.gr g17).gx g18 (oI17.foot_box (h1416.gr g17) (by decide) (by decide))
  have h2818 := (h2816.gr g17).gx g18 (oI17.foot_box (h2816.gr g17) (by decide) (by decide))
  have vS18 := (vS16.gr g17).gx g18 fun q hq hf => by have := (oI.foot hf).1; omega
  have gw18 : Gr w w18 := Gx.gr_after (gr_trans gw16 g17) g18 fun q hf => by have := (oI.foot hf).1; omega
  have hml := markR_length 1 (resG (starV gm)).rules
  have vM : ∀ w', Gr w18 w' → GramV (fun _ => True) w' (.agg #[.int .i64 (resG (starV gm)).nons, .int .i64 (resG (starV gm)).toks, .slice XI (resG (starV gm)).rules.length cI]) ⟨(resG (starV gm)).nons, (resG (starV gm)).toks, markR 1 (resG (starV gm)).rules⟩ := fun w' g' => by
    obtain ⟨cells, hr, _⟩ := oI18.cells
    exact ⟨XI, cI, by rw [hml], (Row.cap hr).1, (oI18.read.gr g').mono fun _ _ => trivial⟩
  rw [ldB_agg agg37 sz37 rfl h2818]
  refine heldGrammar_c (gm := resG (starV gm)) (vM w18 (Gr.refl _)) (by decide) (by omega) fun w19 g19 => ?_
  simp only [show ¬ ((1 : Int) + (sizeR (resG (starV gm)).rules : Nat) < 0) from by omega, decide_false, decide_true, Bool.not_true, go_sem, Nat.reduceEqDiff]
  rw [ldB_agg agg31 sz31 rfl (hB18.gr g19)]
  have gw19 := gr_trans gw18 g19
  refine toGrammar_c (gm := gm) ⟨Y, c, rfl, hc, hy.gr gw19⟩ (by omega) fun v4 w20 g20 o20 => ?_
  refine implStarOf_c o20.read fun vJ w21 g21 rJ => ?_
  obtain ⟨XJ, cJ, psJ, rfl, oJ⟩ := rJ.own
  simp only [go_sem, Nat.reduceEqDiff]
  refine do_alloc_of inf37 fun b87 w22 g22 hb22 h87 => ?_
  refine do_store sz37 rfl (by intro u hu; simp [Value.cells] at hu; rcases hu with rfl | rfl | rfl <;> rfl) h87 (by simp [Value.cells]) fun w23 g23 s23 h87 => ?_
  have g2123 := gr_put g22 g23 hb22
  have g1823 := gr_trans g19 (gr_trans g20 (gr_trans g21 g2123))
  rw [ldB_agg agg37 sz37 rfl h87, ldB_agg agg37 sz37 rfl (h1418.gr g1823)]
  have vJ : GramV (fun _ => True) w23 (.agg #[.int .i64 (resG (starV gm)).nons, .int .i64 (resG (starV gm)).toks, .slice XJ (resG (starV gm)).rules.length cJ]) (resG (starV gm)) := by
    obtain ⟨cells, hr, _⟩ := oJ.cells
    exact ⟨XJ, cJ, rfl, (Row.cap hr).1, (oJ.read.gr g2123).mono fun _ _ => trivial⟩
  refine eqGrammar_c vJ (vS18.gr g1823) fun w24 g24 => ?_
  simp only [decide_true, Bool.not_true, go_sem, Nat.reduceEqDiff]
  rw [bin_neq_bool Try.underlying4]
  simp only [beq_self_eq_true, Bool.not_true, go_sem, Nat.reduceEqDiff]
  have g1824 := gr_trans g1823 g24
  rw [ldB_agg agg37 sz37 rfl (h2818.gr g1824)]
  refine heldGrammar_c (gm := resG (starV gm)) (vM w24 g1824) (by decide) (by omega) fun w25 g25 => ?_
  simp only [show ¬ ((1 : Int) + (sizeR (resG (starV gm)).rules : Nat) < 0) from by omega, decide_false, decide_true, Bool.not_true, go_sem, Nat.reduceEqDiff]
  exact hk _ (gr_trans gw18 (gr_trans g1824 g25))
end Go.Proofs.Ytiohaeckagjebaa

/- What the laws do with memory: copies, marks, looks, over things that lie apart. -/
set_option linter.unusedVariables false
set_option linter.unusedSimpArgs false
set_option maxRecDepth 100000
namespace Go.Sh
open Go
def total (ls : List (List Int)) : Nat := (ls.map List.length).sum
theorem total_snoc (ls : List (List Int)) (l : List Int) : total (ls ++ [l]) = total ls + l.length := by simp [total]
def markS (m : Int) : List (List Int) → List (List Int)
  | [] => []
  | l :: ls => marks m l.length :: markS (m + l.length) ls
theorem markS_length : ∀ (m : Int) (ls : List (List Int)), (markS m ls).length = ls.length
  | m, [] => rfl
  | m, l :: ls => by simp [markS, markS_length]
theorem markS_snoc : ∀ (m : Int) (ls : List (List Int)) (l : List Int), markS m (ls ++ [l]) = markS m ls ++ [marks (m + total ls) l.length]
  | m, [], l => by simp [markS, total]
  | m, x :: ls, l => by
    have e : m + (x.length : Int) + (total ls : Nat) = m + (total (x :: ls) : Nat) := by
      simp only [total, List.map_cons, List.sum_cons]
      omega
    simp only [List.cons_append, markS, markS_snoc, e]
theorem total_take_le (ls : List (List Int)) (i : Nat) : total (ls.take i) ≤ total ls := by
  have e : total ls = total (ls.take i) + total (ls.drop i) := by
    unfold total
    rw [← List.sum_append, ← List.map_append, List.take_append_drop]
  omega
theorem OwnSS.putAll {e1 e2 : Nat} {w w' : World} {B c i : Nat} {ys : List Int} {X : Option Addr} {ls : List (List Int)} {ps : Nat → Option Addr × Nat} (h : OwnSS e1 e2 w B X c ls ps) (he : e1 ≠ e2) (hi : i < ls.length) (hl : ys.length = (rgt ls i).length) (hr : Own e2 w' B (ps i).1 (ps i).2 ys) (g : w.grownBy w' (blk (ps i).1)) : OwnSS e1 e2 w' B X c (ls.set i ys) ps := by
  obtain ⟨⟨cells, hr0, hc⟩, ho, ht⟩ := h
  have hg : ∀ j, rgt (ls.set i ys) j = if j = i then ys else rgt ls j := fun j => by
    simp only [rgt, List.getD_eq_getElem?_getD, List.getElem?_set]
    by_cases hij : i = j
    · subst hij
      simp [hi]
    · rw [if_neg hij, if_neg (fun e => hij e.symm)]
  refine ⟨⟨cells, by rw [List.length_set]; exact Row.kept hr0 g (row_ne hr0 (ho i hi) he), fun j hj => ?_⟩, fun j hj => ?_, fun a b ha hb hab => ?_⟩
  · rw [List.length_set] at hj
    rw [hc j hj, hg j]
    by_cases hij : j = i
    · subst hij
      rw [if_pos rfl, hl]
    · rw [if_neg hij]
  · rw [List.length_set] at hj
    rw [hg j]
    by_cases hij : j = i
    · subst hij
      rw [if_pos rfl]
      exact hr
    · rw [if_neg hij]
      exact Row.kept (ho j hj) g (ht j i hj hi hij)
  · rw [List.length_set] at ha hb
    exact ht a b ha hb hab
theorem left_le {n : Int} {s : Nat} (h : 0 ≤ n) : left n s ≤ n := by
  unfold left
  split <;> omega
theorem Apt.setRules {w0 w w' : World} {L : List Thing} (H : Apt w0 w L) (i : Nat) {e1 e2 B c : Nat} {X : Option Addr} {rs rs' : List RuleL} {ps : Nat → Option Addr × Nat} (hi : L[i]? = some (rls e1 e2 X c rs ps)) (hl : rs'.length = rs.length) (g : Gx (Foot X ps rs.length) w w') (h : OwnR e1 e2 w' B X c rs' ps) : Apt w0 w' (L.set i (rls e1 e2 X c rs' ps)) :=
  H.set hi g (fun q hq => .inl (show Foot X ps rs.length q from hl ▸ (show Foot X ps rs'.length q from hq))) (fun q hq => (h.foot hq).2) (rls_kept h)
section
variable {P : Program} {S : WS} {k : Value → Prop}
theorem bin_lss_false {t : TypeId} {c : Bool} {kd : IntKind} {x y : Int} (h : ¬ x < y) : Rd P S (sBin .lss t c (.int kd x) (.int kd y)) k = k (.bool false) := by rw [bin_lss, decide_eq_false h]
theorem bin_gtr_false {t : TypeId} {c : Bool} {kd : IntKind} {x y : Int} (h : ¬ y < x) : Rd P S (sBin .gtr t c (.int kd x) (.int kd y)) k = k (.bool false) := by rw [bin_gtr, decide_eq_false h]
theorem bin_neqi_same {t : TypeId} {c : Bool} {kd : IntKind} {x : Int} : Rd P S (sBin .neq t c (.int kd x) (.int kd x)) k = k (.bool false) := by rw [bin_neq, decide_eq_true rfl]; rfl
end
end Go.Sh
namespace Go.Proofs.Ytiohaeckagjebaa
open Go Go.Sh Go.RowKit
theorem bin_neq_same {S : WS} {k : Value → Prop} {c x : Bool} : Rd Try.prog S (sBin .neq 4 c (.bool x) (.bool x)) k = k (.bool false) := by
  rw [bin_neq_bool Try.underlying4, beq_self_eq_true]
  rfl
theorem eqGrammar_same {F E : Nat → Prop} {w : World} {v u : Value} {a : Gram} (hv : GramV F w v a) (hu : GramV E w u a) {k : Value → World → Prop} (hk : ∀ w', Gr w w' → k (.bool true) w') : CallK Try.prog 33 [v, u] k w :=
  eqGrammar_c hv hu fun w' g => by
    rw [decide_eq_true rfl]
    exact hk w' g
theorem eqIntS_same {w : World} {X Y : Option Addr} {c d : Nat} {xs : List Int} (hx : Ints w X xs) (hy : Ints w Y xs) {k : Value → World → Prop} (hk : ∀ w', Gr w w' → k (.bool true) w') : CallK Try.prog 26 [.slice X xs.length c, .slice Y xs.length d] k w :=
  eqIntS_c hx hy fun w' g => by
    rw [decide_eq_true rfl]
    exact hk w' g
theorem eqIntSS_same {w : World} {X Y : Option Addr} {c d : Nat} {ls : List (List Int)} (hx : Intss w X ls) (hy : Intss w Y ls) {k : Value → World → Prop} (hk : ∀ w', Gr w w' → k (.bool true) w') : CallK Try.prog 46 [.slice X ls.length c, .slice Y ls.length d] k w := by
  refine enter46 ?_
  unfold S46
  have hle := hx.le
  simp only [decide_true, Bool.not_true, go_sem, Nat.reduceEqDiff]
  refine loop_to ls.length 0 (fun i f w' => i ≤ ls.length ∧ f 5 = .int .i64 i ∧ Gr w w') ⟨Nat.zero_le _, rfl, Gr.refl w⟩ ?_
  rintro i f w1 N hag ⟨hi, h5, g⟩ hN
  have f0 : f 0 = .slice X ls.length c := hag 0 (by decide)
  have f1 : f 1 = .slice Y ls.length d := hag 1 (by decide)
  simp only [f0, f1, h5, go_sem, Nat.reduceEqDiff]
  by_cases hlt : i < ls.length
  case neg =>
    simp only [show ¬ (i : Int) < ls.length from by omega, decide_false, go_sem, Nat.reduceEqDiff]
    exact hk _ g
  simp only [show (i : Int) < ls.length from by omega, decide_true, go_sem, Nat.reduceEqDiff]
  obtain ⟨U, cu, a1, a2, a3⟩ := hx.row i hlt
  obtain ⟨V, cv, b1, b2, b3⟩ := hy.row i hlt
  have gd := gr_trans g (gr_drew w1)
  rw [ixn48 hx.ptr hlt, ld22 (gd.cell a1), ixn48 hy.ptr hlt, ld22 (gd.cell b1)]
  refine eqIntS_same (a3.gr gd) (b3.gr gd) fun w2 g2 => ?_
  simp only [Bool.not_true, go_sem, Nat.reduceEqDiff]
  rw [i64_of (by omega) (by omega)]
  exact hN _ _ hlt ⟨hlt, rfl, gr_trans gd g2⟩
section
variable {k : Value → World → Prop} {w0 w : World} {L : List Thing}
theorem markH (H : Apt w0 w L) (i : Nat) {n c : Nat} {X : Option Addr} {xs : List Int} {m : Int} (hi : L[i]? = some (ows X c xs)) (hn : n = xs.length) (h0 : 0 ≤ m) (h1 : m + xs.length ≤ 9223372036854775807)
    (h : ∀ w', Apt w0 w' (L.set i (ows X c (marks m xs.length))) → k (.int .i64 (m + xs.length)) w') : CallK Try.prog 27 [.slice X n c, .int .i64 m] k w :=
  markIntS_c (H.own i hi) hn h0 h1 fun w' g o => h w' (H.set hi (gx_of g fun q hq => hq) (fun q hq => .inl hq) (fun q hq => (Row.ge o hq).2) (rwi_kept o))
theorem markSSH (H : Apt w0 w L) (i : Nat) {n c : Nat} {X : Option Addr} {ls : List (List Int)} {ps : Nat → Option Addr × Nat} {m : Int} (hi : L[i]? = some (lss X c ls ps)) (hn : n = ls.length) (h0 : 0 ≤ m) (h1 : m + total ls ≤ 9223372036854775807)
    (h : ∀ w', Apt w0 w' (L.set i (lss X c (markS m ls) ps)) → k (.int .i64 (m + total ls)) w') : CallK Try.prog 47 [.slice X n c, .int .i64 m] k w := by
  subst hn
  refine enter47 ?_
  unfold S47
  have hle := (H.lssi i hi).read.le
  have hil := get_lt hi
  refine loop_to ls.length 0 (fun j f w' => j ≤ ls.length ∧ f 5 = .int .i64 j ∧ f 1 = .int .i64 (m + total (ls.take j)) ∧ Apt w0 w' (L.set i (lss X c (markS m (ls.take j) ++ ls.drop j) ps)))
    ⟨Nat.zero_le _, rfl, by simp [total]; rfl, by simpa [markS, List.getElem?_eq_getElem hil, ← (List.getElem?_eq_some_iff.1 hi).2] using H⟩ ?_
  rintro j f w1 N hag ⟨hj, h5, hf1, H1⟩ hN
  have f0 : f 0 = .slice X ls.length c := hag 0 (by decide)
  simp only [f0, hf1, h5, go_sem, Nat.reduceEqDiff]
  by_cases hlt : j < ls.length
  case neg =>
    simp only [show ¬ (j : Int) < ls.length from by omega, decide_false, go_sem, Nat.reduceEqDiff]
    rw [List.take_of_length_le (by omega), List.drop_eq_nil_of_le (by omega), List.append_nil] at H1
    rw [List.take_of_length_le (by omega)]
    exact h _ H1
  simp only [show (j : Int) < ls.length from by omega, decide_true, go_sem, Nat.reduceEqDiff]
  have hget : (L.set i (lss X c (markS m (ls.take j) ++ ls.drop j) ps))[i]? = some (lss X c (markS m (ls.take j) ++ ls.drop j) ps) := by rw [List.getElem?_set_self hil]
  have o := H1.lssi i hget
  have hll : (markS m (ls.take j) ++ ls.drop j).length = ls.length := by
    rw [List.length_append, markS_length, List.length_take, List.length_drop]
    omega
  have hr : rgt (markS m (ls.take j) ++ ls.drop j) j = rgt ls j := by
    rw [rgt_right (by rw [markS_length, List.length_take]; omega), markS_length, List.length_take]
    simp [rgt, List.getD_eq_getElem?_getD, Nat.min_eq_left hj]
  have hj' : j < (markS m (ls.take j) ++ ls.drop j).length := by omega
  have htk := total_take_le ls (j + 1)
  rw [take_snoc_rgt hlt, total_snoc] at htk
  have hoj := o.own j hj'
  have hcj := o.cell hj'
  rw [hr] at hoj hcj
  rw [ixn48 (fun h => o.ptr (by omega)) hlt, ld22 hcj]
  refine markIntS_c hoj rfl (by omega) (by omega) fun w2 g2 o2 => ?_
  rw [i64_of (n := (j : Int) + 1) (by omega) (by omega)]
  have o' := o.putAll (by decide) hj' (by rw [marks_length, hr]) o2 g2
  have H2 := H1.set hget (gx_of g2 fun q hq => .inr ⟨j, hj', hq⟩) (it' := lss X c _ ps) (fun q hq => .inl (by
    rcases hq with hq | ⟨l, hl, hq⟩
    · exact .inl hq
    · rw [List.length_set] at hl
      exact .inr ⟨l, hl, hq⟩)) (fun q hq => (o'.foot hq).2) (lssi_kept o')
  have e : (markS m (ls.take j) ++ ls.drop j).set j (marks (m + total (ls.take j)) (rgt ls j).length) = markS m (ls.take (j + 1)) ++ ls.drop (j + 1) := by
    rw [take_snoc_rgt hlt, markS_snoc, List.set_append_right _ _ (by rw [markS_length, List.length_take]; omega), markS_length, List.length_take, Nat.min_eq_left hj, Nat.sub_self, List.drop_eq_getElem_cons hlt, List.set_cons_zero, List.append_assoc]
    rfl
  rw [e, List.set_set] at H2
  refine hN _ _ hlt ⟨hlt, rfl, ?_, H2⟩
  rw [take_snoc_rgt hlt, total_snoc]
  show Value.int .i64 _ = _
  congr 1
  omega
theorem heldIntSS_c {X : Option Addr} {c n : Nat} {ls : List (List Int)} {m : Int} (hx : Intss w X (markS m ls)) (hn : n = ls.length) (h0 : 0 ≤ m) (h1 : m + total ls ≤ 9223372036854775807) (hk : ∀ w', Gr w w' → k (.int .i64 (m + total ls)) w') :
    CallK Try.prog 48 [.slice X n c, .int .i64 m] k w := by
  subst hn
  refine enter48 ?_
  unfold S48
  have hle := hx.le
  have hml := markS_length m ls
  refine loop_to ls.length 0 (fun j f w' => j ≤ ls.length ∧ f 5 = .int .i64 j ∧ f 1 = .int .i64 (m + total (ls.take j)) ∧ Gr w w') ⟨Nat.zero_le _, rfl, by simp [total]; rfl, Gr.refl w⟩ ?_
  rintro j f w1 N hag ⟨hj, h5, hf1, g⟩ hN
  have f0 : f 0 = .slice X ls.length c := hag 0 (by decide)
  simp only [f0, hf1, h5, go_sem, Nat.reduceEqDiff]
  by_cases hlt : j < ls.length
  case neg =>
    simp only [show ¬ (j : Int) < ls.length from by omega, decide_false, go_sem, Nat.reduceEqDiff]
    rw [List.take_of_length_le (by omega)]
    exact hk _ g
  simp only [show (j : Int) < ls.length from by omega, decide_true, go_sem, Nat.reduceEqDiff]
  have hr : rgt (markS m ls) j = marks (m + total (ls.take j)) (rgt ls j).length := by
    have e : ls = ls.take j ++ ([rgt ls j] ++ ls.drop (j + 1)) := by
      rw [← List.append_assoc, ← take_snoc_rgt hlt, List.take_append_drop]
    have key : ∀ (us bs : List (List Int)) (m : Int), markS m (us ++ bs) = markS m us ++ markS (m + total us) bs := by
      intro us
      induction us with
      | nil => intro bs m; simp [markS, total]
      | cons a us ih =>
        intro bs m
        have e : m + (a.length : Int) + (total us : Nat) = m + (total (a :: us) : Nat) := by
          simp only [total, List.map_cons, List.sum_cons]
          omega
        simp only [List.cons_append, markS, ih, e]
    generalize hq : rgt ls j = q at e
    have e' : markS m ls = markS m (ls.take j) ++ markS (m + total (ls.take j)) ([q] ++ ls.drop (j + 1)) := by rw [← key, ← e]
    rw [e', rgt_right (by rw [markS_length, List.length_take]; omega), markS_length, List.length_take]
    rw [show j - min j ls.length = 0 from by omega]
    rfl
  obtain ⟨U, cu, a1, a2, a3⟩ := hx.row j (by omega)
  rw [hr] at a1 a2 a3
  rw [marks_length] at a1 a2
  have htk := total_take_le ls (j + 1)
  rw [take_snoc_rgt hlt, total_snoc] at htk
  rw [ixn48 (fun h => hx.ptr (by omega)) hlt, ld22 (g.cell a1)]
  refine heldIntS_c (a3.gr g) rfl (by omega) (by omega) fun w2 g2 => ?_
  simp only [go_sem, Nat.reduceEqDiff]
  simp only [show ¬ (m + total (ls.take j) + (rgt ls j).length < 0) from by omega, decide_false, go_sem, Nat.reduceEqDiff]
  rw [i64_of (n := (j : Int) + 1) (by omega) (by omega)]
  refine hN _ _ hlt ⟨hlt, rfl, ?_, gr_trans g g2⟩
  rw [take_snoc_rgt hlt, total_snoc]
  show Value.int .i64 _ = _
  congr 1
  omega
end
end Go.Proofs.Ytiohaeckagjebaa

/- The laws of NearWord, over their contracts. -/
set_option linter.unusedVariables false
set_option linter.unusedSimpArgs false
set_option maxRecDepth 100000
namespace Go.Proofs.Ytiohaeckagjebaa
open Go Go.Sh Go.RowKit

set_option maxHeartbeats 2000000 in
theorem law_NearWord {w : World} {v0 : Value} {g0 : Gram} {X1 : Option Addr} {c1 : Nat} {xs1 : List Int} {a2 : Int} (hv0 : GramV (fun q => q < w.heap.size) w v0 g0) (hx1 : Ints w X1 xs1) (hc1 : xs1.length ≤ c1) {k : Value → World → Prop} (hk : ∀ w', Gr w w' → k (.bool true) w') :
    CallK Try.prog 19 [v0, .slice X1 xs1.length c1, .int .i64 a2] k w := by
  obtain ⟨Y0, d0, rfl, hd0, hy0⟩ := hv0
  refine enter19 ?_
  unfold S19
  have H := Apt.nil w
  refine boxH H fun b0 w1 H => ?_
  refine rdi len22 (rdi bin_gtr ?_)
  refine cond_split (fun _ => hk _ H.gr) fun h => ?_
  have hL1 : xs1.length ≤ 1048576 := by have := of_decide_eq_false h; omega
  refine rdi (ldB_agg agg31 sz31 rfl (H.box 0 rfl)) ?_
  refine szGrammar_c (gm := g0) ⟨Y0, d0, rfl, hd0, hy0.gr H.gr⟩ (by omega) (by omega) fun w2 g => ?_
  have H := H.step g
  refine rdi bin_lss ?_
  refine cond_split (fun _ => hk _ H.gr) fun h => ?_
  have hz0 := left_ok (of_decide_eq_false h)
  have hle0 := left_le (n := 1048576) (s := sizeR g0.rules) (by omega)
  have hp0 := of_decide_eq_false h
  have hlV : (nearV g0 xs1 a2).1.length ≤ 1000000 := nearV_len _ _ _
  refine rdi (ldB_agg agg31 sz31 rfl (H.box 0 rfl)) ?_
  refine toGrammar_c (gm := g0) ⟨Y0, d0, rfl, hd0, hy0.gr H.gr⟩ (by omega) fun v w3 g oc => ?_
  obtain ⟨XC, cC, psC, rfl, oc⟩ := oc
  have H := H.addRules g oc
  refine toIntS_c (hx1.gr H.gr) rfl (by omega) fun XC cC w4 g oc => ?_
  have H := H.addOwn g oc
  simp only [List.nil_append, List.cons_append, List.set_cons_zero, List.set_cons_succ] at H
  refine specNearWord_c (rls_gramV (gm := g0) (H.rules 1 rfl)) (H.ints 2 rfl) rfl fun w5 U dU g oU => ?_
  have H := H.addOwn g oU
  refine rdi extract_two_0 (rdi extract_two_1 ?_)
  simp only [List.nil_append, List.cons_append, List.set_cons_zero, List.set_cons_succ] at H
  refine rdi (ldB_agg agg31 sz31 rfl (H.box 0 rfl)) ?_
  refine toGrammar_c (gm := g0) ⟨Y0, d0, rfl, hd0, hy0.gr H.gr⟩ (by omega) fun v w6 g oc => ?_
  obtain ⟨XC, cC, psC, rfl, oc⟩ := oc
  have H := H.addRules g oc
  refine allocH H inf37 fun bx0 w7 H => ?_
  refine storeH H 5 rfl sz37 rfl rfl rfl fun w8 H => ?_
  simp only [List.nil_append, List.cons_append, List.set_cons_zero, List.set_cons_succ] at H
  refine toIntS_c (hx1.gr H.gr) rfl (by omega) fun XC cC w9 g oc => ?_
  have H := H.addOwn g oc
  simp only [List.nil_append, List.cons_append, List.set_cons_zero, List.set_cons_succ] at H
  refine rdi (ldB_agg agg37 sz37 rfl (H.box 5 rfl)) ?_
  refine implNearWord_c (rls_gramV (gm := g0) (H.rules 4 rfl)) (H.ints 6 rfl) rfl fun w10 U dU g oU => ?_
  have H := H.addOwn g oU
  refine rdi extract_two_0 (rdi extract_two_1 ?_)
  simp only [List.nil_append, List.cons_append, List.set_cons_zero, List.set_cons_succ] at H
  refine eqIntS_same (H.ints 7 rfl) (H.ints 3 rfl) fun w11 g => ?_
  have H := H.step g
  refine rdi un_not (rdi guard_ff (rdi guard_ff (rdi guard_ff (rdi bin_neq_same (rdi pick_false (rdi cond_false' ?_))))))
  have H := H.drew
  refine ⟨fun w' => Gr w11.drew w', Gr.refl _, ?_⟩
  refine rdi (rdG_agg agg37 sz37 rfl (H.box 5 rfl)) (rdi (rdG_agg agg31 sz31 rfl (H.box 0 rfl)) ?_)
  refine toGrammar_c (gm := g0) ⟨Y0, d0, rfl, hd0, hy0.gr H.gr⟩ (by omega) fun v w12 g oc => ?_
  refine ⟨g, ?_⟩
  have H := H.step g
  refine eqGrammar_same (rls_gramV (gm := g0) (H.rules 4 rfl)) oc.read fun w13 g => ?_
  have H := H.step g
  refine rdi un_not (rdi cond_false' ?_)
  refine toIntS_c (hx1.gr H.gr) rfl (by omega) fun XC cC w14 g oc => ?_
  have H := H.step g
  refine eqIntS_same (H.ints 6 rfl) (Own.ints oc) fun w15 g => ?_
  have H := H.step g
  refine rdi un_not (rdi cond_false' ?_)
  refine rdi (ldB_agg agg37 sz37 rfl (H.box 5 rfl)) ?_
  refine markGrammar_c (gm := g0) (H.rules 4 rfl) rfl (by omega) (by omega) fun w16 g om => ?_
  have H := H.setRules 4 rfl (markR_length _ g0.rules) g om
  simp only [List.nil_append, List.cons_append, List.set_cons_zero, List.set_cons_succ] at H
  refine markH H 6 rfl rfl (by omega) (by omega) fun w17 H => ?_
  simp only [List.nil_append, List.cons_append, List.set_cons_zero, List.set_cons_succ] at H
  refine rdi (bin_lss_false (by omega)) (rdi guard_ff (rdi guard_ff (rdi guard_ff ?_)))
  refine eqIntS_same (H.ints 7 rfl) (H.ints 3 rfl) fun w18 g => ?_
  have H := H.step g
  refine rdi guard_ff (rdi un_not (rdi pick_false (rdi guard_ff (rdi guard_ff (rdi guard_ff (rdi bin_neq_same (rdi pick_false (rdi cond_false' ?_))))))))
  refine markH H 7 rfl rfl (by omega) (by omega) fun w19 H => ?_
  simp only [List.nil_append, List.cons_append, List.set_cons_zero, List.set_cons_succ] at H
  refine heldIntS_c (H.ints 7 rfl) rfl (by omega) (by omega) fun w20 g => ?_
  have H := H.step g
  refine rdi (bin_lss_false (by omega)) (rdi cond_false' (rdi bin_neqi_same (rdi cond_false' ?_)))
  refine rdi (ldB_agg agg31 sz31 rfl (H.box 0 rfl)) ?_
  refine toGrammar_c (gm := g0) ⟨Y0, d0, rfl, hd0, hy0.gr H.gr⟩ (by omega) fun v w21 g oc => ?_
  obtain ⟨XC, cC, psC, rfl, oc⟩ := oc
  have H := H.addRules g oc
  refine toIntS_c (hx1.gr H.gr) rfl (by omega) fun XC cC w22 g oc => ?_
  have H := H.addOwn g oc
  simp only [List.nil_append, List.cons_append, List.set_cons_zero, List.set_cons_succ] at H
  refine implNearWord_c (rls_gramV (gm := g0) (H.rules 8 rfl)) (H.ints 9 rfl) rfl fun w23 U dU g oU => ?_
  have H := H.addOwn g oU
  refine rdi extract_two_0 (rdi extract_two_1 ?_)
  simp only [List.nil_append, List.cons_append, List.set_cons_zero, List.set_cons_succ] at H
  refine eqIntS_same (H.ints 10 rfl) (H.ints 3 rfl) fun w24 g => ?_
  have H := H.step g
  refine rdi un_not (rdi guard_ff (rdi guard_ff (rdi guard_ff (rdi bin_neq_same (rdi pick_false (rdi cond_false' ?_))))))
  refine heldIntS_c (H.ints 7 rfl) rfl (by omega) (by omega) fun w25 g => ?_
  have H := H.step g
  refine rdi (bin_lss_false (by omega)) (rdi cond_false' (rdi bin_neqi_same (rdi cond_false' ?_)))
  exact hk _ H.gr
end Go.Proofs.Ytiohaeckagjebaa

/- From the reading of arguments to what the contracts ask. -/
set_option linter.unusedVariables false
set_option linter.unusedSimpArgs false
set_option maxRecDepth 100000
namespace Go.Sh
open Go Go.ChangeShapes Go.WideShapes Go.ChangeAt Go.RowKit
theorem below_of_gr {w w' : World} (g : Gr w w') : Below w.heap.size w w' := ⟨g.os, g.tape, g.output, g.size, fun k hk => g.block k hk (by simp)⟩
/-- A law's walk, as its row asks for it. -/
theorem walk_of {P : Program} {g : FuncId} {args : List Value} {w : World} (h : ∀ k : Value → World → Prop, (∀ w', Gr w w' → k (.bool true) w') → CallK P g args k w) :
    Calls P g args.toArray w fun e w' => e = .returned (.bool true) ∧ Below w.heap.size w w' :=
  (h (fun v w' => v = .bool true ∧ Gr w w') (fun w' g => ⟨rfl, g⟩)).2.mono fun e w' he => by
    cases e with
    | returned v => exact ⟨by rw [he.1], below_of_gr he.2⟩
    | panicked c => exact he.elim
    | outgrown => exact he.elim

section
variable {H : Type} {enc : TypeId × Value → H} {P : Program} {w : World} {base : Nat} {spare : Nat → Bool} {held : Bool}
theorem cells_one {v u : Value} (h : v.cells.toList = [u]) (hv : ∀ cs, v ≠ .agg cs) : v = u := by
  cases v <;> simp [Value.cells] at h <;> first | exact h | exact absurd rfl (hv _)
theorem read_ints {t e : TypeId} (ht : P.underlying t = some (.slice e)) (he : P.underlying e = some (.int .i64)) (hc : P.cellsOf e = 1) {fuel : Nat} {cs : List Value} {x : DataW H × List MemPlace}
    (h : DataW.trod enc P w base spare held fuel t cs = some x) : ∃ X n c xs, cs = [.slice X n c] ∧ n = xs.length ∧ n ≤ c ∧ Ints w X xs := by
  rcases open_ints ht he hc h with ⟨hcs, _⟩ | ⟨a, l, c, zs, hcs, _, hl, hm, hz, _, hcell, hwz⟩
  · exact ⟨none, 0, 0, [], hcs, rfl, Nat.le_refl _, by simp, fun h => by simp at h, fun j hj => by simp at hj⟩
  · have hzl : l ≤ zs.length := by rw [hz]; split <;> omega
    refine ⟨some a, l, c, zs.take l, hcs, by simp; omega, hl, ?_, fun _ => rfl, fun j hj => ?_⟩
    · unfold maxLen at hm
      simp
      omega
    · have hj' : j < l ∧ j < zs.length := by simp at hj; omega
      rw [show (ad (some a)).add j = a.add j from rfl, hcell j hj'.2]
      simp [List.getD_eq_getElem?_getD, List.getElem?_take, hj'.1]
theorem trod_ints {t e : TypeId} {v : Value} {d : DataW H} {p : List MemPlace} (ht : P.underlying t = some (.slice e)) (he : P.underlying e = some (.int .i64)) (hc : P.cellsOf e = 1)
    (h : DataW.Trod enc P w base spare held t v d p) : ∃ X n c xs, v.cells.toList = [.slice X n c] ∧ n = xs.length ∧ n ≤ c ∧ Ints w X xs := by
  obtain ⟨fuel, hf⟩ := h
  exact read_ints ht he hc hf
end
end Go.Sh

/- From the reading of a grammar among the arguments to what the contracts ask. -/
set_option linter.unusedVariables false
set_option linter.unusedSimpArgs false
set_option maxRecDepth 100000
namespace Go.Sh
open Go Go.ChangeShapes Go.WideShapes Go.ChangeAt Go.RowKit Go.Deep
section
variable {H : Type} {enc : TypeId × Value → H} {P : Program} {w : World} {base : Nat} {spare : Nat → Bool} {held : Bool}
theorem read_rules {t e ti : TypeId} {f0 f1 : Field} (ht : P.underlying t = some (.slice e)) (he : P.underlying e = some (.struct #[f0, f1])) (ce : P.cellsOf e = 2) (o0 : f0.offset = 0) (o1 : f1.offset = 1) (c0 : P.cellsOf f0.type = 1) (c1 : P.cellsOf f1.type = 1)
    (h0 : P.underlying f0.type = some (.int .i64)) (h1 : P.underlying f1.type = some (.slice ti)) (hti : P.underlying ti = some (.int .i64)) (hci : P.cellsOf ti = 1) {fuel : Nat} {cs : List Value} {x : DataW H × List MemPlace}
    (h : DataW.trod enc P w base spare held fuel t cs = some x) : ∃ X c rs, cs = [.slice X (List.length rs) c] ∧ rs.length ≤ c ∧ RulesF (fun b => b < w.heap.size) w X rs := by
  rcases open_slice_pairs ht he ce o0 o1 c0 c1 h with ⟨hcs, _⟩ | ⟨a, len, cap, m, n, V0, V1, D0, D1, P0, P1, rfl, hb, hl, hm, hmm, _, hx⟩
  · exact ⟨none, 0, [], hcs, Nat.le_refl _, by simp, fun h => by simp at h, fun h => by simp at h, fun j hj => by simp at hj⟩
  have hlm : len ≤ m := by rw [hmm]; split <;> omega
  have each : ∀ i, i < len → ∃ q : RuleL × Option Addr × Nat, V0 i = .int .i64 q.1.1 ∧ V1 i = .slice q.2.1 q.1.2.length q.2.2 ∧ q.1.2.length ≤ q.2.2 ∧ Ints w q.2.1 q.1.2 := fun i hi => by
    obtain ⟨_, _, t0, t1⟩ := hx i (by omega)
    obtain ⟨k, hk, _, _⟩ := DataW.trod_int h0 t0
    obtain ⟨X, n, c, xs, hcs, rfl, hn, hix⟩ := read_ints h1 hti hci t1
    simp only [List.cons.injEq, and_true] at hk hcs
    exact ⟨((k, xs), X, c), hk, hcs, hn, hix⟩
  obtain ⟨q, hq⟩ := choose_lt each
  have hr : ∀ j, j < len → rul ((List.range len).map fun i => (q i).1) j = (q j).1 := fun j hj => by
    rw [rul_eq (by simpa using hj)]
    simp
  refine ⟨some a, cap, (List.range len).map fun i => (q i).1, by simp, by simpa using hl, by unfold maxLen at hm; simp; omega, fun _ => rfl, fun hp => ?_, fun j hj => ?_⟩
  · have := lt_of_cell (hx 0 (by simp at hp; omega)).1
    rwa [add_block] at this
  · have hj' : j < len := by simpa using hj
    rw [hr j hj']
    obtain ⟨e0, e1, _, _⟩ := hx j (by omega)
    obtain ⟨q0, q1, q2, q3⟩ := hq j hj'
    exact ⟨_, _, e0.trans (by rw [q0]), e1.trans (by rw [q1]), q2, IntsF.of_ints q3⟩
end
end Go.Sh
namespace Go.Proofs.Ytiohaeckagjebaa
open Go Go.Sh Go.ChangeShapes Go.WideShapes Go.ChangeAt Go.RowKit Go.Deep
theorem cells3 : Try.prog.cellsOf 3 = 1 := by kernel_rfl
theorem cells22 : Try.prog.cellsOf 22 = 1 := by kernel_rfl
theorem cells29 : Try.prog.cellsOf 29 = 1 := by kernel_rfl
theorem cells148 : Try.prog.cellsOf 148 = 2 := by kernel_rfl
theorem read_gram {H : Type} {enc : TypeId × Value → H} {w : World} {base b0 : Nat} {spare : Nat → Bool} {held : Bool} {r : Reach} {v : Value} {d : DataW H} {p : List MemPlace} (hval : Value.okWide Try.prog w r b0 31 v)
    (h : DataW.Trod enc Try.prog w base spare held 31 v d p) : ∃ g, GramV (fun b => b < w.heap.size) w v g := by
  obtain ⟨cs, rfl, hsz⟩ := okWide_struct Try.underlying31 hval
  obtain ⟨fuel, hf⟩ := h
  obtain ⟨y0, y1, y2, n, _, hl, t0, t1, t2⟩ := trod_struct3 Try.underlying31 hf
  have hc3 : Try.prog.cellsOf 31 = 3 := by kernel_rfl
  rw [hc3] at hl hsz
  obtain ⟨l⟩ := cs
  match l, hsz with
  | [u0, u1, u2], _ =>
    have ec : (Value.agg #[u0, u1, u2]).cells.toList = [u0, u1, u2] := rfl
    simp only [ec, cells3, cells29, List.drop, List.take] at t0 t1 t2
    obtain ⟨k0, e0, _, _⟩ := DataW.trod_int Try.underlying3 t0
    obtain ⟨k1, e1, _, _⟩ := DataW.trod_int Try.underlying3 t1
    obtain ⟨X, c, rs, e2, hc, hr⟩ := read_rules Try.underlying29 Try.underlying148 cells148 rfl rfl cells3 cells22 Try.underlying3 Try.underlying22 Try.underlying3 cells3 t2
    simp only [List.cons.injEq, and_true] at e0 e1 e2
    subst e0 e1 e2
    exact ⟨⟨k0, k1, rs⟩, X, c, rfl, hc, hr⟩
end Go.Proofs.Ytiohaeckagjebaa
