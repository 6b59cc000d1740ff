/- Texts of this repository put together: ShW1, ShUA, ShI2, ShW0, ShW2, ShW3, ShMB, ShI3, ShIO. -/
import Derived.Test.YtegcjkhebecgbaaKMende
import Derived.Test.YtegcjkhebecgbaaKMendd
import Derived.Test.YtegcjkhebecgbaaKMenda
import Derived.Shelf.Spec.SlicesInsert
import Derived.Shelf.Spec.SlicesInsertGrow
import Derived.Shelf.Slices.Delete
import Derived.Test.YtegcjkhebecgbaaKMendb
import Derived.Test.YtegcjkhebecgbaaRows
import Derived.JoinedOf
import Derived.KernelRfl

/- Contract: one change of a word, by the reference. -/
set_option linter.unusedVariables false
set_option linter.unusedSimpArgs false
set_option maxRecDepth 100000
namespace Go.Sh
open Go
theorem initF_1 (a b : Value) (l : List Value) : initF (a :: b :: l) 1 = b := rfl
theorem initF_2 (a b c : Value) (l : List Value) : initF (a :: b :: c :: l) 2 = c := rfl
theorem initF_3 (a b c d : Value) (l : List Value) : initF (a :: b :: c :: d :: l) 3 = d := rfl
theorem inB_dec (n lo hi : Int) : inB n lo hi = decide (lo ≤ n ∧ n ≤ hi) := by simp [inB, Bool.decide_and]
def ChgOk (gm : Gram) (ws : List Int) (kd pt tok : Int) : Prop := goodG gm = true ∧ wordB gm.toks ws = true ∧ ws.length ≤ 8 ∧ (0 ≤ tok ∧ tok ≤ gm.toks - 1) ∧ (0 ≤ pt ∧ pt ≤ ws.length) ∧ ((kd = 0 ∧ tok = 0 ∧ pt < ws.length) ∨ (kd = 1 ∧ ws.length < 8) ∨ (kd = 2 ∧ pt < ws.length))
def chgL (ws : List Int) (kd : Int) (p : Nat) (tok : Int) : List Int := ws.take p ++ ((if 0 < kd then [tok] else []) ++ (if kd = 1 then ws.drop p else ws.drop (p + 1)))
open Classical in
noncomputable def changeV (gm : Gram) (ws : List Int) (kd pt tok : Int) : List Int × Bool := if ChgOk gm ws kd pt tok then (chgL ws kd pt.toNat tok, true) else ([], false)
end Go.Sh
namespace Go.Proofs.Ytegcjkhebecgbaa
open Go Go.Sh Go.RowKit
theorem specChangeWord_c {F : Nat → Prop} {w : World} {v : Value} {gm : Gram} {kd pt tok : Int} {X : Option Addr} {n cx : Nat} {ws : List Int} (hv : GramV F w v gm) (hX : Ints w X ws) (hn : n = ws.length) (hcx : ws.length ≤ cx) {k : Value → World → Prop}
    (hk : ∀ w' U d, Gr w w' → Own 3 w' w.heap.size U d (changeV gm ws kd pt tok).1 → k (.tuple #[.slice U (changeV gm ws kd pt tok).1.length d, .bool (changeV gm ws kd pt tok).2]) w') :
    CallK Try.prog 97 [v, .slice X n cx, .int .i64 kd, .int .i64 pt, .int .i64 tok] k w := by
  subst hn
  obtain ⟨Y, cy, rfl, hc, hy⟩ := hv
  refine enter97 ?_
  unfold S97
  have H := Apt.nil w
  refine boxH H fun b1 w1 H => ?_
  refine rdi (ldB_agg agg26 sz26 rfl (H.box 0 rfl)) ?_
  have no : ¬ ChgOk gm ws kd pt tok → ∀ w', Gr w w' → k (.tuple #[.slice none 0 0, .bool false]) w' := fun h w' g => by
    rw [changeV, if_neg h] at hk
    exact hk w' none 0 g (Row.nil _ _ _ _)
  refine l17Word_c (gm := gm) ⟨Y, cy, rfl, hc, hy.gr H.gr⟩ (hX.gr H.gr) rfl fun w2 g2 => ?_
  have H := H.step g2
  cases h1 : goodG gm && wordB gm.toks ws && decide (ws.length ≤ 8)
  · simp only [Bool.not_false, go_sem, Nat.reduceEqDiff]
    exact no (fun h => by rw [h.1, h.2.1, decide_eq_true h.2.2.1] at h1; cases h1) _ H.gr
  simp only [Bool.not_true, go_sem, Nat.reduceEqDiff]
  simp only [Bool.and_eq_true, decide_eq_true_eq] at h1
  obtain ⟨⟨hg, hw⟩, h8⟩ := h1
  have htk := good_toks hg
  refine l1In_c ?_
  rw [inB_dec]
  by_cases hkd : 0 ≤ kd ∧ kd ≤ 2
  case neg =>
    rw [decide_eq_false hkd]
    simp only [Bool.not_false, go_sem, Nat.reduceEqDiff]
    exact no (fun h => hkd (by rcases h.2.2.2.2.2 with h | h | h <;> omega)) _ H.gr
  rw [decide_eq_true hkd]
  simp only [Bool.not_true, go_sem, Nat.reduceEqDiff]
  refine l1In_c ?_
  rw [inB_dec]
  by_cases hpt : 0 ≤ pt ∧ pt ≤ ws.length
  case neg =>
    rw [decide_eq_false hpt]
    simp only [Bool.not_false, go_sem, Nat.reduceEqDiff]
    exact no (fun h => hpt h.2.2.2.2.1) _ H.gr
  rw [decide_eq_true hpt]
  obtain ⟨p, rfl⟩ : ∃ p : Nat, pt = p := ⟨pt.toNat, by omega⟩
  have hp : p ≤ ws.length := by omega
  rcases (show kd = 0 ∨ kd = 1 ∨ kd = 2 by omega) with rfl | rfl | rfl
  · simp only [Bool.not_true, show ¬ ((0 : Int) = 1) from by decide, show  ((0 : Int) = 0) from by decide, show ¬ ((0 : Int) < 0) from by decide, decide_true, decide_false, Bool.not_false, go_sem, Nat.reduceEqDiff]
    by_cases hpl : p < ws.length
    case neg =>
      simp only [show ((p : Int) = ws.length) from by omega, decide_true, go_sem, Nat.reduceEqDiff]
      exact no (fun h => by rcases h.2.2.2.2.2 with h | h | h <;> omega) _ H.gr
    simp only [show ¬ ((p : Int) = ws.length) from by omega, decide_false, go_sem, Nat.reduceEqDiff]
    refine rdi (ldB3 (H.box 0 rfl) rfl) ?_
    simp only [go_sem, Nat.reduceEqDiff]
    rw [i64_of (by omega) (by omega)]
    refine l1In_c ?_
    rw [inB_dec]
    by_cases htok : 0 ≤ tok ∧ tok ≤ gm.toks - 1
    case neg =>
      rw [decide_eq_false htok]
      simp only [Bool.not_false, go_sem, Nat.reduceEqDiff]
      exact no (fun h => htok h.2.2.2.1) _ H.gr
    rw [decide_eq_true htok]
    simp only [Bool.not_true, show ¬ ((0 : Int) = 1) from by decide, show  ((0 : Int) = 0) from by decide, show ¬ ((0 : Int) < 0) from by decide, decide_true, decide_false, Bool.not_false, go_sem, Nat.reduceEqDiff]
    by_cases ht0 : tok = 0
    case neg =>
      simp only [ht0, decide_false, Bool.not_false, go_sem, Nat.reduceEqDiff]
      exact no (fun h => by rcases h.2.2.2.2.2 with h | h | h <;> omega) _ H.gr
    simp only [ht0, decide_true, Bool.not_true, go_sem, Nat.reduceEqDiff]
    refine rdi (slh27 (by omega) (by omega)) ?_
    have ht : Ints w2 (sub X 0 cx 1) (ws.take p) := by
      have := (hX.gr H.gr).sub (l := 0) (c := cx) (Nat.zero_le _) hcx p
      rwa [List.drop_zero] at this
    have hlt : (ws.take p).length = p := by rw [List.length_take]; omega
    refine l1Own_c ht (by rw [hlt]; omega) (by omega) fun X1 d1 w3 g3 o1 => ?_
    have H := H.addRow g3 o1
    simp only [List.nil_append, List.cons_append] at H
    simp only [initF_1, initF_2, initF_3, show ¬ ((0 : Int) = 1) from by decide, show  ((0 : Int) = 0) from by decide, show ¬ ((0 : Int) < 0) from by decide, decide_true, decide_false, go_sem, Nat.reduceEqDiff]
    rw [i64_of (by omega) (by omega)]
    refine rdi (sll27 (by omega) (by omega)) ?_
    have hr := (hX.gr H.gr).sub (l := (p + 1)) (c := cx) (by omega) hcx ws.length
    rw [List.take_of_length_le (by rw [List.length_drop]; omega)] at hr
    have hlr : (ws.drop (p + 1)).length = ws.length - (p + 1) := List.length_drop
    rw [show Int.toNat ((p : Int) + 1) = (p + 1) from by omega]
    refine apH H 1 rfl hr rfl hlr.symm (by first | omega | (simp only [List.length_append, List.length_cons, List.length_nil]; omega)) fun X2 d2 w4 H => ?_
    simp only [List.set_cons_zero, List.set_cons_succ] at H
    have hL : ws.take p ++ ws.drop (p + 1) = chgL ws 0 p tok := by
      unfold chgL
      rw [if_neg (by decide), if_neg (by decide), List.nil_append]
    have hCL : (chgL ws 0 p tok).length = ws.length - 1 := by
      rw [← hL]
      simp only [List.length_append, List.length_cons, List.length_nil]
      omega
    rw [hL] at H ⊢
    simp only [show ¬ ((8 : Int) < (chgL ws 0 p tok).length) from by omega, decide_false, go_sem, Nat.reduceEqDiff]
    rw [changeV, if_pos ⟨hg, hw, h8, htok, hpt, by omega⟩, Int.toNat_natCast] at hk
    exact hk _ _ _ H.gr (H.own 1 rfl)
  · simp only [Bool.not_true, show  ((1 : Int) = 1) from by decide, show ¬ ((1 : Int) = 0) from by decide, show  ((0 : Int) < 1) from by decide, decide_true, decide_false, Bool.not_false, go_sem, Nat.reduceEqDiff]
    refine rdi (ldB3 (H.box 0 rfl) rfl) ?_
    simp only [go_sem, Nat.reduceEqDiff]
    rw [i64_of (by omega) (by omega)]
    refine l1In_c ?_
    rw [inB_dec]
    by_cases htok : 0 ≤ tok ∧ tok ≤ gm.toks - 1
    case neg =>
      rw [decide_eq_false htok]
      simp only [Bool.not_false, go_sem, Nat.reduceEqDiff]
      exact no (fun h => htok h.2.2.2.1) _ H.gr
    rw [decide_eq_true htok]
    simp only [Bool.not_true, show  ((1 : Int) = 1) from by decide, show ¬ ((1 : Int) = 0) from by decide, show  ((0 : Int) < 1) from by decide, decide_true, decide_false, Bool.not_false, go_sem, Nat.reduceEqDiff]
    refine rdi (slh27 (by omega) (by omega)) ?_
    have ht : Ints w2 (sub X 0 cx 1) (ws.take p) := by
      have := (hX.gr H.gr).sub (l := 0) (c := cx) (Nat.zero_le _) hcx p
      rwa [List.drop_zero] at this
    have hlt : (ws.take p).length = p := by rw [List.length_take]; omega
    refine l1Own_c ht (by rw [hlt]; omega) (by omega) fun X1 d1 w3 g3 o1 => ?_
    have H := H.addRow g3 o1
    simp only [List.nil_append, List.cons_append] at H
    refine pushH H 1 rfl rfl (by omega) fun t1 X1 d1 w3 H => ?_
    simp only [List.set_cons_zero, List.set_cons_succ] at H
    simp only [initF_1, initF_2, initF_3, show  ((1 : Int) = 1) from by decide, show ¬ ((1 : Int) = 0) from by decide, show  ((0 : Int) < 1) from by decide, decide_true, decide_false, go_sem, Nat.reduceEqDiff]
    refine rdi (sll27 (by omega) (by omega)) ?_
    have hr := (hX.gr H.gr).sub (l := p) (c := cx) (by omega) hcx ws.length
    rw [List.take_of_length_le (by rw [List.length_drop]; omega)] at hr
    have hlr : (ws.drop p).length = ws.length - p := List.length_drop
    rw [show Int.toNat (p : Int) = p from by omega]
    refine apH H 1 rfl hr rfl hlr.symm (by first | omega | (simp only [List.length_append, List.length_cons, List.length_nil]; omega)) fun X2 d2 w4 H => ?_
    simp only [List.set_cons_zero, List.set_cons_succ] at H
    have hL : ws.take p ++ [tok] ++ ws.drop p = chgL ws 1 p tok := by
      unfold chgL
      rw [if_pos (by decide), if_pos rfl, List.append_assoc]
    have hCL : (chgL ws 1 p tok).length = ws.length + 1 := by
      rw [← hL]
      simp only [List.length_append, List.length_cons, List.length_nil]
      omega
    rw [hL] at H ⊢
    by_cases hs : ws.length < 8
    case neg =>
      simp only [show (8 : Int) < (chgL ws 1 p tok).length from by omega, decide_true, go_sem, Nat.reduceEqDiff]
      exact no (fun h => by rcases h.2.2.2.2.2 with h | h | h <;> omega) _ H.gr
    simp only [show ¬ ((8 : Int) < (chgL ws 1 p tok).length) from by omega, decide_false, go_sem, Nat.reduceEqDiff]
    rw [changeV, if_pos ⟨hg, hw, h8, htok, hpt, by omega⟩, Int.toNat_natCast] at hk
    exact hk _ _ _ H.gr (H.own 1 rfl)
  · simp only [Bool.not_true, show ¬ ((2 : Int) = 1) from by decide, show ¬ ((2 : Int) = 0) from by decide, show  ((0 : Int) < 2) from by decide, decide_true, decide_false, Bool.not_false, go_sem, Nat.reduceEqDiff]
    by_cases hpl : p < ws.length
    case neg =>
      simp only [show ((p : Int) = ws.length) from by omega, decide_true, go_sem, Nat.reduceEqDiff]
      exact no (fun h => by rcases h.2.2.2.2.2 with h | h | h <;> omega) _ H.gr
    simp only [show ¬ ((p : Int) = ws.length) from by omega, decide_false, go_sem, Nat.reduceEqDiff]
    refine rdi (ldB3 (H.box 0 rfl) rfl) ?_
    simp only [go_sem, Nat.reduceEqDiff]
    rw [i64_of (by omega) (by omega)]
    refine l1In_c ?_
    rw [inB_dec]
    by_cases htok : 0 ≤ tok ∧ tok ≤ gm.toks - 1
    case neg =>
      rw [decide_eq_false htok]
      simp only [Bool.not_false, go_sem, Nat.reduceEqDiff]
      exact no (fun h => htok h.2.2.2.1) _ H.gr
    rw [decide_eq_true htok]
    simp only [Bool.not_true, show ¬ ((2 : Int) = 1) from by decide, show ¬ ((2 : Int) = 0) from by decide, show  ((0 : Int) < 2) from by decide, decide_true, decide_false, Bool.not_false, go_sem, Nat.reduceEqDiff]
    refine rdi (slh27 (by omega) (by omega)) ?_
    have ht : Ints w2 (sub X 0 cx 1) (ws.take p) := by
      have := (hX.gr H.gr).sub (l := 0) (c := cx) (Nat.zero_le _) hcx p
      rwa [List.drop_zero] at this
    have hlt : (ws.take p).length = p := by rw [List.length_take]; omega
    refine l1Own_c ht (by rw [hlt]; omega) (by omega) fun X1 d1 w3 g3 o1 => ?_
    have H := H.addRow g3 o1
    simp only [List.nil_append, List.cons_append] at H
    refine pushH H 1 rfl rfl (by omega) fun t1 X1 d1 w3 H => ?_
    simp only [List.set_cons_zero, List.set_cons_succ] at H
    simp only [initF_1, initF_2, initF_3, show ¬ ((2 : Int) = 1) from by decide, show ¬ ((2 : Int) = 0) from by decide, show  ((0 : Int) < 2) from by decide, decide_true, decide_false, go_sem, Nat.reduceEqDiff]
    rw [i64_of (by omega) (by omega)]
    refine rdi (sll27 (by omega) (by omega)) ?_
    have hr := (hX.gr H.gr).sub (l := (p + 1)) (c := cx) (by omega) hcx ws.length
    rw [List.take_of_length_le (by rw [List.length_drop]; omega)] at hr
    have hlr : (ws.drop (p + 1)).length = ws.length - (p + 1) := List.length_drop
    rw [show Int.toNat ((p : Int) + 1) = (p + 1) from by omega]
    refine apH H 1 rfl hr rfl hlr.symm (by first | omega | (simp only [List.length_append, List.length_cons, List.length_nil]; omega)) fun X2 d2 w4 H => ?_
    simp only [List.set_cons_zero, List.set_cons_succ] at H
    have hL : ws.take p ++ [tok] ++ ws.drop (p + 1) = chgL ws 2 p tok := by
      unfold chgL
      rw [if_pos (by decide), if_neg (by decide), List.append_assoc]
    have hCL : (chgL ws 2 p tok).length = ws.length := by
      rw [← hL]
      simp only [List.length_append, List.length_cons, List.length_nil]
      omega
    rw [hL] at H ⊢
    simp only [show ¬ ((8 : Int) < (chgL ws 2 p tok).length) from by omega, decide_false, go_sem, Nat.reduceEqDiff]
    rw [changeV, if_pos ⟨hg, hw, h8, htok, hpt, by omega⟩, Int.toNat_natCast] at hk
    exact hk _ _ _ H.gr (H.own 1 rfl)
end Go.Proofs.Ytegcjkhebecgbaa

/- Contracts: the nearest short word, by the reference and by the program. -/
set_option linter.unusedVariables false
set_option linter.unusedSimpArgs false
set_option maxRecDepth 100000
namespace Go.Sh
open Go
def nearI (ws : List Int) (ls : List (List Int)) : Nat → Nat
  | 0 => 0
  | n + 1 => if edist ws (rgt ls n) < edist ws (rgt ls (nearI ws ls n)) then n else nearI ws ls n
theorem nearI_lt {ws : List Int} {ls : List (List Int)} (h : 0 < ls.length) : ∀ {n : Nat}, n ≤ ls.length → nearI ws ls n < ls.length := by
  intro n
  induction n with
  | zero => intro _; exact h
  | succ n ih =>
    intro hn
    rw [nearI]
    split
    · omega
    · exact ih (by omega)
def NearOk (gm : Gram) (ws : List Int) (most : Int) : Prop := (shortV gm most).2 = true ∧ wordB gm.toks ws = true ∧ ws.length ≤ 8 ∧ 0 < (shortV gm most).1.length
open Classical in
noncomputable def nearV (gm : Gram) (ws : List Int) (most : Int) : List Int × Bool := if NearOk gm ws most then (rgt (shortV gm most).1 (nearI ws (shortV gm most).1 (shortV gm most).1.length), true) else ([], false)
end Go.Sh
namespace Go.Proofs.Ytegcjkhebecgbaa
open Go Go.Sh Go.RowKit
theorem specNearWord_c {F : Nat → Prop} {w : World} {v : Value} {gm : Gram} {most : Int} {X : Option Addr} {n cx : Nat} {ws : List Int} (hv : GramV F w v gm) (hX : Ints w X ws) (hn : n = ws.length) {k : Value → World → Prop}
    (hk : ∀ w' U d, Gr w w' → Own 3 w' w.heap.size U d (nearV gm ws most).1 → k (.tuple #[.slice U (nearV gm ws most).1.length d, .bool (nearV gm ws most).2]) w') :
    CallK Try.prog 103 [v, .slice X n cx, .int .i64 most] k w := by
  subst hn
  obtain ⟨Y, cy, rfl, hc, hy⟩ := hv
  refine enter103 ?_
  unfold S103
  have H := Apt.nil w
  refine boxH H fun b1 w1 H => ?_
  refine rdi (ldB_agg agg26 sz26 rfl (H.box 0 rfl)) ?_
  refine specShortWords_c (gm := gm) ⟨Y, cy, rfl, hc, hy.gr H.gr⟩ fun w2 U d ps g2 o2 => ?_
  have H := H.addLss g2 o2
  simp only [List.nil_append, List.cons_append] at H
  clear o2
  have no : ¬ NearOk gm ws most → ∀ w', Gr w w' → k (.tuple #[.slice none 0 0, .bool false]) w' := fun h w' g => by
    rw [nearV, if_neg h] at hk
    exact hk w' none 0 g (Row.nil _ _ _ _)
  simp only [go_sem, Nat.reduceEqDiff]
  cases h1 : (shortV gm most).2
  · simp only [Bool.not_false, go_sem, Nat.reduceEqDiff]
    exact no (fun h => by have := h.1; rw [h1] at this; cases this) _ H.gr
  simp only [Bool.not_true, go_sem, Nat.reduceEqDiff]
  have hg := shortV_good h1
  have htk := good_toks hg
  refine rdi (ldB_agg agg26 sz26 rfl (H.box 0 rfl)) ?_
  refine l17Word_c (gm := gm) ⟨Y, cy, rfl, hc, hy.gr H.gr⟩ (hX.gr H.gr) rfl fun w3 g3 => ?_
  have H := H.step g3
  rw [hg, Bool.true_and]
  cases h2 : wordB gm.toks ws && decide (ws.length ≤ 8)
  · simp only [Bool.not_false, go_sem, Nat.reduceEqDiff]
    exact no (fun h => by rw [h.2.1, decide_eq_true h.2.2.1] at h2; cases h2) _ H.gr
  simp only [Bool.not_true, go_sem, Nat.reduceEqDiff]
  simp only [Bool.and_eq_true, decide_eq_true_eq] at h2
  have h3 := h2.2
  have h2 := h2.1
  by_cases h4 : 0 < (shortV gm most).1.length
  case neg =>
    simp only [show (((shortV gm most).1.length : Int) = 0) from by omega, decide_true, go_sem, Nat.reduceEqDiff]
    exact no (fun h => h4 h.2.2.2) _ H.gr
  simp only [show ¬ (((shortV gm most).1.length : Int) = 0) from by omega, decide_false, go_sem, Nat.reduceEqDiff]
  rw [nearV, if_pos ⟨h1, h2, h3, h4⟩] at hk
  have hbA := fun x => @shortV_mem gm most x
  clear no
  generalize (shortV gm most).1 = ls at *
  have hle : ls.length ≤ 9223372036854775807 := (H.lssi 1 rfl).read.le
  refine rdi (ix35_0 (fun h => (H.lssi 1 rfl).ptr h) h4) ?_
  refine rdi (ld27 ((H.lssi 1 rfl).cell h4)) ?_
  refine loop_to ls.length 0 (fun i f w' => i ≤ ls.length ∧ f 37 = .int .i64 i ∧ f 10 = .slice (ps (nearI ws ls i)).1 (rgt ls (nearI ws ls i)).length (ps (nearI ws ls i)).2 ∧
      Apt w w' [bx b1 [.int .i64 gm.nons, .int .i64 gm.toks, .slice Y gm.rules.length cy] 26, lss U d ls ps])
    ⟨Nat.zero_le _, rfl, rfl, H⟩ ?_
  rintro i f w4 N hag ⟨hi, hC, h10, H⟩ hN
  have f1 : f 1 = .slice X ws.length cx := hag 1 (by decide)
  have fw : f 35 = .slice U ls.length d := hag 35 (by decide)
  have fl : f 36 = .int .i64 ls.length := hag 36 (by decide)
  simp only [f1, fw, fl, hC, h10, go_sem, Nat.reduceEqDiff]
  have hI := nearI_lt (ws := ws) h4 hi
  by_cases hlt : i < ls.length
  case neg =>
    simp only [show ¬ ((i : Int) < ls.length) from by omega, decide_false, go_sem, Nat.reduceEqDiff]
    obtain rfl : i = ls.length := by omega
    exact hk _ _ _ H.gr ((H.lssi 1 rfl).own _ hI)
  simp only [show ((i : Int) < ls.length) from by omega, decide_true, go_sem, Nat.reduceEqDiff]
  have o := H.lssi 1 rfl
  have hb1 := hbA _ (rgt_mem hlt)
  have hb2 := hbA _ (rgt_mem hI)
  refine rdi (ixn35 (fun h => o.ptr h) hlt) (rdi (ld27 (o.cell hlt)) ?_)
  refine l17Apart_c (hX.gr H.gr) ((o.own i hlt).ints) (by omega) hb1 fun w5 g5 => ?_
  have H := H.step g5
  have o := H.lssi 1 rfl
  refine l17Apart_c (hX.gr H.gr) ((o.own _ hI).ints) (by omega) hb2 fun w6 g6 => ?_
  have H := H.step g6
  simp only [go_sem, Nat.reduceEqDiff]
  by_cases hd : edist ws (rgt ls i) < edist ws (rgt ls (nearI ws ls i))
  · simp only [hd, decide_true, go_sem, Nat.reduceEqDiff]
    rw [i64_of (by omega) (by omega)]
    exact hN _ _ hlt ⟨by omega, rfl, by rw [nearI, if_pos hd]; rfl, H⟩
  · simp only [hd, decide_false, go_sem, Nat.reduceEqDiff]
    rw [i64_of (by omega) (by omega)]
    exact hN _ _ hlt ⟨by omega, rfl, by rw [nearI, if_neg hd]; exact h10, H⟩
theorem implNearWord_c {F : Nat → Prop} {w : World} {v : Value} {gm : Gram} {most : Int} {X : Option Addr} {n cx : Nat} {ws : List Int} (hv : GramV F w v gm) (hX : Ints w X ws) (hn : n = ws.length) {k : Value → World → Prop}
    (hk : ∀ w' U d, Gr w w' → Own 3 w' w.heap.size U d (nearV gm ws most).1 → k (.tuple #[.slice U (nearV gm ws most).1.length d, .bool (nearV gm ws most).2]) w') :
    CallK Try.prog 102 [v, .slice X n cx, .int .i64 most] k w := by
  subst hn
  obtain ⟨Y, cy, rfl, hc, hy⟩ := hv
  refine enter102 ?_
  unfold S102
  have H := Apt.nil w
  refine boxH H fun b1 w1 H => ?_
  refine rdi (ldB_agg agg26 sz26 rfl (H.box 0 rfl)) ?_
  refine implShortWords_c (gm := gm) ⟨Y, cy, rfl, hc, hy.gr H.gr⟩ fun w2 U d ps g2 o2 => ?_
  have H := H.addLss g2 o2
  simp only [List.nil_append, List.cons_append] at H
  clear o2
  have no : ¬ NearOk gm ws most → ∀ w', Gr w w' → k (.tuple #[.slice none 0 0, .bool false]) w' := fun h w' g => by
    rw [nearV, if_neg h] at hk
    exact hk w' none 0 g (Row.nil _ _ _ _)
  simp only [go_sem, Nat.reduceEqDiff]
  cases h1 : (shortV gm most).2
  · simp only [Bool.not_false, go_sem, Nat.reduceEqDiff]
    exact no (fun h => by have := h.1; rw [h1] at this; cases this) _ H.gr
  simp only [Bool.not_true, go_sem, Nat.reduceEqDiff]
  have hg := shortV_good h1
  have htk := good_toks hg
  refine rdi (ldB3 (H.box 0 rfl) rfl) ?_
  refine isWord_c (hX.gr H.gr) rfl htk.1 htk.2 fun w3 g3 => ?_
  have H := H.step g3
  cases h2 : wordB gm.toks ws
  · simp only [Bool.not_false, go_sem, Nat.reduceEqDiff]
    exact no (fun h => by have := h.2.1; rw [h2] at this; cases this) _ H.gr
  simp only [Bool.not_true, go_sem, Nat.reduceEqDiff]
  by_cases h3 : ws.length ≤ 8
  case neg =>
    simp only [show ((8 : Int) < ws.length) from by omega, decide_true, go_sem, Nat.reduceEqDiff]
    exact no (fun h => h3 h.2.2.1) _ H.gr
  simp only [show ¬ ((8 : Int) < ws.length) from by omega, decide_false, go_sem, Nat.reduceEqDiff]
  by_cases h4 : 0 < (shortV gm most).1.length
  case neg =>
    simp only [show (((shortV gm most).1.length : Int) = 0) from by omega, decide_true, go_sem, Nat.reduceEqDiff]
    exact no (fun h => h4 h.2.2.2) _ H.gr
  simp only [show ¬ (((shortV gm most).1.length : Int) = 0) from by omega, decide_false, go_sem, Nat.reduceEqDiff]
  rw [nearV, if_pos ⟨h1, h2, h3, h4⟩] at hk
  have hbA := fun x => @shortV_mem gm most x
  clear no
  generalize (shortV gm most).1 = ls at *
  have hle : ls.length ≤ 9223372036854775807 := (H.lssi 1 rfl).read.le
  refine rdi (ix35_0 (fun h => (H.lssi 1 rfl).ptr h) h4) ?_
  refine rdi (ld27 ((H.lssi 1 rfl).cell h4)) ?_
  refine loop_to ls.length 0 (fun i f w' => i ≤ ls.length ∧ f 43 = .int .i64 i ∧ f 10 = .slice (ps (nearI ws ls i)).1 (rgt ls (nearI ws ls i)).length (ps (nearI ws ls i)).2 ∧
      Apt w w' [bx b1 [.int .i64 gm.nons, .int .i64 gm.toks, .slice Y gm.rules.length cy] 26, lss U d ls ps])
    ⟨Nat.zero_le _, rfl, rfl, H⟩ ?_
  rintro i f w4 N hag ⟨hi, hC, h10, H⟩ hN
  have f1 : f 1 = .slice X ws.length cx := hag 1 (by decide)
  have fw : f 41 = .slice U ls.length d := hag 41 (by decide)
  have fl : f 42 = .int .i64 ls.length := hag 42 (by decide)
  simp only [f1, fw, fl, hC, h10, go_sem, Nat.reduceEqDiff]
  have hI := nearI_lt (ws := ws) h4 hi
  by_cases hlt : i < ls.length
  case neg =>
    simp only [show ¬ ((i : Int) < ls.length) from by omega, decide_false, go_sem, Nat.reduceEqDiff]
    obtain rfl : i = ls.length := by omega
    exact hk _ _ _ H.gr ((H.lssi 1 rfl).own _ hI)
  simp only [show ((i : Int) < ls.length) from by omega, decide_true, go_sem, Nat.reduceEqDiff]
  have o := H.lssi 1 rfl
  have hb1 := hbA _ (rgt_mem hlt)
  have hb2 := hbA _ (rgt_mem hI)
  refine rdi (ixn35 (fun h => o.ptr h) hlt) (rdi (ld27 (o.cell hlt)) ?_)
  refine apart_c (hX.gr H.gr) ((o.own i hlt).ints) (by omega) hb1 fun w5 g5 => ?_
  have H := H.step g5
  have o := H.lssi 1 rfl
  refine apart_c (hX.gr H.gr) ((o.own _ hI).ints) (by omega) hb2 fun w6 g6 => ?_
  have H := H.step g6
  simp only [go_sem, Nat.reduceEqDiff]
  by_cases hd : edist ws (rgt ls i) < edist ws (rgt ls (nearI ws ls i))
  · simp only [hd, decide_true, go_sem, Nat.reduceEqDiff]
    rw [i64_of (by omega) (by omega)]
    exact hN _ _ hlt ⟨by omega, rfl, by rw [nearI, if_pos hd]; rfl, H⟩
  · simp only [hd, decide_false, go_sem, Nat.reduceEqDiff]
    rw [i64_of (by omega) (by omega)]
    exact hN _ _ hlt ⟨by omega, rfl, by rw [nearI, if_neg hd]; exact h10, H⟩
end Go.Proofs.Ytegcjkhebecgbaa

/- Plain: what the law of Mend asks of the values. -/
set_option linter.unusedVariables false
set_option linter.unusedSimpArgs false
set_option maxRecDepth 100000
namespace Go.Sh
open Go
theorem mendOk_of {gm : Gram} {ws : List Int} (h : mendOk gm ws = true) : goodG gm = true ∧ wordB gm.toks ws = true ∧ ws.length ≤ 8 := by
  simp only [mendOk, Bool.and_eq_true, decide_eq_true_eq] at h
  exact ⟨h.1.1, h.1.2, h.2⟩
theorem mendOk_to {gm : Gram} {ws : List Int} (hg : goodG gm = true) (hw : wordB gm.toks ws = true) (hl : ws.length ≤ 8) : mendOk gm ws = true := by
  simp only [mendOk, Bool.and_eq_true, decide_eq_true_eq]
  exact ⟨⟨hg, hw⟩, hl⟩
theorem mendT_small {gm : Gram} {ws : List Int} {m : Nat} (hg : goodG gm = true) (hl : ws.length ≤ 8) (h : mendT gm ws 0 0 ws.length = some m) : m ≤ 100000000 := by
  have o := offerI (ws := ws) (n := ws.length + 1) (good_rules hg) (by omega)
  exact ((fixT_fix o).small o smallG_none).le (Nat.zero_le _) (by omega) h
theorem lm_true {gm : Gram} {ws : List Int} {n : Int} (h : leastMendV gm ws = (n, true)) : mendOk gm ws = true ∧ ∃ m : Nat, n = m ∧ mendT gm ws 0 0 ws.length = some m ∧ m ≤ 100000000 := by
  unfold leastMendV at h
  split at h
  · rename_i hok
    obtain ⟨hg, hw, hl⟩ := mendOk_of hok
    cases hm : mendT gm ws 0 0 ws.length with
    | none => rw [hm] at h; cases h
    | some m =>
      rw [hm] at h
      have e : ((m : Int), true) = (n, true) := h
      exact ⟨hok, m, (Prod.mk.inj e).1.symm, rfl, mendT_small hg hl hm⟩
  · cases h
theorem lm_of {gm : Gram} {ws : List Int} {m : Nat} (hok : mendOk gm ws = true) (hm : mendT gm ws 0 0 ws.length = some m) : leastMendV gm ws = ((m : Int), true) := by
  unfold leastMendV
  rw [if_pos hok, hm]
  rfl
theorem lm_in {gm : Gram} {ws : List Int} {n : Int} (h : leastMendV gm ws = (n, true)) : inLV gm ws = (decide (n = 0), true) := by
  obtain ⟨hok, m, rfl, hm, _⟩ := lm_true h
  obtain ⟨hg, hw, hl⟩ := mendOk_of hok
  rw [inLV_of hg hw]
  have e : inL gm.rules ws = decide ((m : Int) = 0) := by
    rw [Bool.eq_iff_iff, inL_yi hg (by omega), decide_eq_true_eq]
    constructor
    · intro hy
      obtain ⟨m', h1, h2⟩ := mendT_le hg hl hy (al_refl ws)
      rw [hm] at h2
      have := Option.some.inj h2
      omega
    · intro h0
      obtain ⟨v, hv, hal⟩ := mendT_sound hg hl hm
      have := al_zero hal (by omega)
      rw [this]
      exact hv
  rw [e]
theorem lm_near {gm : Gram} {ws x : List Int} {n : Int} (h : leastMendV gm ws = (n, true)) (hy : Yi gm.rules (.inl 0) x) : n ≤ edist ws x := by
  obtain ⟨hok, m, rfl, hm, _⟩ := lm_true h
  obtain ⟨hg, hw, hl⟩ := mendOk_of hok
  obtain ⟨k, hk, he⟩ := edist_al ws x
  obtain ⟨m', h1, h2⟩ := mendT_le hg hl hy hk
  rw [hm] at h2
  have := Option.some.inj h2
  omega
theorem lm_short {gm : Gram} {ws x : List Int} {n most : Int} (h : leastMendV gm ws = (n, true)) (hx : x ∈ (shortV gm most).1) : apartV ws x = (edist ws x, true) ∧ n ≤ edist ws x := by
  obtain ⟨hg, h4, hw, hi⟩ := shortV_mem4 hx
  obtain ⟨hok, _⟩ := lm_true h
  have hl := (mendOk_of hok).2.2
  refine ⟨?_, lm_near h ((inL_yi hg (by omega)).1 hi)⟩
  unfold apartV
  rw [if_pos ⟨hl, by omega⟩]
theorem near_true {gm : Gram} {ws x : List Int} {most : Int} (h : nearV gm ws most = (x, true)) : ∃ n, leastMendV gm ws = (n, true) ∧ apartV ws x = (edist ws x, true) ∧ n ≤ edist ws x := by
  unfold nearV at h
  split at h
  · rename_i hok
    obtain ⟨h1, h2, h3, h4⟩ := hok
    have e := (Prod.mk.inj h).1
    have hx : x ∈ (shortV gm most).1 := by
      rw [← e]
      exact rgt_mem (nearI_lt h4 (Nat.le_refl _))
    obtain ⟨hg, _, hw, hi⟩ := shortV_mem4 hx
    obtain ⟨k, hk, he⟩ := edist_al ws x
    obtain ⟨m, _, hm⟩ := mendT_le hg h3 ((inL_yi hg (by omega)).1 hi) hk
    have hlm := lm_of (mendOk_to hg h2 h3) hm
    exact ⟨_, hlm, lm_short hlm hx⟩
  · cases h
theorem allB_iff {xs : List Int} {lo hi : Int} : allB xs lo hi = true ↔ ∀ t ∈ xs, lo ≤ t ∧ t ≤ hi := by
  simp only [allB, inB, List.all_eq_true, Bool.and_eq_true, decide_eq_true_eq]
theorem chg_true {gm : Gram} {ws x : List Int} {kd pt tok : Int} (h : changeV gm ws kd pt tok = (x, true)) : goodG gm = true ∧ wordB gm.toks ws = true ∧ ws.length ≤ 8 ∧ wordB gm.toks x = true ∧ x.length ≤ 8 ∧ ∃ k : Nat, k ≤ 1 ∧ Al ws x k := by
  unfold changeV at h
  split at h
  · rename_i hok
    obtain ⟨hg, hw, hl, ht, hp, hk⟩ := hok
    have e := (Prod.mk.inj h).1
    have hwb := wordB_of hw
    obtain ⟨p, rfl⟩ : ∃ p : Nat, pt = p := ⟨pt.toNat, by omega⟩
    rw [Int.toNat_natCast] at e
    have mem : ∀ t ∈ x, t = tok ∨ t ∈ ws := by
      intro t ht
      rw [← e] at ht
      unfold chgL at ht
      simp only [List.mem_append] at ht
      rcases ht with h | h | h
      · exact .inr (List.mem_of_mem_take h)
      · split at h
        · exact .inl (List.mem_singleton.1 h)
        · cases h
      · split at h
        · exact .inr (List.mem_of_mem_drop h)
        · exact .inr (List.mem_of_mem_drop h)
    have main : x.length ≤ 8 ∧ ∃ k : Nat, k ≤ 1 ∧ Al ws x k := by
      have cut1 : p < ws.length → ws = ws.take p ++ ([ws.getD p 0] ++ ws.drop (p + 1)) := fun hlt => by
        rw [List.getD_eq_getElem?_getD, List.getElem?_eq_getElem hlt, Option.getD_some, List.singleton_append, List.getElem_cons_drop, List.take_append_drop]
      rcases hk with ⟨rfl, _, hlt⟩ | ⟨rfl, h8⟩ | ⟨rfl, hlt⟩
      · have e1 : x = ws.take p ++ ([] ++ ws.drop (p + 1)) := e.symm
        refine ⟨by rw [e1]; simp; omega, 1, Nat.le_refl _, ?_⟩
        have := al_append (al_refl (ws.take p)) (al_append (al_del1 (x := ws.getD p 0)) (al_refl (ws.drop (p + 1))))
        rwa [← cut1 (by omega), ← e1] at this
      · have e1 : x = ws.take p ++ ([tok] ++ ws.drop p) := e.symm
        refine ⟨by rw [e1]; simp; omega, 1, Nat.le_refl _, ?_⟩
        have := al_append (al_refl (ws.take p)) (al_append (al_ins1 (y := tok)) (al_refl (ws.drop p)))
        rwa [List.nil_append, List.take_append_drop, ← e1] at this
      · have e1 : x = ws.take p ++ ([tok] ++ ws.drop (p + 1)) := e.symm
        refine ⟨by rw [e1]; simp; omega, 1, Nat.le_refl _, ?_⟩
        have := al_append (al_refl (ws.take p)) (al_append (al_one (x := ws.getD p 0) (y := tok)) (al_refl (ws.drop (p + 1))))
        rwa [← cut1 (by omega), ← e1] at this
    refine ⟨hg, hw, hl, ?_, main.1, main.2⟩
    simp only [wordB, Bool.and_eq_true, decide_eq_true_eq, allB_iff]
    refine ⟨by have := main.1; omega, fun t h => ?_⟩
    rcases mem t h with rfl | h
    · exact ht
    · exact hwb.2 t h
  · cases h
theorem lm_chg {gm : Gram} {ws x : List Int} {n kd pt tok : Int} (h : leastMendV gm ws = (n, true)) (hc : changeV gm ws kd pt tok = (x, true)) : ∃ m : Nat, leastMendV gm x = ((m : Int), true) ∧ (m : Int) ≤ n + 1 ∧ n ≤ m + 1 ∧ n ≤ 100000000 ∧ m ≤ 100000000 ∧ 0 ≤ n ∧ apartV ws x = (edist ws x, true) ∧ edist ws x ≤ 1 := by
  obtain ⟨hok, m, rfl, hm, hmb⟩ := lm_true h
  obtain ⟨hg, hw, hl, hwx, hlx, k, hk, hal⟩ := chg_true hc
  obtain ⟨v, hv, hav⟩ := mendT_sound hg hl hm
  obtain ⟨k1, hk1, ha1⟩ := al_trans (al_symm hal) hav
  obtain ⟨m2, hm2, e2⟩ := mendT_le hg hlx hv ha1
  obtain ⟨v2, hv2, hav2⟩ := mendT_sound hg hlx e2
  obtain ⟨k2, hk2, ha2⟩ := al_trans hal hav2
  obtain ⟨m3, hm3, e3⟩ := mendT_le hg hl hv2 ha2
  rw [hm] at e3
  have := Option.some.inj e3
  have hed := edist_le hal
  refine ⟨m2, lm_of (mendOk_to hg hwx hlx) e2, by omega, by omega, by omega, mendT_small hg hlx e2, by omega, ?_, by omega⟩
  unfold apartV
  rw [if_pos ⟨hl, hlx⟩]
end Go.Sh

/- slices.Insert and slices.Delete at []int: the library's contracts, laid over this program. -/
set_option linter.unusedVariables false
set_option linter.unusedSimpArgs false
set_option maxRecDepth 100000
namespace Go.Proofs.Ytegcjkhebecgbaa
open Go Go.Sh Go.RowKit Go.Shelf
def rho : Ren := ⟨fun x => match x with
  | 21 => 213
  | 23 => 212
  | 27 => 261
  | 28 => 262
  | 35 => 306
  | 39 => 235
  | x => x, fun x => match x with
  | 22 => 27
  | x => x, fun x => x⟩
theorem lay21 : Lays2.n21 Try.prog rho where
  mixed := by kernel_rfl
  f21 := by kernel_rfl
  f27 := by kernel_rfl
  f28 := by kernel_rfl
  f35 := by kernel_rfl
  f39 := by kernel_rfl
  t0 := by kernel_rfl
  a0 := fun w => by kernel_rfl
  z0 := fun w => by kernel_rfl
  v0 := fun w => by kernel_rfl
  t3 := by kernel_rfl
  a3 := fun w => by kernel_rfl
  z3 := fun w => by kernel_rfl
  v3 := fun w => by kernel_rfl
  t4 := by kernel_rfl
  a4 := fun w => by kernel_rfl
  z4 := fun w => by kernel_rfl
  v4 := fun w => by kernel_rfl
  t22 := by kernel_rfl
  a22 := fun w => by kernel_rfl
  z22 := fun w => by kernel_rfl
  v22 := fun w => by kernel_rfl
  i3 := by kernel_rfl
theorem lay23 : Lays2.n23 Try.prog rho where
  mixed := by kernel_rfl
  f23 := by kernel_rfl
  t0 := by kernel_rfl
  a0 := fun w => by kernel_rfl
  z0 := fun w => by kernel_rfl
  v0 := fun w => by kernel_rfl
  t3 := by kernel_rfl
  a3 := fun w => by kernel_rfl
  z3 := fun w => by kernel_rfl
  v3 := fun w => by kernel_rfl
  t4 := by kernel_rfl
  a4 := fun w => by kernel_rfl
  z4 := fun w => by kernel_rfl
  v4 := fun w => by kernel_rfl
  t22 := by kernel_rfl
  a22 := fun w => by kernel_rfl
  z22 := fun w => by kernel_rfl
  v22 := fun w => by kernel_rfl
  i3 := by kernel_rfl
end Go.Proofs.Ytegcjkhebecgbaa

/- slices.Delete and slices.Insert of one number, among things that lie apart. -/
set_option linter.unusedVariables false
set_option linter.unusedSimpArgs false
set_option maxRecDepth 100000
namespace Go.Sh
open Go
section
variable {w : World} {B e n c g : Nat} {X : Option Addr} {cells : List Value}
theorem Row.full (h : Row w B e 1 X n c cells) (hX : X ≠ none) : ∃ g tl, X = some ⟨g, 0, none⟩ ∧ tl.length = c - n ∧ n ≤ c ∧ c ≤ 9223372036854775807 ∧ Row w B e 1 X c c (cells ++ tl) := by
  rcases h.2 with h2 | ⟨g, cap, cur, e1, e2, e3, e4, e5, e6, e7⟩
  · simp only [Value.slice.injEq] at h2
    exact absurd h2.1.1 hX
  · simp only [Value.slice.injEq] at e1
    obtain ⟨rfl, _, rfl⟩ := e1
    have e6' : cur.toList.length = c := by simpa using e6
    refine ⟨g, cur.toList.drop n, rfl, by rw [List.length_drop]; omega, e4, by simpa [maxLen] using e5, ?_⟩
    have ec : cells ++ cur.toList.drop n = cur.toList := by rw [← e7, Nat.mul_one, List.take_append_drop]
    rw [ec]
    exact ⟨by omega, .inr ⟨g, c, cur, rfl, e2, e3, Nat.le_refl _, e5, e6, by rw [Nat.mul_one, List.take_of_length_le (by omega)]⟩⟩
theorem Row.cut (h : Row w B e 1 X n c cells) {m : Nat} (hm : m ≤ n) : Row w B e 1 X m c (cells.take m) := by
  have hl := h.1
  rcases h.2 with ⟨h2, h3⟩ | ⟨g, cap, cur, e1, e2, e3, e4, e5, e6, e7⟩
  · subst h3
    obtain rfl : m = 0 := by omega
    simp only [Value.slice.injEq] at h2
    obtain ⟨rfl, _, rfl⟩ := h2
    exact Row.nil _ _ _ _
  · simp only [Value.slice.injEq] at e1
    obtain ⟨rfl, _, rfl⟩ := e1
    refine ⟨by rw [List.length_take]; omega, .inr ⟨g, c, cur, rfl, e2, e3, by omega, e5, e6, ?_⟩⟩
    rw [← e7, Nat.mul_one, Nat.mul_one, List.take_take, Nat.min_eq_left hm]
theorem Row.setCells : ∀ (vs : List Value) {w : World} {cells : List Value} (h : Row w B e 1 (some ⟨g, 0, none⟩) n c cells) (o : Nat), o + vs.length ≤ n → Row (w.setCells g o vs) B e 1 (some ⟨g, 0, none⟩) n c (cells.take o ++ vs ++ cells.drop (o + vs.length)) ∧ w.grownBy (w.setCells g o vs) (some g) := by
  intro vs
  induction vs with
  | nil =>
    intro w cells h o ho
    simp only [List.append_nil, List.length_nil, Nat.add_zero, List.take_append_drop]
    exact ⟨h, gr_any (Gr.refl w) _⟩
  | cons v vs ih =>
    intro w cells h o ho
    rw [List.length_cons] at ho
    have hl : cells.length = n := by have := h.1; omega
    have hst := World.ownsRow.stored h o v
    obtain ⟨h1, h2⟩ := ih (show Row (w.setCell ⟨g, o, none⟩ v) B e 1 (some ⟨g, 0, none⟩) n c (cells.set o v) from hst.1) (o + 1) (by omega)
    refine ⟨?_, grownBy_trans hst.2 h2⟩
    have e1 : (cells.set o v).take (o + 1) = cells.take o ++ [v] := by
      rw [List.take_succ_eq_append_getElem (by rw [List.length_set]; omega), List.getElem_set_self, List.take_set, List.set_eq_of_length_le (by rw [List.length_take]; omega)]
    have e2 : (cells.set o v).drop (o + 1 + vs.length) = cells.drop (o + (v :: vs).length) := by
      rw [List.drop_set_of_lt (by omega), List.length_cons]
      congr 1
      omega
    rw [e1, e2, List.append_assoc (cells.take o) [v] vs] at h1
    exact h1
theorem gr_ahead (w : World) (q : Nat) : Gr w (Sort.ahead w q) := ⟨rfl, rfl, rfl, Nat.le_refl _, fun _ _ _ => rfl⟩
theorem Row.put {d xs : List Int} (h : Row w B e 1 (some ⟨g, 0, none⟩) n c (ints xs)) (hd : d.length = n) : Row (Sort.putRow (.int .i64) w g 0 d.toArray) B e 1 (some ⟨g, 0, none⟩) n c (ints d) ∧ w.grownBy (Sort.putRow (.int .i64) w g 0 d.toArray) (some g) := by
  rcases h.2 with h2 | ⟨g', cap, cur, e1, e2, e3, e4, e5, e6, e7⟩
  · simp at h2
  · simp only [Value.slice.injEq, Option.some.injEq, Addr.mk.injEq, and_true, true_and] at e1
    obtain ⟨rfl, rfl⟩ := e1
    have e6' : cur.size = c := by simpa using e6
    refine ⟨⟨by rw [ints_length]; omega, .inr ⟨g, c, Sort.putCells (.int .i64) 0 d.toArray cur, rfl, e2, ?_, e4, e5, ?_, ?_⟩⟩, ⟨rfl, rfl, rfl, ?_, fun k hk hn => ?_⟩⟩
    · simp only [Sort.putRow, Sort.mapBlock, Array.getElem?_modify, if_true, e3, Option.map_some, Sort.onCells]
    · simp [Sort.putCells, e6']
    · apply List.ext_getElem?
      intro j
      rw [Nat.mul_one, List.getElem?_take]
      by_cases hj : j < n
      · rw [if_pos hj, Array.getElem?_toList]
        simp only [Sort.putCells, Array.getElem?_mapIdx]
        have hc : j < cur.size := by omega
        rw [Array.getElem?_eq_getElem hc]
        simp [ints, hd, hj]
      · rw [if_neg hj, List.getElem?_eq_none (by rw [ints_length]; omega)]
    · simp [Sort.putRow, Sort.mapBlock]
    · simp only [Sort.putRow, Sort.mapBlock, Array.getElem?_modify]
      rw [if_neg (fun e => hn (by rw [e]))]
theorem Row.holds {xs : List Int} (h : Row w B e 1 (some ⟨g, 0, none⟩) n c (ints xs)) : Sort.Holds (.int .i64) w g 0 xs.toArray := by
  rcases h.2 with h2 | ⟨g', cap, cur, e1, e2, e3, e4, e5, e6, e7⟩
  · simp at h2
  · simp only [Value.slice.injEq, Option.some.injEq, Addr.mk.injEq, and_true, true_and] at e1
    obtain ⟨rfl, rfl⟩ := e1
    intro j hj
    have hj' : j < xs.length := by simpa using hj
    refine ⟨?_, ?_⟩
    · have := h.src.cell j (.int .i64 xs[j]) (by simp [ints, hj'])
      rw [show (ad (some (⟨g, 0, none⟩ : Addr))).add j = ⟨g, 0 + j, none⟩ from by show (⟨g, 0, none⟩ : Addr).add j = _; rw [add_plain]] at this
      rw [this]
      simp [hj']
    · simp only [World.frozen?, e3]
      simp
theorem Row.facts (h : Row w B e 1 (some ⟨g, 0, none⟩) n c cells) : (∀ (j : Nat) (v : Value), cells[j]? = some v → w.cell? ⟨g, 0 + j, none⟩ = some v) ∧ (∀ j : Nat, w.frozen? ⟨g, j, none⟩ = false) ∧ w.shape? g = some (e, c) := by
  refine ⟨fun j v hv => ?_, ?_⟩
  · have := h.src.cell j v hv
    rwa [show (ad (some (⟨g, 0, none⟩ : Addr))).add j = ⟨g, 0 + j, none⟩ from by show (⟨g, 0, none⟩ : Addr).add j = _; rw [add_plain]] at this
  · rcases h.2 with h2 | ⟨g', cap, cur, e1, e2, e3, e4, e5, e6, e7⟩
    · simp at h2
    · simp only [Value.slice.injEq, Option.some.injEq, Addr.mk.injEq, and_true, true_and] at e1
      obtain ⟨rfl, rfl⟩ := e1
      refine ⟨fun j => ?_, ?_⟩
      · simp only [World.frozen?, e3]
        simp
      · simp only [World.shape?, e3]
        rw [show cur.size = c from by simpa using e6]
theorem ins_a {l D : List Value} {i : Nat} {x : Value} (hi : i ≤ l.length) : ((l.take i ++ [x] ++ l.drop (i + 1)).take (i + 1) ++ D ++ (l.take i ++ [x] ++ l.drop (i + 1)).drop (i + 1 + D.length)).take (i + 1 + D.length) = l.take i ++ [x] ++ D := by
  have h1 : (l.take i ++ [x] ++ l.drop (i + 1)).take (i + 1) = l.take i ++ [x] := List.take_left' (by simp; omega)
  rw [h1, List.take_left' (by simp; omega)]
theorem ins_b {l D : List Value} {i : Nat} {x : Value} (hi : i + 1 + D.length ≤ l.length) : ((l.take (i + 1) ++ D ++ l.drop (i + 1 + D.length)).take i ++ [x] ++ (l.take (i + 1) ++ D ++ l.drop (i + 1 + D.length)).drop (i + 1)).take (i + 1 + D.length) = l.take i ++ [x] ++ D := by
  have h1 : (l.take (i + 1) ++ D ++ l.drop (i + 1 + D.length)).take i = l.take i := by
    rw [List.append_assoc, List.take_append_of_le_length (by simp; omega), List.take_take, Nat.min_eq_left (by omega)]
  have h2 : (l.take (i + 1) ++ D ++ l.drop (i + 1 + D.length)).drop (i + 1) = D ++ l.drop (i + 1 + D.length) := by
    rw [List.append_assoc, List.drop_left' (by simp; omega)]
  rw [h1, h2, ← List.append_assoc, List.take_left' (by simp; omega)]
end
end Go.Sh
namespace Go.Proofs.Ytegcjkhebecgbaa
open Go Go.Sh Go.RowKit Go.Shelf
theorem has119 : HasBody Try.prog 212 := ⟨_, Try.func212, by kernel_rfl, by kernel_rfl⟩
theorem has120 : HasBody Try.prog 213 := ⟨_, Try.func213, by kernel_rfl, by kernel_rfl⟩
section
variable {k : Value → World → Prop} {w0 w : World} {L : List Thing}
/-- One number is taken out. -/
theorem deleteH (H : Apt w0 w L) (i : Nat) {n c j : Nat} {X : Option Addr} {xs : List Int} {j1 : Int} (hi : L[i]? = some (ows X c xs)) (hn : n = xs.length) (hj : j < xs.length) (hj1 : j1 = ((j + 1 : Nat) : Int))
    (h : ∀ w', Apt w0 w' (L.set i (ows X c (xs.take j ++ xs.drop (j + 1)))) → k (.slice X (xs.take j ++ xs.drop (j + 1)).length c) w') : CallK Try.prog 212 [.slice X n c, .int .i64 j, .int .i64 j1] k w := by
  subst hn hj1
  have hr := H.row i hi
  have hX : X ≠ none := by
    intro e
    have := hr.ptr (by omega)
    rw [e] at this
    cases this
  obtain ⟨g, tl, rfl, _, hnc, hcm, _⟩ := Row.full hr hX
  refine ⟨has119, ?_⟩
  refine Calls.mono (Any.slices_Delete_int lay23 g 0 c j (j + 1) xs w (Row.holds hr) hnc hcm (by omega) (by omega)) ?_
  rintro e w' ⟨rfl, q, rfl⟩
  have hr1 : Row (Sort.ahead w q) w0.heap.size 3 1 (some ⟨g, 0, none⟩) xs.length c (ints xs) := hr
  have hlen : (xs.take j ++ xs.drop (j + 1) ++ List.replicate (j + 1 - j) 0).length = xs.length := by
    simp only [List.length_append, List.length_take, List.length_drop, List.length_replicate]
    omega
  obtain ⟨hr2, hg2⟩ := Row.put hr1 hlen
  have hl2 : (xs.take j ++ xs.drop (j + 1)).length = xs.length - 1 := by
    simp only [List.length_append, List.length_take, List.length_drop]
    omega
  have hr3 := Row.cut hr2 (m := xs.length - 1) (by omega)
  rw [show (ints (xs.take j ++ xs.drop (j + 1) ++ List.replicate (j + 1 - j) 0)).take (xs.length - 1) = ints (xs.take j ++ xs.drop (j + 1)) from by
    rw [← hl2]
    unfold ints
    rw [List.map_append, List.take_left' (by simp)]] at hr3
  have hr4 : Row (Sort.putRow (.int .i64) (Sort.ahead w q) g 0 (xs.take j ++ xs.drop (j + 1) ++ List.replicate (j + 1 - j) 0).toArray) w0.heap.size 3 1 (some ⟨g, 0, none⟩) (xs.take j ++ xs.drop (j + 1)).length c (ints (xs.take j ++ xs.drop (j + 1))) := by
    rw [hl2]
    exact hr3
  have := h _ ((H.step (gr_ahead w q)).set hi (gx_of hg2 fun q hq => hq) (fun q hq => .inl hq) (fun q hq => (Row.ge hr4 hq).2) (rwi_kept hr4))
  rw [hl2] at this
  rw [show xs.length - (j + 1 - j) = xs.length - 1 from by omega]
  exact this
/-- One number is put in. -/
theorem insertH (H : Apt w0 w L) (i j : Nat) (hij : i ≠ j) {n c p d : Nat} {X Y : Option Addr} {xs : List Int} {x : Int} (hi : L[i]? = some (ows X c xs)) (hj : L[j]? = some (ows Y d [x])) (hn : n = xs.length) (hp : p ≤ xs.length) (hb : xs.length ≤ 1000)
    (h : ∀ X' c' w', Apt w0 w' (L.set i (ows X' c' (xs.take p ++ [x] ++ xs.drop p))) → k (.slice X' (xs.take p ++ [x] ++ xs.drop p).length c') w') : CallK Try.prog 213 [.slice X n c, .int .i64 p, .slice Y 1 d] k w := by
  subst hn
  refine ⟨has120, ?_⟩
  have hr := H.row i hi
  have hy := H.row j hj
  have hyn : Y ≠ none := fun e => by
    have := hy.ptr (by simp)
    rw [e] at this
    cases this
  obtain ⟨vb, _, rfl, _, hd1, hdm, _⟩ := Row.full hy hyn
  obtain ⟨hyc, hyf, hys⟩ := Row.facts hy
  have hlen : (xs.take p ++ [x] ++ xs.drop p).length = xs.length + 1 := by
    simp only [List.length_append, List.length_take, List.length_drop, List.length_cons, List.length_nil]
    omega
  have fin : ∀ X' c' w', Row w' w0.heap.size 3 1 X' (xs.length + 1) c' (ints (xs.take p ++ [x] ++ xs.drop p)) → w.grownBy w' (blk X) → Moved w X X' → k (.slice X' (xs.length + 1) c') w' := fun X' c' w' hr' hg hm => by
    have hr4 : Row w' w0.heap.size 3 1 X' (xs.take p ++ [x] ++ xs.drop p).length c' (ints (xs.take p ++ [x] ++ xs.drop p)) := by
      rw [hlen]
      exact hr'
    have := h X' c' w' (H.set hi (gx_of hg fun q hq => hq) (fun q hq => by
      rcases hm with e | e
      · exact .inl (show blk X = some q from e ▸ (show blk X' = some q from hq))
      · exact .inr (e q hq)) (fun q hq => (Row.ge hr4 hq).2) (rwi_kept hr4))
    rwa [hlen] at this
  have hxi : ints (xs.take p ++ [x] ++ xs.drop p) = (ints xs).take p ++ [.int .i64 x] ++ (ints xs).drop p := by simp [ints, List.map_take, List.map_drop]
  have hil : (ints xs).length = xs.length := ints_length xs
  have hsz := H.gr.size
  have h1v : ∀ v ∈ [Value.int .i64 x], v.oneCell' = true := by intro v hv; simp at hv; subst hv; rfl
  have hyc' : ∀ j v, [Value.int .i64 x][j]? = some v → w.cell? ⟨vb, 0 + j, none⟩ = some v := hyc
  -- a new block
  have fresh : ∀ (arr : Array Value) (N : Nat) (wz : World), wz.heap.size = w.heap.size → arr.size = N → N ≤ 9223372036854775807 → Row (wz.alloc (.cells arr 3)) w0.heap.size 3 1 (some ⟨w.heap.size, 0, none⟩) N N arr.toList := fun arr N wz hwz ha hN => by
    have := Row.new (w := wz) (B := w0.heap.size) (e := 3) (sz := 1) (n := N) (cs := arr.toList) (by omega) hN (by simp [ha])
    rwa [hwz] at this
  by_cases hXn : X = none
  case pos =>
    subst hXn
    have hx0 : xs.length = 0 ∧ c = 0 := by
      rcases hr.2 with ⟨e1, e2⟩ | ⟨g, cap, cur, e1, _⟩
      · simp only [Value.slice.injEq] at e1
        exact ⟨e1.2.1, e1.2.2⟩
      · simp at e1
    obtain ⟨h0, rfl⟩ := hx0
    obtain rfl : p = xs.length := by omega
    refine Calls.mono (Any2.slices_Insert_int_end_grow lay21 none xs.length 0 vb 0 1 d (ints xs) [.int .i64 x] w (by omega) (by omega) (by omega) (by omega) hil rfl (fun _ => h0) (fun a e => by cases e) hyc' h1v) ?_
    rintro e w' ⟨rfl, rfl⟩
    have hge := grownCap_ge w (xs.length + 1) 0 3
    have hle := grownCap_le_maxLen w (xs.length + 1) 0 3 (by unfold maxLen; omega)
    have hf := fresh ((ints xs ++ [Value.int .i64 x]).toArray ++ Builtin.zeroCells (Value.int .i64 0).cells (grownCap w (xs.length + 1) 0 3 - (xs.length + 1))) (grownCap w (xs.length + 1) 0 3) w.drew rfl (by
      rw [Array.size_append, size_zeroCells, List.size_toArray, List.length_append, hil]
      show xs.length + 1 + _ * 1 = _
      omega) (by unfold maxLen at hle; omega)
    have hf := Row.cut hf (m := xs.length + 1) hge
    rw [Array.toList_append, List.take_left' (by simp [hil])] at hf
    refine fin _ _ _ ?_ (gr_any (gr_trans (gr_drew w) (gr_alloc _ _)) _) (.inr fun q hq => by cases hq; exact Nat.le_refl _)
    rw [hxi, List.take_of_length_le (by omega), List.drop_of_length_le (by omega), List.append_nil]
    exact hf
  obtain ⟨g, tl, rfl, htl, hnc, hcm, hfull⟩ := Row.full hr hXn
  obtain ⟨hcs, hfz, hsh⟩ := Row.facts hr
  obtain ⟨hcf, _, _⟩ := Row.facts hfull
  have hfl : (ints xs ++ tl).length = c := by rw [List.length_append, hil]; omega
  have hsome : ∀ j, j < c → (w.cell? ⟨g, 0 + j, none⟩).isSome = true := fun j hj => by
    rw [hcf j ((ints xs ++ tl)[j]'(by omega)) (List.getElem?_eq_getElem (by omega))]
    rfl
  by_cases hroom : xs.length + 1 ≤ c
  · have hne : vb ≠ g := fun e => H.two i j _ _ hij hi hj g (show blk (some ⟨g, 0, none⟩) = some g from rfl) (show blk (some ⟨vb, 0, none⟩) = some g from by rw [e]; rfl)
    by_cases hpe : p = xs.length
    · subst hpe
      refine Calls.mono (Any2.slices_Insert_int_end_room lay21 g 0 xs.length c vb 0 1 d [.int .i64 x] w (by omega) hroom hcm rfl (fun j hj => by
        have := hsome (xs.length + j) (by omega)
        rwa [← Nat.add_assoc] at this) (fun j hj => hfz _) hyc' h1v) ?_
      rintro e w' ⟨rfl, rfl⟩
      rw [Nat.zero_add]
      obtain ⟨r1, g1⟩ := Row.setCells [Value.int .i64 x] hfull xs.length (by simpa using hroom)
      have r1 := Row.cut r1 (m := xs.length + 1) hroom
      refine fin _ _ _ ?_ g1 (.inl rfl)
      rw [hxi, List.take_of_length_le (by omega), List.drop_of_length_le (by omega), List.append_nil]
      rwa [List.take_left' (by simp [hil]), List.take_left' hil] at r1
    · have hpl : p < xs.length := by omega
      refine Calls.mono (Any2.slices_Insert_int_shift lay21 g 0 xs.length c p vb 0 1 d (ints xs) [.int .i64 x] w hpl (by omega) hroom hcm hne hil rfl hcs (fun j hj => hsome j (by omega)) (fun j hj => hfz _) hyc' (fun v hv => by
        simp only [ints, List.mem_map] at hv
        obtain ⟨a, _, rfl⟩ := hv
        rfl) h1v 3 3 d c hys hsh (by omega) (hyf _) (hyf _)) ?_
      rintro e w' ⟨rfl, rfl⟩
      rw [Nat.zero_add, Nat.zero_add]
      have hdl : ((ints xs).drop p).length = xs.length - p := by rw [List.length_drop, hil]
      have hfd : Row w.drew w0.heap.size 3 1 (some ⟨g, 0, none⟩) c c (ints xs ++ tl) := hfull
      obtain ⟨r1, g1⟩ := Row.setCells ((ints xs).drop p) hfd (p + 1) (by omega)
      obtain ⟨r2, g2⟩ := Row.setCells [Value.int .i64 x] r1 p (by simp; omega)
      have r2 := Row.cut r2 (m := xs.length + 1) hroom
      refine fin _ _ _ ?_ (grownBy_trans (grownBy_trans (gr_any (gr_drew w) _) g1) g2) (.inl rfl)
      have e1 : xs.length + 1 = p + 1 + ((ints xs).drop p).length := by omega
      have e2 := ins_b (l := ints xs ++ tl) (D := (ints xs).drop p) (i := p) (x := .int .i64 x) (by omega)
      rw [List.take_append_of_le_length (show p ≤ (ints xs).length by omega)] at e2
      rw [← e1] at e2 r2
      rw [hxi, ← e2]
      exact r2
  · by_cases hpe : p = xs.length
    · subst hpe
      refine Calls.mono (Any2.slices_Insert_int_end_grow lay21 (some ⟨g, 0, none⟩) xs.length c vb 0 1 d (ints xs) [.int .i64 x] w (by omega) hnc (by omega) (by omega) hil rfl (fun e => by cases e) (fun a ea j v hv => by
        cases ea
        rw [add_plain]
        exact hcs j v hv) hyc' h1v) ?_
      rintro e w' ⟨rfl, rfl⟩
      have hge := grownCap_ge w (xs.length + 1) c 3
      have hle := grownCap_le_maxLen w (xs.length + 1) c 3 (by unfold maxLen; omega)
      have hf := fresh ((ints xs ++ [Value.int .i64 x]).toArray ++ Builtin.zeroCells (Value.int .i64 0).cells (grownCap w (xs.length + 1) c 3 - (xs.length + 1))) (grownCap w (xs.length + 1) c 3) w.drew rfl (by
        rw [Array.size_append, size_zeroCells, List.size_toArray, List.length_append, hil]
        show xs.length + 1 + _ * 1 = _
        omega) (by unfold maxLen at hle; omega)
      have hf := Row.cut hf (m := xs.length + 1) hge
      rw [Array.toList_append, List.take_left' (by simp [hil])] at hf
      refine fin _ _ _ ?_ (gr_any (gr_trans (gr_drew w) (gr_alloc _ _)) _) (.inr fun q hq => by cases hq; exact Nat.le_refl _)
      rw [hxi, List.take_of_length_le (by omega), List.drop_of_length_le (by omega), List.append_nil]
      exact hf
    · have hpl : p < xs.length := by omega
      refine Calls.mono (Any2.slices_Insert_int_grow lay21 g 0 xs.length c p vb 0 1 d (ints xs) [.int .i64 x] w hpl (by omega) hnc (by omega) (by omega) hil rfl hcs hyc' (fun v hv => by
        simp only [ints, List.mem_map] at hv
        obtain ⟨a, _, rfl⟩ := hv
        rfl) h1v) ?_
      rintro e w' ⟨rfl, rfl⟩
      rw [show rho.t 3 = 3 from rfl]
      have hge := grownCap_ge w (xs.length + 1) c 3
      have hle := grownCap_le_maxLen w (xs.length + 1) c 3 (by unfold maxLen; omega)
      have hdl : ((ints xs).drop p).length = xs.length - p := by rw [List.length_drop, hil]
      have htl : ((ints xs).take p).length = p := by rw [List.length_take, hil]; omega
      have hf := fresh (((ints xs).take p).toArray ++ Builtin.zeroCells (Value.int .i64 0).cells (xs.length + 1 - p) ++ Builtin.zeroCells (Value.int .i64 0).cells (grownCap w (xs.length + 1) c 3 - (xs.length + 1))) (grownCap w (xs.length + 1) c 3) w rfl (by
        rw [Array.size_append, Array.size_append, size_zeroCells, size_zeroCells, List.size_toArray, htl]
        show p + _ * 1 + _ * 1 = _
        omega) (by unfold maxLen at hle; omega)
      have htk : (((ints xs).take p).toArray ++ Builtin.zeroCells (Value.int .i64 0).cells (xs.length + 1 - p) ++ Builtin.zeroCells (Value.int .i64 0).cells (grownCap w (xs.length + 1) c 3 - (xs.length + 1))).toList.take p = (ints xs).take p := by
        rw [Array.toList_append, Array.toList_append, List.append_assoc, List.take_left' htl]
      have hal : (((ints xs).take p).toArray ++ Builtin.zeroCells (Value.int .i64 0).cells (xs.length + 1 - p) ++ Builtin.zeroCells (Value.int .i64 0).cells (grownCap w (xs.length + 1) c 3 - (xs.length + 1))).toList.length = grownCap w (xs.length + 1) c 3 := by
        have := hf.1
        omega
      generalize hN : grownCap w (xs.length + 1) c 3 = NN at *
      generalize harr : (((ints xs).take p).toArray ++ Builtin.zeroCells (Value.int .i64 0).cells (xs.length + 1 - p) ++ Builtin.zeroCells (Value.int .i64 0).cells (NN - (xs.length + 1))) = arr at *
      have ga : Gr w (w.alloc (.cells arr 3)).drew := gr_trans (gr_alloc _ _) (gr_drew _)
      have r0 : Row (w.alloc (.cells arr 3)).drew w0.heap.size 3 1 (some ⟨w.heap.size, 0, none⟩) NN NN arr.toList := hf
      obtain ⟨r1, g1⟩ := Row.setCells [Value.int .i64 x] r0 p (by simp; omega)
      have ga1 := gr_trans (gr_mod ga g1 fun q hq => by cases hq; exact Nat.le_refl _) (gr_drew _)
      have r1' : Row (((w.alloc (.cells arr 3)).drew.setCells w.heap.size p [Value.int .i64 x]).drew) w0.heap.size 3 1 (some ⟨w.heap.size, 0, none⟩) NN NN (arr.toList.take p ++ [Value.int .i64 x] ++ arr.toList.drop (p + 1)) := r1
      obtain ⟨r2, g2⟩ := Row.setCells ((ints xs).drop p) r1' (p + 1) (by omega)
      have ga2 := gr_mod ga1 g2 fun q hq => by cases hq; exact Nat.le_refl _
      have r2 := Row.cut r2 (m := xs.length + 1) hge
      have e1 : xs.length + 1 = p + 1 + ((ints xs).drop p).length := by omega
      have e2 := ins_a (l := arr.toList) (D := (ints xs).drop p) (i := p) (x := .int .i64 x) (by omega)
      rw [← e1] at e2 r2
      refine fin _ _ _ ?_ (gr_any ga2 _) (.inr fun q hq => by cases hq; exact Nat.le_refl _)
      rw [hxi, ← htk, ← e2]
      exact r2
end
end Go.Proofs.Ytegcjkhebecgbaa

/- Contract: one change of a word, by the program. -/
set_option linter.unusedVariables false
set_option linter.unusedSimpArgs false
set_option maxRecDepth 100000
namespace Go.Proofs.Ytegcjkhebecgbaa
open Go Go.Sh Go.RowKit
theorem putHW {k : Value → World → Prop} {w0 w : World} {L : List Thing} (H : Apt w0 w L) (i : Nat) {j c : Nat} {X : Option Addr} {xs : List Int} {x : Int} (hi : L[i]? = some (ows X c xs)) (hj : j < xs.length)
    (h : ∀ w', Apt w0 w' (L.set i (ows X c (xs.set j x))) → k undef w') : Do Try.prog (sStore 3 (.pointer (some ((ad X).add j))) (.int .i64 x)) k w := by
  refine do_store_row sz3 rfl rfl (H.row i hi) (by omega) fun w' g hs hr => ?_
  have hr' : Row w' w0.heap.size 3 1 X (xs.set j x).length c (ints (xs.set j x)) := by
    rw [List.length_set, show ints (xs.set j x) = (ints xs).set j (.int .i64 x) from by simp [ints]]
    exact hr
  exact h w' (H.set hi (gx_of g fun q hq => hq) (fun q hq => .inl hq) (fun q hq => (Row.ge hr' hq).2) (rwi_kept hr'))
theorem implChangeWord_c {F : Nat → Prop} {w : World} {v : Value} {gm : Gram} {kd pt tok : Int} {X : Option Addr} {n cx : Nat} {ws : List Int} (hv : GramV F w v gm) (hX : Ints w X ws) (hn : n = ws.length) {k : Value → World → Prop}
    (hk : ∀ w' U d, Gr w w' → Own 3 w' w.heap.size U d (changeV gm ws kd pt tok).1 → k (.tuple #[.slice U (changeV gm ws kd pt tok).1.length d, .bool (changeV gm ws kd pt tok).2]) w') :
    CallK Try.prog 96 [v, .slice X n cx, .int .i64 kd, .int .i64 pt, .int .i64 tok] k w := by
  subst hn
  obtain ⟨Y, cy, rfl, hc, hy⟩ := hv
  refine enter96 ?_
  unfold S96
  have H := Apt.nil w
  refine boxH H fun b1 w1 H => ?_
  refine rdi (ldB_agg agg26 sz26 rfl (H.box 0 rfl)) ?_
  have no : ¬ ChgOk gm ws kd pt tok → ∀ w', Gr w w' → k (.tuple #[.slice none 0 0, .bool false]) w' := fun h w' g => by
    rw [changeV, if_neg h] at hk
    exact hk w' none 0 g (Row.nil _ _ _ _)
  refine isGrammar_c (gm := gm) ⟨Y, cy, rfl, hc, hy.gr H.gr⟩ fun w2 g2 => ?_
  have H := H.step g2
  cases hg : goodG gm
  · simp only [Bool.not_false, go_sem, Nat.reduceEqDiff]
    exact no (fun h => by have := h.1; rw [hg] at this; cases this) _ H.gr
  simp only [Bool.not_true, go_sem, Nat.reduceEqDiff]
  have htk := good_toks hg
  refine rdi (ldB3 (H.box 0 rfl) rfl) ?_
  refine isWord_c (hX.gr H.gr) rfl htk.1 htk.2 fun w3 g3 => ?_
  have H := H.step g3
  cases hw : wordB gm.toks ws
  · simp only [Bool.not_false, go_sem, Nat.reduceEqDiff]
    exact no (fun h => by have := h.2.1; rw [hw] at this; cases this) _ H.gr
  simp only [Bool.not_true, go_sem, Nat.reduceEqDiff]
  by_cases h8 : ws.length ≤ 8
  case neg =>
    simp only [show ((8 : Int) < ws.length) from by omega, decide_true, go_sem, Nat.reduceEqDiff]
    exact no (fun h => h8 h.2.2.1) _ H.gr
  simp only [show ¬ ((8 : Int) < ws.length) from by omega, decide_false, go_sem, Nat.reduceEqDiff]
  refine rdi (ldB3 (H.box 0 rfl) rfl) ?_
  simp only [go_sem, Nat.reduceEqDiff]
  rw [i64_of (by omega) (by omega)]
  refine in_c ?_
  rw [inB_dec]
  by_cases htok : 0 ≤ tok ∧ tok ≤ gm.toks - 1
  case neg =>
    rw [decide_eq_false htok]
    simp only [Bool.not_false, go_sem, Nat.reduceEqDiff]
    exact no (fun h => htok h.2.2.2.1) _ H.gr
  rw [decide_eq_true htok]
  simp only [Bool.not_true, go_sem, Nat.reduceEqDiff]
  refine in_c ?_
  rw [inB_dec]
  by_cases hpt : 0 ≤ pt ∧ pt ≤ ws.length
  case neg =>
    rw [decide_eq_false hpt]
    simp only [Bool.not_false, go_sem, Nat.reduceEqDiff]
    exact no (fun h => hpt h.2.2.2.2.1) _ H.gr
  rw [decide_eq_true hpt]
  obtain ⟨p, rfl⟩ : ∃ p : Nat, pt = p := ⟨pt.toNat, by omega⟩
  have hp : p ≤ ws.length := by omega
  simp only [Bool.not_true, go_sem, Nat.reduceEqDiff]
  simp only [List.nil_append] at H
  refine buildH H u27 inf3 [] (by decide) (by decide) (by simp [Instr.fill, madeCells]) rfl fun b2 w4 H => ?_
  simp only [List.nil_append, List.cons_append] at H
  refine apH H 1 (xs := []) rfl (hX.gr H.gr) rfl rfl (by simp; omega) fun X1 d1 w5 H => ?_
  simp only [List.set_cons_zero, List.set_cons_succ, List.nil_append] at H ⊢
  rcases (show kd = 0 ∨ kd = 1 ∨ kd = 2 ∨ (kd ≠ 0 ∧ kd ≠ 1 ∧ kd ≠ 2) by omega) with rfl | rfl | rfl | ⟨k0, k1, k2⟩
  · simp only [show ((0 : Int) = 0) from rfl, show ¬ ((0 : Int) = 1) from by decide, show ¬ ((0 : Int) = 2) from by decide, decide_true, decide_false, go_sem, Nat.reduceEqDiff]
    by_cases ht0 : tok = 0
    case neg =>
      simp only [ht0, decide_false, go_sem, Nat.reduceEqDiff]
      exact no (fun h => by rcases h.2.2.2.2.2 with h | h | h <;> omega) _ H.gr
    by_cases hpl : p < ws.length
    case neg =>
      simp only [ht0, show ¬ ((p : Int) < ws.length) from by omega, decide_true, decide_false, go_sem, Nat.reduceEqDiff]
      exact no (fun h => by rcases h.2.2.2.2.2 with h | h | h <;> omega) _ H.gr
    simp only [ht0, show ((p : Int) < ws.length) from by omega, decide_true, go_sem, Nat.reduceEqDiff]
    rw [i64_of (by omega) (by omega)]
    refine deleteH H 1 rfl rfl hpl (by omega) fun w6 H => ?_
    simp only [List.set_cons_zero, List.set_cons_succ] at H
    rw [changeV, if_pos ⟨hg, hw, h8, htok, hpt, by omega⟩, Int.toNat_natCast] at hk
    have hL : chgL ws 0 p tok = ws.take p ++ ws.drop (p + 1) := by
      unfold chgL
      rw [if_neg (by decide), if_neg (by decide), List.nil_append]
    dsimp only at hk
    rw [hL] at hk
    exact hk _ _ _ H.gr (H.own 1 rfl)
  · simp only [show ((1 : Int) = 1) from rfl, show ¬ ((1 : Int) = 0) from by decide, show ¬ ((1 : Int) = 2) from by decide, decide_true, decide_false, go_sem, Nat.reduceEqDiff]
    by_cases h7 : ws.length < 8
    case neg =>
      simp only [show ¬ ((ws.length : Int) < 8) from by omega, decide_false, go_sem, Nat.reduceEqDiff]
      exact no (fun h => by rcases h.2.2.2.2.2 with h | h | h <;> omega) _ H.gr
    simp only [show ((ws.length : Int) < 8) from by omega, decide_true, go_sem, Nat.reduceEqDiff]
    refine buildH H u27 inf3 [.int .i64 tok] (by decide) (by decide) (by simp [Instr.fill, madeCells, Value.cells, rng1]) rfl fun b3 w6 H => ?_
    simp only [List.nil_append, List.cons_append] at H
    refine insertH H 1 2 (by decide) rfl rfl rfl hp (by omega) fun X2 d2 w7 H => ?_
    simp only [List.set_cons_zero, List.set_cons_succ] at H
    rw [changeV, if_pos ⟨hg, hw, h8, htok, hpt, by omega⟩, Int.toNat_natCast] at hk
    have hL : chgL ws 1 p tok = ws.take p ++ [tok] ++ ws.drop p := by
      unfold chgL
      rw [if_pos (by decide), if_pos rfl, List.append_assoc]
    dsimp only at hk
    rw [hL] at hk
    exact hk _ _ _ H.gr (H.own 1 rfl)
  · simp only [show ((2 : Int) = 2) from rfl, show ¬ ((2 : Int) = 0) from by decide, show ¬ ((2 : Int) = 1) from by decide, decide_true, decide_false, go_sem, Nat.reduceEqDiff]
    by_cases hpl : p < ws.length
    case neg =>
      simp only [show ¬ ((p : Int) < ws.length) from by omega, decide_false, go_sem, Nat.reduceEqDiff]
      exact no (fun h => by rcases h.2.2.2.2.2 with h | h | h <;> omega) _ H.gr
    simp only [show ((p : Int) < ws.length) from by omega, decide_true, go_sem, Nat.reduceEqDiff]
    refine rdi (ixn27 (fun h => (H.ints 1 rfl).ptr h) hpl) ?_
    refine putHW H 1 rfl hpl fun w6 H => ?_
    simp only [List.set_cons_zero, List.set_cons_succ] at H
    rw [changeV, if_pos ⟨hg, hw, h8, htok, hpt, by omega⟩, Int.toNat_natCast] at hk
    have hL : chgL ws 2 p tok = ws.set p tok := by
      unfold chgL
      rw [if_pos (by decide), if_neg (by decide), List.set_eq_take_append_cons_drop, if_pos hpl]
      rfl
    dsimp only at hk
    rw [hL, List.length_set] at hk
    exact hk _ _ _ H.gr (H.own 1 rfl)
  · simp only [k0, k1, k2, decide_false, go_sem, Nat.reduceEqDiff]
    exact no (fun h => by rcases h.2.2.2.2.2 with h | h | h <;> omega) _ H.gr
end Go.Proofs.Ytegcjkhebecgbaa

/- Contracts: MendTable of the reference and of the program. -/
set_option linter.unusedVariables false
set_option linter.unusedSimpArgs false
set_option maxRecDepth 100000
namespace Go.Proofs.Ytegcjkhebecgbaa
open Go Go.Sh Go.RowKit
theorem specMendTable_c {F : Nat → Prop} {w : World} {v : Value} {gm : Gram} {X : Option Addr} {n0 cx : Nat} {ws : List Int} (hv : GramV F w v gm) (hX : Ints w X ws) (hn : n0 = ws.length) (hcx : ws.length ≤ cx) {k : Value → World → Prop}
    (hk : ∀ w' U d, Gr w w' → Own 3 w' w.heap.size U d (mendTableV gm ws).1 → k (.tuple #[.slice U (mendTableV gm ws).1.length d, .bool (mendTableV gm ws).2]) w') :
    CallK Try.prog 106 [v, .slice X n0 cx] k w := by
  subst hn
  obtain ⟨Y, cy, rfl, hc, hy⟩ := hv
  refine enter106 ?_
  unfold S106
  have H := Apt.nil w
  refine boxH H fun b1 w1 H => ?_
  rw [ldB_agg agg26 sz26 rfl (H.box 0 rfl)]
  refine l17Word'_c (gm := gm) ⟨Y, cy, rfl, hc, hy.gr H.gr⟩ (hX.gr H.gr) rfl fun w2 g2 => ?_
  have H := H.step g2
  unfold mendTableV at hk
  cases hok : mendOk gm ws
  · simp only [Bool.not_false, go_sem, Nat.reduceEqDiff]
    rw [hok, if_neg Bool.false_ne_true] at hk
    exact hk _ none 0 H.gr (Row.nil _ _ _ _)
  simp only [Bool.not_true, go_sem, Nat.reduceEqDiff]
  rw [hok, if_pos rfl] at hk
  simp only [mendOk, Bool.and_eq_true, decide_eq_true_eq] at hok
  have hn6 := good_nons hok.1.1
  rw [i64_of (by omega) (by omega)]
  rw [ldB_agg agg26 sz26 rfl (H.box 0 rfl)]
  refine l17Table_c (gm := gm) ⟨Y, cy, rfl, hc, hy.gr H.gr⟩ hok.1.1 (hX.gr H.gr) rfl hcx (by omega) fun w3 U c nons T g3 hnn hT hS hF => ?_
  have G3 := gr_trans H.gr g3
  have hTe := mendT_spec hok.1.1 hok.2 hF
  have hk : ∀ w' U d, Gr w w' → Own 3 w' w.heap.size U d (tellT T (ws.length + 1) nons) → k (.tuple #[.slice U (tellT T (ws.length + 1) nons).length d, .bool true]) w' := fun w' U d g o => by
    have := hk w' U d g
    rw [hnn, Int.toNat_natCast] at this
    dsimp only at this
    rw [← tellT_congr hTe nons] at this
    exact this o
  clear hTe hF hS
  generalize hN : ws.length + 1 = n at *
  have hNi : ((ws.length : Int) + 1) = (n : Int) := by omega
  rw [hNi]
  have hnn9 : n * n ≤ 9 * 9 := Nat.mul_le_mul (by omega) (by omega)
  have K := (Apt.nil w3).addOwn (Gr.refl w3) (show Own 3 w3 w3.heap.size none 0 [] from Row.nil _ _ _ _)
  simp only [List.nil_append] at K
  simp only [go_sem, Nat.reduceEqDiff]
  refine loop_to nons 0 (fun x f w' => x ≤ nons ∧ f 22 = .int .i64 x ∧ ∃ V d, f 7 = .slice V (tellT T n x).length d ∧ Apt w3 w' [ows V d (tellT T n x)]) ⟨Nat.zero_le _, rfl, none, 0, rfl, K⟩ ?_
  clear K
  rintro x f w4 N hag ⟨hx, h22, V, d, h7, K⟩ hN'
  have f20 : f 20 = .slice U nons c := hag 20 (by decide)
  have f21 : f 21 = .int .i64 nons := hag 21 (by decide)
  have f6 : f 6 = .int .i64 n := hag 6 (by decide)
  simp only [f20, f21, f6, h22, go_sem, Nat.reduceEqDiff]
  by_cases hlt : x < nons
  case neg =>
    simp only [show ¬ ((x : Int) < nons) from by omega, decide_false, go_sem, Nat.reduceEqDiff]
    obtain rfl : x = nons := by omega
    rw [h7]
    exact hk _ V d (gr_trans G3 K.gr) (Row.mono (K.own 0 rfl) G3.size)
  simp only [show (x : Int) < nons from by omega, decide_true, go_sem, Nat.reduceEqDiff]
  obtain ⟨R, c', h1, h2, h3⟩ := hT.ints (by omega) hlt
  refine rdi (ixn35 (fun h => hT.ptr h) hlt) (rdi (ld27 (K.gr.cell h1)) ?_)
  refine loop_to n 0 (fun i f w' => i ≤ n ∧ f 10 = .int .i64 i ∧ ∃ V d, f 7 = .slice V (tellT T n x ++ partT T n x i).length d ∧ Apt w3 w' [ows V d (tellT T n x ++ partT T n x i)]) ⟨Nat.zero_le _, rfl, V, d, by rw [show partT T n x 0 = [] from rfl, List.append_nil]; exact h7, by rw [show partT T n x 0 = [] from rfl, List.append_nil]; exact K⟩ ?_
  clear K h7
  rintro i g w5 N2 hag2 ⟨hi, h10, V, d, h7, K⟩ hN2
  have g6 : g 6 = .int .i64 n := (hag2 6 (by decide)).trans f6
  have g9 : g 9 = .slice R (n * n) c' := hag2 9 (by decide)
  have g22 : g 22 = .int .i64 x := (hag2 22 (by decide)).trans h22
  simp only [g6, g9, g22, h10, h7, go_sem, Nat.reduceEqDiff]
  by_cases hin : i < n
  case neg =>
    simp only [show ¬ ((i : Int) < n) from by omega, decide_false, go_sem, Nat.reduceEqDiff]
    rw [i64_of (by omega) (by omega)]
    obtain rfl : i = n := by omega
    exact hN' _ _ hlt ⟨hlt, rfl, V, d, by rw [tellT_next]; exact h7, by rw [tellT_next]; exact K⟩
  simp only [show (i : Int) < n from by omega, decide_true, go_sem, Nat.reduceEqDiff]
  have hin1 : i * n + n ≤ n * n := by
    have : (i + 1) * n ≤ n * n := Nat.mul_le_mul_right n hin
    rw [Nat.add_mul] at this
    omega
  have hmul : (i : Int) * (n : Int) = ((i * n : Nat) : Int) := by push_cast; rfl
  rw [hmul, i64_of (n := ((i * n : Nat) : Int)) (by omega) (by omega), i64_of (n := ((i * n : Nat) : Int) + (i : Int)) (by omega) (by omega), i64_of (n := ((i * n : Nat) : Int) + (n : Int)) (by omega) (by omega)]
  refine rdi (sl27 (by omega) (by omega) (by omega)) ?_
  rw [show (((i * n : Nat) : Int) + (i : Int)).toNat = i * n + i from by omega, show (((i * n : Nat) : Int) + (n : Int)).toNat = i * n + n from by omega, show i * n + n - (i * n + i) = n - i from by omega]
  have hsub := h3.sub (l := i * n + i) (c := c') (by rw [rowN_length]; omega) (by rw [rowN_length]; exact h2) (n - i)
  rw [rowN_seg hin] at hsub
  have hl1 := tellT_len T n x
  have hl2 := partT_len T n x i
  have hl3 := segT_len T n x i
  have hl4 : x * (n * n) ≤ 6 * (9 * 9) := Nat.mul_le_mul (by omega) hnn9
  have hl5 : i * n ≤ 9 * 9 := by omega
  refine apH K 0 rfl (hsub.gr K.gr) rfl hl3.symm (by rw [List.length_append]; omega) fun V1 d1 w6 K => ?_
  simp only [List.set_cons_zero] at K
  rw [i64_of (by omega) (by omega)]
  exact hN2 _ _ hin ⟨hin, rfl, V1, d1, by rw [partT_next, ← List.append_assoc]; rfl, by rw [partT_next, ← List.append_assoc]; exact K⟩
theorem implMendTable_c {F : Nat → Prop} {w : World} {v : Value} {gm : Gram} {X : Option Addr} {n0 cx : Nat} {ws : List Int} (hv : GramV F w v gm) (hX : Ints w X ws) (hn : n0 = ws.length) (hcx : ws.length ≤ cx) {k : Value → World → Prop}
    (hk : ∀ w' U d, Gr w w' → Own 3 w' w.heap.size U d (mendTableV gm ws).1 → k (.tuple #[.slice U (mendTableV gm ws).1.length d, .bool (mendTableV gm ws).2]) w') :
    CallK Try.prog 105 [v, .slice X n0 cx] k w := by
  subst hn
  obtain ⟨Y, cy, rfl, hc, hy⟩ := hv
  refine enter105 ?_
  unfold S105
  have H := Apt.nil w
  refine boxH H fun b1 w1 H => ?_
  rw [ldB_agg agg26 sz26 rfl (H.box 0 rfl)]
  refine isGrammar_c (gm := gm) ⟨Y, cy, rfl, hc, hy.gr H.gr⟩ fun w2 g2 => ?_
  have H := H.step g2
  have no : mendOk gm ws = false → ∀ w', Gr w w' → k (.tuple #[.slice none 0 0, .bool false]) w' := fun h w' g => by
    have := hk w' none 0 g
    unfold mendTableV at this
    rw [h, if_neg Bool.false_ne_true] at this
    exact this (Row.nil _ _ _ _)
  cases hg : goodG gm
  · simp only [Bool.not_false, go_sem, Nat.reduceEqDiff]
    exact no (by unfold mendOk; rw [hg]; rfl) _ H.gr
  simp only [Bool.not_true, go_sem, Nat.reduceEqDiff]
  have ht := good_toks hg
  rw [ldB3 (H.box 0 rfl) rfl]
  refine isWord_c (hX.gr H.gr) rfl ht.1 ht.2 fun w3 g3 => ?_
  have H := H.step g3
  cases hgw : wordB gm.toks ws
  · simp only [Bool.not_false, go_sem, Nat.reduceEqDiff]
    exact no (by unfold mendOk; rw [hg, hgw]; rfl) _ H.gr
  simp only [Bool.not_true, go_sem, Nat.reduceEqDiff]
  by_cases h8 : ws.length ≤ 8
  case neg =>
    simp only [show ((8 : Int) < ws.length) from by omega, decide_true, go_sem, Nat.reduceEqDiff]
    exact no (by unfold mendOk; rw [hg, hgw, decide_eq_false h8]; rfl) _ H.gr
  simp only [show ¬ ((8 : Int) < ws.length) from by omega, decide_false, go_sem, Nat.reduceEqDiff]
  have hok : mendOk gm ws = true := by unfold mendOk; rw [hg, hgw, decide_eq_true h8]; rfl
  unfold mendTableV at hk
  rw [hok, if_pos rfl] at hk
  have hn6 := good_nons hg
  rw [ldB_agg agg26 sz26 rfl (H.box 0 rfl)]
  refine mends_c (gm := gm) ⟨Y, cy, rfl, hc, hy.gr H.gr⟩ hg (hX.gr H.gr) rfl hcx h8 fun w4 b T HT hS hF => ?_
  have hTe : T = mendT gm ws := hF.eq
  rw [← hTe] at hk
  clear hTe hS hF
  have H := H.step HT.gr
  have G4 := H.gr
  have hb := HT.box 0 rfl
  have K := Apt.nil w4
  refine buildH K u27 inf3 [] (by decide) (by decide) (by simp [Instr.fill, madeCells]) rfl fun b9 w9 K => ?_
  simp only [List.nil_append] at K
  obtain ⟨nons, hnn⟩ : ∃ n : Nat, gm.nons = n := ⟨gm.nons.toNat, by omega⟩
  rw [ldB3 (H.box 0 rfl |>.gr K.gr) rfl]
  rw [hnn, Int.toNat_natCast] at hk
  dsimp only at hk
  rw [hnn]
  generalize hN : ws.length + 1 = n at *
  have hNi : ((ws.length : Int) + 1) = (n : Int) := by omega
  have hnn9 : n * n ≤ 9 * 9 := Nat.mul_le_mul (by omega) (by omega)
  refine loop_to nons 0 (fun x f w' => x ≤ nons ∧ f 31 = .int .i64 x ∧ ∃ V d, f 7 = .slice V (tellT T n x).length d ∧ Apt w4 w' [ows V d (tellT T n x)]) ⟨Nat.zero_le _, rfl, _, _, rfl, K⟩ ?_
  clear K
  rintro x f w10 N hag ⟨hx, h31, V, d, h7, K⟩ hN'
  have f30 : f 30 = .int .i64 nons := hag 30 (by decide)
  have f6 : f 6 = ptrv b := hag 6 (by decide)
  have f1 : f 1 = .slice X ws.length cx := hag 1 (by decide)
  simp only [f30, f1, h31, go_sem, Nat.reduceEqDiff]
  by_cases hlt : x < nons
  case neg =>
    simp only [show ¬ ((x : Int) < nons) from by omega, decide_false, go_sem, Nat.reduceEqDiff]
    obtain rfl : x = nons := by omega
    rw [h7]
    exact hk _ V d (gr_trans G4 K.gr) (Row.mono (K.own 0 rfl) G4.size)
  simp only [show (x : Int) < nons from by omega, decide_true, go_sem, Nat.reduceEqDiff]
  rw [hNi, i64_of (n := (n : Int)) (by omega) (by omega)]
  refine loop_to n 0 (fun i f w' => i ≤ n ∧ f 37 = .int .i64 i ∧ ∃ V d, f 7 = .slice V (tellT T n x ++ partT T n x i).length d ∧ Apt w4 w' [ows V d (tellT T n x ++ partT T n x i)]) ⟨Nat.zero_le _, rfl, V, d, by rw [show partT T n x 0 = [] from rfl, List.append_nil]; exact h7, by rw [show partT T n x 0 = [] from rfl, List.append_nil]; exact K⟩ ?_
  clear K h7
  rintro i g w11 N2 hag2 ⟨hi, h37, V, d, h7, K⟩ hN2
  have g36 : g 36 = .int .i64 n := hag2 36 (by decide)
  have g6 : g 6 = ptrv b := (hag2 6 (by decide)).trans f6
  have g1 : g 1 = .slice X ws.length cx := (hag2 1 (by decide)).trans f1
  have g8 : g 8 = .int .i64 x := hag2 8 (by decide)
  have g31 : g 31 = .int .i64 x := (hag2 31 (by decide)).trans h31
  simp only [g36, g6, g1, g8, g31, h37, h7, go_sem, Nat.reduceEqDiff]
  by_cases hin : i < n
  case neg =>
    simp only [show ¬ ((i : Int) < n) from by omega, decide_false, go_sem, Nat.reduceEqDiff]
    rw [i64_of (by omega) (by omega)]
    obtain rfl : i = n := by omega
    exact hN' _ _ hlt ⟨hlt, rfl, V, d, by rw [tellT_next]; exact h7, by rw [tellT_next]; exact K⟩
  simp only [show (i : Int) < n from by omega, decide_true, go_sem, Nat.reduceEqDiff]
  rw [ixa182 (by omega) (by omega), ixa181 (by omega) (by omega)]
  simp only [Int.toNat_natCast, go_sem, Nat.reduceEqDiff]
  rw [hNi, i64_of (n := (n : Int)) (by omega) (by omega)]
  refine rdi (rd_sliceArr u180 sz3 (by omega) (by omega) (by omega) (by omega)) ?_
  rw [Int.toNat_natCast, Int.toNat_natCast]
  simp only [add_plain]
  have hl3 := segT_len T n x i
  have hY : Ints w11 (some ⟨b, 0 + 1 + x * 81 + i * 9 + i, none⟩) (segT T n x i) := cells_ints (hb.gr K.gr) (by omega) fun j hj => by
    rw [hl3] at hj
    rw [show 0 + 1 + x * 81 + i * 9 + i + j = x * (9 * 9) + (i * 9 + (i + j)) + 1 from by omega, List.getElem?_cons_succ, cellsE_at (by omega) (by omega) (by omega)]
    simp [segT, List.getD_eq_getElem?_getD, hj]
  have hl1 := tellT_len T n x
  have hl2 := partT_len T n x i
  have hl4 : x * (n * n) ≤ 6 * (9 * 9) := Nat.mul_le_mul (by omega) hnn9
  have hl5 : i * n ≤ 9 * 9 := by
    have : i * n ≤ n * n := Nat.mul_le_mul_right n (by omega)
    omega
  refine apH K 0 rfl hY rfl hl3.symm (by rw [List.length_append]; omega) fun V1 d1 w12 K => ?_
  simp only [List.set_cons_zero] at K
  rw [i64_of (by omega) (by omega)]
  exact hN2 _ _ hin ⟨hin, rfl, V1, d1, by rw [partT_next, ← List.append_assoc]; rfl, by rw [partT_next, ← List.append_assoc]; exact K⟩
end Go.Proofs.Ytegcjkhebecgbaa

/- The law of Mend. -/
set_option linter.unusedVariables false
set_option linter.unusedSimpArgs false
set_option maxRecDepth 100000
namespace Go.Proofs.Ytegcjkhebecgbaa
open Go Go.Sh Go.RowKit
section
variable {w : World} {k : Value → World → Prop} {Y X : Option Addr} {cy cx : Nat} {gm : Gram} {ws x : List Int} {n kd pt tok most : Int} {ok : Bool}
theorem implChg_n (e : changeV gm ws kd pt tok = (x, ok)) (hG : kG Y cy gm.rules w) (hX : kI X ws cx w) (hk : ∀ w' U d, Gr w w' → kI U x d w' → k (.tuple #[.slice U x.length d, .bool ok]) w') :
    CallK Try.prog 96 [grv gm Y cy, .slice X ws.length cx, .int .i64 kd, .int .i64 pt, .int .i64 tok] k w := by
  refine implChangeWord_c (gvK hG) hX.1 rfl fun w' U d g o => ?_
  simp only [e] at o ⊢
  exact hk w' U d g ⟨o.ints, (Row.cap o).1⟩
theorem specChg_n (e : changeV gm ws kd pt tok = (x, ok)) (hG : kG Y cy gm.rules w) (hX : kI X ws cx w) (hk : ∀ w' U d, Gr w w' → kI U x d w' → k (.tuple #[.slice U x.length d, .bool ok]) w') :
    CallK Try.prog 97 [grv gm Y cy, .slice X ws.length cx, .int .i64 kd, .int .i64 pt, .int .i64 tok] k w := by
  refine specChangeWord_c (gvK hG) hX.1 rfl hX.2 fun w' U d g o => ?_
  simp only [e] at o ⊢
  exact hk w' U d g ⟨o.ints, (Row.cap o).1⟩
theorem implLM_n (e : leastMendV gm ws = (n, ok)) (hG : kG Y cy gm.rules w) (hX : kI X ws cx w) (hk : ∀ w', Gr w w' → k (.tuple #[.int .i64 n, .bool ok]) w') :
    CallK Try.prog 98 [grv gm Y cy, .slice X ws.length cx] k w := by
  refine implLeastMend_c (gvK hG) hX.1 rfl hX.2 fun w' g => ?_
  simp only [e]
  exact hk w' g
theorem specLM_n (e : leastMendV gm ws = (n, ok)) (hG : kG Y cy gm.rules w) (hX : kI X ws cx w) (hk : ∀ w', Gr w w' → k (.tuple #[.int .i64 n, .bool ok]) w') :
    CallK Try.prog 99 [grv gm Y cy, .slice X ws.length cx] k w := by
  refine specLeastMend_c (gvK hG) hX.1 rfl hX.2 fun w' g => ?_
  simp only [e]
  exact hk w' g
theorem implNW_n (e : nearV gm ws most = (x, ok)) (hG : kG Y cy gm.rules w) (hX : kI X ws cx w) (hk : ∀ w' U d, Gr w w' → kI U x d w' → k (.tuple #[.slice U x.length d, .bool ok]) w') :
    CallK Try.prog 102 [grv gm Y cy, .slice X ws.length cx, .int .i64 most] k w := by
  refine implNearWord_c (gvK hG) hX.1 rfl fun w' U d g o => ?_
  simp only [e] at o ⊢
  exact hk w' U d g ⟨o.ints, (Row.cap o).1⟩
theorem specNW_n (e : nearV gm ws most = (x, ok)) (hG : kG Y cy gm.rules w) (hX : kI X ws cx w) (hk : ∀ w' U d, Gr w w' → kI U x d w' → k (.tuple #[.slice U x.length d, .bool ok]) w') :
    CallK Try.prog 103 [grv gm Y cy, .slice X ws.length cx, .int .i64 most] k w := by
  refine specNearWord_c (gvK hG) hX.1 rfl fun w' U d g o => ?_
  simp only [e] at o ⊢
  exact hk w' U d g ⟨o.ints, (Row.cap o).1⟩
theorem implMT_n (e : mendTableV gm ws = (x, ok)) (hG : kG Y cy gm.rules w) (hX : kI X ws cx w) (hk : ∀ w' U d, Gr w w' → kI U x d w' → k (.tuple #[.slice U x.length d, .bool ok]) w') :
    CallK Try.prog 105 [grv gm Y cy, .slice X ws.length cx] k w := by
  refine implMendTable_c (gvK hG) hX.1 rfl hX.2 fun w' U d g o => ?_
  simp only [e] at o ⊢
  exact hk w' U d g ⟨o.ints, (Row.cap o).1⟩
theorem specMT_n (e : mendTableV gm ws = (x, ok)) (hG : kG Y cy gm.rules w) (hX : kI X ws cx w) (hk : ∀ w' U d, Gr w w' → kI U x d w' → k (.tuple #[.slice U x.length d, .bool ok]) w') :
    CallK Try.prog 106 [grv gm Y cy, .slice X ws.length cx] k w := by
  refine specMendTable_c (gvK hG) hX.1 rfl hX.2 fun w' U d g o => ?_
  simp only [e] at o ⊢
  exact hk w' U d g ⟨o.ints, (Row.cap o).1⟩
theorem implSW_n (hG : kG Y cy gm.rules w) (hk : ∀ w' U d, Gr w w' → kS U (shortV gm most).1 w' → k (.tuple #[.slice U (shortV gm most).1.length d, .bool (shortV gm most).2]) w') :
    CallK Try.prog 23 [grv gm Y cy, .int .i64 most] k w :=
  implShortWords_c (gvK hG) fun w' U d ps g o => hk w' U d g o.read
end
set_option maxHeartbeats 12800000 in
theorem law_Mend {w : World} {C D : Option Addr} {cap cap' : Nat} {bs es : List Int} (hC : Byts w C bs) (hD : Byts w D es) {k : Value → World → Prop} (hk : ∀ w', Gr w w' → k (.bool true) w') :
    CallK Try.prog 11 [.slice C bs.length cap, .slice D es.length cap'] k w := by
  refine enter11 ?_
  unfold S11
  have H := knC (knC (Kn.nil w) hC) hD
  refine big_c hC.le hD.le fun b => ?_
  cases b
  case true => exact hk _ (H.get 0 rfl)
  simp only [cond_false']
  refine drawChange_c (H.get 1 rfl) fun w2 gm ft Y cy X cx ws kd pt tok hd A => ?_
  have H := knI (knG (H.step A.gr) A 1 rfl) A 0 rfl
  clear A
  simp only [List.cons_append, List.nil_append] at H
  simp only [ext5_0, ext5_1, ext5_2, ext5_3, ext5_4]
  refine newG H fun b1 w3 H => ?_
  simp only [List.cons_append, List.nil_append] at H
  rcases hcv : changeV gm ws kd pt tok with ⟨x, ok⟩
  rcases hlm : leastMendV gm ws with ⟨n, okn⟩
  rw [ldB_agg agg26 sz26 rfl (H.get 5 rfl)]
  refine implChg_n hcv (H.get 3 rfl) (H.get 4 rfl) fun w4 U d g o => ?_
  have H := (H.step g).addI o.1 o.2
  simp only [List.cons_append, List.nil_append] at H
  simp only [bin_add, bin_sub, bin_mul, bin_eql, bin_neq, bin_lss, bin_leq, bin_gtr, bin_geq, un_not, un_neg, pick_true, pick_false, extract_two_0, extract_two_1, nilCheck_pointer, cond_true', cond_false', guard_tt, guard_ff, guard_tf, guard_ft, guard_undef, seqQ_normal, seqQ_ret, seqQ_exit, blockQ_ret, blockQ_normal, blockQ_exit, bodyQ_ret, bodyQ_normal, resK_nil, resK_tmp, ite_T, ite_F, upd_at, add_plain, add_zero', Nat.reduceEqDiff, fa8_0, fa8_1, fa8_2, fa8_3, fa14_0, fa14_1, fa19_0, len22, len24, fa26_0, fa26_1, fa26_2, len27, fa33_0, fa33_1, len35, fa77_0, fa77_1, fa88_0, fa88_1, fa88_2, fa88_3, fa88_4, fa88_5, fa114_0, fa114_1, fa114_2, fa124_0, fa124_1, len134, len136, len154, fa156_0, fa156_1, fa156_2, fa156_3, fa156_4, fa156_5, fa156_6, fa184_0, fa184_1, fa200_0, fa200_1, fa200_2, fa200_3, fa215_0, fa215_1, fa215_2, fa215_3, fa215_4, len218, len271, fa274_0, fa274_1, fa274_2, fa303_0, fa303_1, fa303_2, fa303_3, fa314_0, fa314_1, fa314_2, fa314_3, fa314_4, fa314_5, fa314_6, fa314_7, fa314_8, fa314_9, fa314_10]
  rw [ldB_agg agg26 sz26 rfl (H.get 5 rfl)]
  refine specChg_n hcv (H.get 3 rfl) (H.get 4 rfl) fun w5 V e g o => ?_
  have H := (H.step g).addI o.1 o.2
  simp only [List.cons_append, List.nil_append] at H
  simp only [bin_add, bin_sub, bin_mul, bin_eql, bin_neq, bin_lss, bin_leq, bin_gtr, bin_geq, un_not, un_neg, pick_true, pick_false, extract_two_0, extract_two_1, nilCheck_pointer, cond_true', cond_false', guard_tt, guard_ff, guard_tf, guard_ft, guard_undef, seqQ_normal, seqQ_ret, seqQ_exit, blockQ_ret, blockQ_normal, blockQ_exit, bodyQ_ret, bodyQ_normal, resK_nil, resK_tmp, ite_T, ite_F, upd_at, add_plain, add_zero', Nat.reduceEqDiff, fa8_0, fa8_1, fa8_2, fa8_3, fa14_0, fa14_1, fa19_0, len22, len24, fa26_0, fa26_1, fa26_2, len27, fa33_0, fa33_1, len35, fa77_0, fa77_1, fa88_0, fa88_1, fa88_2, fa88_3, fa88_4, fa88_5, fa114_0, fa114_1, fa114_2, fa124_0, fa124_1, len134, len136, len154, fa156_0, fa156_1, fa156_2, fa156_3, fa156_4, fa156_5, fa156_6, fa184_0, fa184_1, fa200_0, fa200_1, fa200_2, fa200_3, fa215_0, fa215_1, fa215_2, fa215_3, fa215_4, len218, len271, fa274_0, fa274_1, fa274_2, fa303_0, fa303_1, fa303_2, fa303_3, fa314_0, fa314_1, fa314_2, fa314_3, fa314_4, fa314_5, fa314_6, fa314_7, fa314_8, fa314_9, fa314_10]
  rw [ldB_agg agg26 sz26 rfl (H.get 5 rfl)]
  refine implLM_n hlm (H.get 3 rfl) (H.get 4 rfl) fun w6 g => ?_
  have H := H.step g
  simp only [bin_add, bin_sub, bin_mul, bin_eql, bin_neq, bin_lss, bin_leq, bin_gtr, bin_geq, un_not, un_neg, pick_true, pick_false, extract_two_0, extract_two_1, nilCheck_pointer, cond_true', cond_false', guard_tt, guard_ff, guard_tf, guard_ft, guard_undef, seqQ_normal, seqQ_ret, seqQ_exit, blockQ_ret, blockQ_normal, blockQ_exit, bodyQ_ret, bodyQ_normal, resK_nil, resK_tmp, ite_T, ite_F, upd_at, add_plain, add_zero', Nat.reduceEqDiff, fa8_0, fa8_1, fa8_2, fa8_3, fa14_0, fa14_1, fa19_0, len22, len24, fa26_0, fa26_1, fa26_2, len27, fa33_0, fa33_1, len35, fa77_0, fa77_1, fa88_0, fa88_1, fa88_2, fa88_3, fa88_4, fa88_5, fa114_0, fa114_1, fa114_2, fa124_0, fa124_1, len134, len136, len154, fa156_0, fa156_1, fa156_2, fa156_3, fa156_4, fa156_5, fa156_6, fa184_0, fa184_1, fa200_0, fa200_1, fa200_2, fa200_3, fa215_0, fa215_1, fa215_2, fa215_3, fa215_4, len218, len271, fa274_0, fa274_1, fa274_2, fa303_0, fa303_1, fa303_2, fa303_3, fa314_0, fa314_1, fa314_2, fa314_3, fa314_4, fa314_5, fa314_6, fa314_7, fa314_8, fa314_9, fa314_10]
  rw [ldB_agg agg26 sz26 rfl (H.get 5 rfl)]
  refine specLM_n hlm (H.get 3 rfl) (H.get 4 rfl) fun w7 g => ?_
  have H := H.step g
  simp only [bneq, beq_self_eq_true, Bool.not_true, bin_add, bin_sub, bin_mul, bin_eql, bin_neq, bin_lss, bin_leq, bin_gtr, bin_geq, un_not, un_neg, pick_true, pick_false, extract_two_0, extract_two_1, nilCheck_pointer, cond_true', cond_false', guard_tt, guard_ff, guard_tf, guard_ft, guard_undef, seqQ_normal, seqQ_ret, seqQ_exit, blockQ_ret, blockQ_normal, blockQ_exit, bodyQ_ret, bodyQ_normal, resK_nil, resK_tmp, ite_T, ite_F, upd_at, add_plain, add_zero', Nat.reduceEqDiff, fa8_0, fa8_1, fa8_2, fa8_3, fa14_0, fa14_1, fa19_0, len22, len24, fa26_0, fa26_1, fa26_2, len27, fa33_0, fa33_1, len35, fa77_0, fa77_1, fa88_0, fa88_1, fa88_2, fa88_3, fa88_4, fa88_5, fa114_0, fa114_1, fa114_2, fa124_0, fa124_1, len134, len136, len154, fa156_0, fa156_1, fa156_2, fa156_3, fa156_4, fa156_5, fa156_6, fa184_0, fa184_1, fa200_0, fa200_1, fa200_2, fa200_3, fa215_0, fa215_1, fa215_2, fa215_3, fa215_4, len218, len271, fa274_0, fa274_1, fa274_2, fa303_0, fa303_1, fa303_2, fa303_3, fa314_0, fa314_1, fa314_2, fa314_3, fa314_4, fa314_5, fa314_6, fa314_7, fa314_8, fa314_9, fa314_10]
  refine sameInts_c (H.get 6 rfl).1 (H.get 7 rfl).1 fun w8 g => ?_
  have H := H.step g
  simp only [decide_true, bneq, beq_self_eq_true, Bool.not_true, bin_add, bin_sub, bin_mul, bin_eql, bin_neq, bin_lss, bin_leq, bin_gtr, bin_geq, un_not, un_neg, pick_true, pick_false, extract_two_0, extract_two_1, nilCheck_pointer, cond_true', cond_false', guard_tt, guard_ff, guard_tf, guard_ft, guard_undef, seqQ_normal, seqQ_ret, seqQ_exit, blockQ_ret, blockQ_normal, blockQ_exit, bodyQ_ret, bodyQ_normal, resK_nil, resK_tmp, ite_T, ite_F, upd_at, add_plain, add_zero', Nat.reduceEqDiff, fa8_0, fa8_1, fa8_2, fa8_3, fa14_0, fa14_1, fa19_0, len22, len24, fa26_0, fa26_1, fa26_2, len27, fa33_0, fa33_1, len35, fa77_0, fa77_1, fa88_0, fa88_1, fa88_2, fa88_3, fa88_4, fa88_5, fa114_0, fa114_1, fa114_2, fa124_0, fa124_1, len134, len136, len154, fa156_0, fa156_1, fa156_2, fa156_3, fa156_4, fa156_5, fa156_6, fa184_0, fa184_1, fa200_0, fa200_1, fa200_2, fa200_3, fa215_0, fa215_1, fa215_2, fa215_3, fa215_4, len218, len271, fa274_0, fa274_1, fa274_2, fa303_0, fa303_1, fa303_2, fa303_3, fa314_0, fa314_1, fa314_2, fa314_3, fa314_4, fa314_5, fa314_6, fa314_7, fa314_8, fa314_9, fa314_10]
  have H := H.add (P := fun w' => Gr w8 w') fun w' g => g
  simp only [List.cons_append, List.nil_append] at H
  refine join_as (fun f w' => f 1 = .slice D es.length cap' ∧ Gr w8 w') (fun K hK => ?_) ?_
  · cases okn
    · simp only [bin_add, bin_sub, bin_mul, bin_eql, bin_neq, bin_lss, bin_leq, bin_gtr, bin_geq, un_not, un_neg, pick_true, pick_false, extract_two_0, extract_two_1, nilCheck_pointer, cond_true', cond_false', guard_tt, guard_ff, guard_tf, guard_ft, guard_undef, seqQ_normal, seqQ_ret, seqQ_exit, blockQ_ret, blockQ_normal, blockQ_exit, bodyQ_ret, bodyQ_normal, resK_nil, resK_tmp, ite_T, ite_F, upd_at, add_plain, add_zero', Nat.reduceEqDiff, fa8_0, fa8_1, fa8_2, fa8_3, fa14_0, fa14_1, fa19_0, len22, len24, fa26_0, fa26_1, fa26_2, len27, fa33_0, fa33_1, len35, fa77_0, fa77_1, fa88_0, fa88_1, fa88_2, fa88_3, fa88_4, fa88_5, fa114_0, fa114_1, fa114_2, fa124_0, fa124_1, len134, len136, len154, fa156_0, fa156_1, fa156_2, fa156_3, fa156_4, fa156_5, fa156_6, fa184_0, fa184_1, fa200_0, fa200_1, fa200_2, fa200_3, fa215_0, fa215_1, fa215_2, fa215_3, fa215_4, len218, len271, fa274_0, fa274_1, fa274_2, fa303_0, fa303_1, fa303_2, fa303_3, fa314_0, fa314_1, fa314_2, fa314_3, fa314_4, fa314_5, fa314_6, fa314_7, fa314_8, fa314_9, fa314_10]
      exact hK _ _ ⟨rfl, H.get 8 rfl⟩
    simp only [bin_add, bin_sub, bin_mul, bin_eql, bin_neq, bin_lss, bin_leq, bin_gtr, bin_geq, un_not, un_neg, pick_true, pick_false, extract_two_0, extract_two_1, nilCheck_pointer, cond_true', cond_false', guard_tt, guard_ff, guard_tf, guard_ft, guard_undef, seqQ_normal, seqQ_ret, seqQ_exit, blockQ_ret, blockQ_normal, blockQ_exit, bodyQ_ret, bodyQ_normal, resK_nil, resK_tmp, ite_T, ite_F, upd_at, add_plain, add_zero', Nat.reduceEqDiff, fa8_0, fa8_1, fa8_2, fa8_3, fa14_0, fa14_1, fa19_0, len22, len24, fa26_0, fa26_1, fa26_2, len27, fa33_0, fa33_1, len35, fa77_0, fa77_1, fa88_0, fa88_1, fa88_2, fa88_3, fa88_4, fa88_5, fa114_0, fa114_1, fa114_2, fa124_0, fa124_1, len134, len136, len154, fa156_0, fa156_1, fa156_2, fa156_3, fa156_4, fa156_5, fa156_6, fa184_0, fa184_1, fa200_0, fa200_1, fa200_2, fa200_3, fa215_0, fa215_1, fa215_2, fa215_3, fa215_4, len218, len271, fa274_0, fa274_1, fa274_2, fa303_0, fa303_1, fa303_2, fa303_3, fa314_0, fa314_1, fa314_2, fa314_3, fa314_4, fa314_5, fa314_6, fa314_7, fa314_8, fa314_9, fa314_10]
    rw [ldB_agg agg26 sz26 rfl (H.get 5 rfl)]
    refine implInLanguage_c (H.get 3 rfl) (H.get 4 rfl) fun w9 g => ?_
    have H := H.step g
    rw [lm_in hlm]
    simp only [bin_add, bin_sub, bin_mul, bin_eql, bin_neq, bin_lss, bin_leq, bin_gtr, bin_geq, un_not, un_neg, pick_true, pick_false, extract_two_0, extract_two_1, nilCheck_pointer, cond_true', cond_false', guard_tt, guard_ff, guard_tf, guard_ft, guard_undef, seqQ_normal, seqQ_ret, seqQ_exit, blockQ_ret, blockQ_normal, blockQ_exit, bodyQ_ret, bodyQ_normal, resK_nil, resK_tmp, ite_T, ite_F, upd_at, add_plain, add_zero', Nat.reduceEqDiff, fa8_0, fa8_1, fa8_2, fa8_3, fa14_0, fa14_1, fa19_0, len22, len24, fa26_0, fa26_1, fa26_2, len27, fa33_0, fa33_1, len35, fa77_0, fa77_1, fa88_0, fa88_1, fa88_2, fa88_3, fa88_4, fa88_5, fa114_0, fa114_1, fa114_2, fa124_0, fa124_1, len134, len136, len154, fa156_0, fa156_1, fa156_2, fa156_3, fa156_4, fa156_5, fa156_6, fa184_0, fa184_1, fa200_0, fa200_1, fa200_2, fa200_3, fa215_0, fa215_1, fa215_2, fa215_3, fa215_4, len218, len271, fa274_0, fa274_1, fa274_2, fa303_0, fa303_1, fa303_2, fa303_3, fa314_0, fa314_1, fa314_2, fa314_3, fa314_4, fa314_5, fa314_6, fa314_7, fa314_8, fa314_9, fa314_10]
    rw [ldB_agg agg26 sz26 rfl (H.get 5 rfl)]
    refine implSW_n (H.get 3 rfl) fun w10 S c g hS => ?_
    have H := (H.step g).addS hS
    simp only [List.cons_append, List.nil_append] at H
    have hsv : (shortV gm 3).2 = true := by
      have hg := (mendOk_of (lm_true hlm).1).1
      unfold shortV
      rw [if_pos (by rw [hg]; rfl)]
    rw [hsv]
    simp only [bneq, beq_self_eq_true, Bool.not_true, bin_add, bin_sub, bin_mul, bin_eql, bin_neq, bin_lss, bin_leq, bin_gtr, bin_geq, un_not, un_neg, pick_true, pick_false, extract_two_0, extract_two_1, nilCheck_pointer, cond_true', cond_false', guard_tt, guard_ff, guard_tf, guard_ft, guard_undef, seqQ_normal, seqQ_ret, seqQ_exit, blockQ_ret, blockQ_normal, blockQ_exit, bodyQ_ret, bodyQ_normal, resK_nil, resK_tmp, ite_T, ite_F, upd_at, add_plain, add_zero', Nat.reduceEqDiff, fa8_0, fa8_1, fa8_2, fa8_3, fa14_0, fa14_1, fa19_0, len22, len24, fa26_0, fa26_1, fa26_2, len27, fa33_0, fa33_1, len35, fa77_0, fa77_1, fa88_0, fa88_1, fa88_2, fa88_3, fa88_4, fa88_5, fa114_0, fa114_1, fa114_2, fa124_0, fa124_1, len134, len136, len154, fa156_0, fa156_1, fa156_2, fa156_3, fa156_4, fa156_5, fa156_6, fa184_0, fa184_1, fa200_0, fa200_1, fa200_2, fa200_3, fa215_0, fa215_1, fa215_2, fa215_3, fa215_4, len218, len271, fa274_0, fa274_1, fa274_2, fa303_0, fa303_1, fa303_2, fa303_3, fa314_0, fa314_1, fa314_2, fa314_3, fa314_4, fa314_5, fa314_6, fa314_7, fa314_8, fa314_9, fa314_10]
    have H := H.add (P := fun w' => Gr w10 w') fun w' g => g
    simp only [List.cons_append, List.nil_append] at H
    refine loop_to (shortV gm 3).1.length 0 (fun i f w' => i ≤ (shortV gm 3).1.length ∧ f 133 = .int .i64 (i : Int) ∧ Gr w10 w') ⟨Nat.zero_le _, rfl, Gr.refl _⟩ ?_
    rintro i f w11 N hag ⟨hi, f133, g⟩ hN
    have H := H.step g
    have f1 : f 1 = .slice D es.length cap' := hag 1 (by decide)
    have f5 : f 5 = ptrv b1 := hag 5 (by decide)
    have f6 : f 6 = .slice X ws.length cx := hag 6 (by decide)
    have f10 : f 10 = .slice U x.length d := hag 10 (by decide)
    have f11 : f 11 = .bool ok := hag 11 (by decide)
    have f14 : f 14 = .int .i64 n := hag 14 (by decide)
    have f131 : f 131 = .slice S (shortV gm 3).1.length c := hag 131 (by decide)
    have f132 : f 132 = .int .i64 (shortV gm 3).1.length := hag 132 (by decide)
    simp only [f1, f5, f6, f10, f11, f14, f131, f132, f133, bin_add, bin_sub, bin_mul, bin_eql, bin_neq, bin_lss, bin_leq, bin_gtr, bin_geq, un_not, un_neg, pick_true, pick_false, extract_two_0, extract_two_1, nilCheck_pointer, cond_true', cond_false', guard_tt, guard_ff, guard_tf, guard_ft, guard_undef, seqQ_normal, seqQ_ret, seqQ_exit, blockQ_ret, blockQ_normal, blockQ_exit, bodyQ_ret, bodyQ_normal, resK_nil, resK_tmp, ite_T, ite_F, upd_at, add_plain, add_zero', Nat.reduceEqDiff, fa8_0, fa8_1, fa8_2, fa8_3, fa14_0, fa14_1, fa19_0, len22, len24, fa26_0, fa26_1, fa26_2, len27, fa33_0, fa33_1, len35, fa77_0, fa77_1, fa88_0, fa88_1, fa88_2, fa88_3, fa88_4, fa88_5, fa114_0, fa114_1, fa114_2, fa124_0, fa124_1, len134, len136, len154, fa156_0, fa156_1, fa156_2, fa156_3, fa156_4, fa156_5, fa156_6, fa184_0, fa184_1, fa200_0, fa200_1, fa200_2, fa200_3, fa215_0, fa215_1, fa215_2, fa215_3, fa215_4, len218, len271, fa274_0, fa274_1, fa274_2, fa303_0, fa303_1, fa303_2, fa303_3, fa314_0, fa314_1, fa314_2, fa314_3, fa314_4, fa314_5, fa314_6, fa314_7, fa314_8, fa314_9, fa314_10]
    have hS := H.get 9 rfl
    have hle := hS.le
    by_cases hlt : i < (shortV gm 3).1.length
    case pos =>
      simp only [show ((i : Int) < ((shortV gm 3).1.length : Int)) from by omega, decide_true, bin_add, bin_sub, bin_mul, bin_eql, bin_neq, bin_lss, bin_leq, bin_gtr, bin_geq, un_not, un_neg, pick_true, pick_false, extract_two_0, extract_two_1, nilCheck_pointer, cond_true', cond_false', guard_tt, guard_ff, guard_tf, guard_ft, guard_undef, seqQ_normal, seqQ_ret, seqQ_exit, blockQ_ret, blockQ_normal, blockQ_exit, bodyQ_ret, bodyQ_normal, resK_nil, resK_tmp, ite_T, ite_F, upd_at, add_plain, add_zero', Nat.reduceEqDiff, fa8_0, fa8_1, fa8_2, fa8_3, fa14_0, fa14_1, fa19_0, len22, len24, fa26_0, fa26_1, fa26_2, len27, fa33_0, fa33_1, len35, fa77_0, fa77_1, fa88_0, fa88_1, fa88_2, fa88_3, fa88_4, fa88_5, fa114_0, fa114_1, fa114_2, fa124_0, fa124_1, len134, len136, len154, fa156_0, fa156_1, fa156_2, fa156_3, fa156_4, fa156_5, fa156_6, fa184_0, fa184_1, fa200_0, fa200_1, fa200_2, fa200_3, fa215_0, fa215_1, fa215_2, fa215_3, fa215_4, len218, len271, fa274_0, fa274_1, fa274_2, fa303_0, fa303_1, fa303_2, fa303_3, fa314_0, fa314_1, fa314_2, fa314_3, fa314_4, fa314_5, fa314_6, fa314_7, fa314_8, fa314_9, fa314_10]
      obtain ⟨Z, cz, z1, z2, z3⟩ := hS.row i hlt
      refine rdi (ixn35 hS.ptr hlt) (rdi (ld27 z1) ?_)
      refine apartT_c (H.get 4 rfl).1 z3 rfl rfl fun w12 g => ?_
      have H := H.step g
      obtain ⟨ea, hne⟩ := lm_short hlm (rgt_mem hlt)
      rw [ea]
      simp only [Bool.not_true, bin_add, bin_sub, bin_mul, bin_eql, bin_neq, bin_lss, bin_leq, bin_gtr, bin_geq, un_not, un_neg, pick_true, pick_false, extract_two_0, extract_two_1, nilCheck_pointer, cond_true', cond_false', guard_tt, guard_ff, guard_tf, guard_ft, guard_undef, seqQ_normal, seqQ_ret, seqQ_exit, blockQ_ret, blockQ_normal, blockQ_exit, bodyQ_ret, bodyQ_normal, resK_nil, resK_tmp, ite_T, ite_F, upd_at, add_plain, add_zero', Nat.reduceEqDiff, fa8_0, fa8_1, fa8_2, fa8_3, fa14_0, fa14_1, fa19_0, len22, len24, fa26_0, fa26_1, fa26_2, len27, fa33_0, fa33_1, len35, fa77_0, fa77_1, fa88_0, fa88_1, fa88_2, fa88_3, fa88_4, fa88_5, fa114_0, fa114_1, fa114_2, fa124_0, fa124_1, len134, len136, len154, fa156_0, fa156_1, fa156_2, fa156_3, fa156_4, fa156_5, fa156_6, fa184_0, fa184_1, fa200_0, fa200_1, fa200_2, fa200_3, fa215_0, fa215_1, fa215_2, fa215_3, fa215_4, len218, len271, fa274_0, fa274_1, fa274_2, fa303_0, fa303_1, fa303_2, fa303_3, fa314_0, fa314_1, fa314_2, fa314_3, fa314_4, fa314_5, fa314_6, fa314_7, fa314_8, fa314_9, fa314_10]
      simp only [show ¬ (edist ws (rgt (shortV gm 3).1 i) < n) from by omega, decide_false, bin_add, bin_sub, bin_mul, bin_eql, bin_neq, bin_lss, bin_leq, bin_gtr, bin_geq, un_not, un_neg, pick_true, pick_false, extract_two_0, extract_two_1, nilCheck_pointer, cond_true', cond_false', guard_tt, guard_ff, guard_tf, guard_ft, guard_undef, seqQ_normal, seqQ_ret, seqQ_exit, blockQ_ret, blockQ_normal, blockQ_exit, bodyQ_ret, bodyQ_normal, resK_nil, resK_tmp, ite_T, ite_F, upd_at, add_plain, add_zero', Nat.reduceEqDiff, fa8_0, fa8_1, fa8_2, fa8_3, fa14_0, fa14_1, fa19_0, len22, len24, fa26_0, fa26_1, fa26_2, len27, fa33_0, fa33_1, len35, fa77_0, fa77_1, fa88_0, fa88_1, fa88_2, fa88_3, fa88_4, fa88_5, fa114_0, fa114_1, fa114_2, fa124_0, fa124_1, len134, len136, len154, fa156_0, fa156_1, fa156_2, fa156_3, fa156_4, fa156_5, fa156_6, fa184_0, fa184_1, fa200_0, fa200_1, fa200_2, fa200_3, fa215_0, fa215_1, fa215_2, fa215_3, fa215_4, len218, len271, fa274_0, fa274_1, fa274_2, fa303_0, fa303_1, fa303_2, fa303_3, fa314_0, fa314_1, fa314_2, fa314_3, fa314_4, fa314_5, fa314_6, fa314_7, fa314_8, fa314_9, fa314_10]
      rw [i64_of (by omega) (by omega)]
      exact hN _ _ hlt ⟨by omega, rfl, H.get 10 rfl⟩
    simp only [show ¬ ((i : Int) < ((shortV gm 3).1.length : Int)) from by omega, decide_false, f1, f5, f6, f10, f11, f14, bin_add, bin_sub, bin_mul, bin_eql, bin_neq, bin_lss, bin_leq, bin_gtr, bin_geq, un_not, un_neg, pick_true, pick_false, extract_two_0, extract_two_1, nilCheck_pointer, cond_true', cond_false', guard_tt, guard_ff, guard_tf, guard_ft, guard_undef, seqQ_normal, seqQ_ret, seqQ_exit, blockQ_ret, blockQ_normal, blockQ_exit, bodyQ_ret, bodyQ_normal, resK_nil, resK_tmp, ite_T, ite_F, upd_at, add_plain, add_zero', Nat.reduceEqDiff, fa8_0, fa8_1, fa8_2, fa8_3, fa14_0, fa14_1, fa19_0, len22, len24, fa26_0, fa26_1, fa26_2, len27, fa33_0, fa33_1, len35, fa77_0, fa77_1, fa88_0, fa88_1, fa88_2, fa88_3, fa88_4, fa88_5, fa114_0, fa114_1, fa114_2, fa124_0, fa124_1, len134, len136, len154, fa156_0, fa156_1, fa156_2, fa156_3, fa156_4, fa156_5, fa156_6, fa184_0, fa184_1, fa200_0, fa200_1, fa200_2, fa200_3, fa215_0, fa215_1, fa215_2, fa215_3, fa215_4, len218, len271, fa274_0, fa274_1, fa274_2, fa303_0, fa303_1, fa303_2, fa303_3, fa314_0, fa314_1, fa314_2, fa314_3, fa314_4, fa314_5, fa314_6, fa314_7, fa314_8, fa314_9, fa314_10]
    cases ok
    · simp only [bin_add, bin_sub, bin_mul, bin_eql, bin_neq, bin_lss, bin_leq, bin_gtr, bin_geq, un_not, un_neg, pick_true, pick_false, extract_two_0, extract_two_1, nilCheck_pointer, cond_true', cond_false', guard_tt, guard_ff, guard_tf, guard_ft, guard_undef, seqQ_normal, seqQ_ret, seqQ_exit, blockQ_ret, blockQ_normal, blockQ_exit, bodyQ_ret, bodyQ_normal, resK_nil, resK_tmp, ite_T, ite_F, upd_at, add_plain, add_zero', Nat.reduceEqDiff, fa8_0, fa8_1, fa8_2, fa8_3, fa14_0, fa14_1, fa19_0, len22, len24, fa26_0, fa26_1, fa26_2, len27, fa33_0, fa33_1, len35, fa77_0, fa77_1, fa88_0, fa88_1, fa88_2, fa88_3, fa88_4, fa88_5, fa114_0, fa114_1, fa114_2, fa124_0, fa124_1, len134, len136, len154, fa156_0, fa156_1, fa156_2, fa156_3, fa156_4, fa156_5, fa156_6, fa184_0, fa184_1, fa200_0, fa200_1, fa200_2, fa200_3, fa215_0, fa215_1, fa215_2, fa215_3, fa215_4, len218, len271, fa274_0, fa274_1, fa274_2, fa303_0, fa303_1, fa303_2, fa303_3, fa314_0, fa314_1, fa314_2, fa314_3, fa314_4, fa314_5, fa314_6, fa314_7, fa314_8, fa314_9, fa314_10]
      exact hK _ _ ⟨f1, H.get 8 rfl⟩
    simp only [bin_add, bin_sub, bin_mul, bin_eql, bin_neq, bin_lss, bin_leq, bin_gtr, bin_geq, un_not, un_neg, pick_true, pick_false, extract_two_0, extract_two_1, nilCheck_pointer, cond_true', cond_false', guard_tt, guard_ff, guard_tf, guard_ft, guard_undef, seqQ_normal, seqQ_ret, seqQ_exit, blockQ_ret, blockQ_normal, blockQ_exit, bodyQ_ret, bodyQ_normal, resK_nil, resK_tmp, ite_T, ite_F, upd_at, add_plain, add_zero', Nat.reduceEqDiff, fa8_0, fa8_1, fa8_2, fa8_3, fa14_0, fa14_1, fa19_0, len22, len24, fa26_0, fa26_1, fa26_2, len27, fa33_0, fa33_1, len35, fa77_0, fa77_1, fa88_0, fa88_1, fa88_2, fa88_3, fa88_4, fa88_5, fa114_0, fa114_1, fa114_2, fa124_0, fa124_1, len134, len136, len154, fa156_0, fa156_1, fa156_2, fa156_3, fa156_4, fa156_5, fa156_6, fa184_0, fa184_1, fa200_0, fa200_1, fa200_2, fa200_3, fa215_0, fa215_1, fa215_2, fa215_3, fa215_4, len218, len271, fa274_0, fa274_1, fa274_2, fa303_0, fa303_1, fa303_2, fa303_3, fa314_0, fa314_1, fa314_2, fa314_3, fa314_4, fa314_5, fa314_6, fa314_7, fa314_8, fa314_9, fa314_10]
    obtain ⟨m, hlm2, hm1, hm2, hnb, hmb, hn0, hap, hed⟩ := lm_chg hlm hcv
    rw [ldB_agg agg26 sz26 rfl (H.get 5 rfl)]
    refine implLM_n hlm2 (H.get 3 rfl) (H.get 6 rfl) fun w12 g => ?_
    have H := H.step g
    simp only [bin_add, bin_sub, bin_mul, bin_eql, bin_neq, bin_lss, bin_leq, bin_gtr, bin_geq, un_not, un_neg, pick_true, pick_false, extract_two_0, extract_two_1, nilCheck_pointer, cond_true', cond_false', guard_tt, guard_ff, guard_tf, guard_ft, guard_undef, seqQ_normal, seqQ_ret, seqQ_exit, blockQ_ret, blockQ_normal, blockQ_exit, bodyQ_ret, bodyQ_normal, resK_nil, resK_tmp, ite_T, ite_F, upd_at, add_plain, add_zero', Nat.reduceEqDiff, fa8_0, fa8_1, fa8_2, fa8_3, fa14_0, fa14_1, fa19_0, len22, len24, fa26_0, fa26_1, fa26_2, len27, fa33_0, fa33_1, len35, fa77_0, fa77_1, fa88_0, fa88_1, fa88_2, fa88_3, fa88_4, fa88_5, fa114_0, fa114_1, fa114_2, fa124_0, fa124_1, len134, len136, len154, fa156_0, fa156_1, fa156_2, fa156_3, fa156_4, fa156_5, fa156_6, fa184_0, fa184_1, fa200_0, fa200_1, fa200_2, fa200_3, fa215_0, fa215_1, fa215_2, fa215_3, fa215_4, len218, len271, fa274_0, fa274_1, fa274_2, fa303_0, fa303_1, fa303_2, fa303_3, fa314_0, fa314_1, fa314_2, fa314_3, fa314_4, fa314_5, fa314_6, fa314_7, fa314_8, fa314_9, fa314_10]
    refine apartT_c (H.get 4 rfl).1 (H.get 6 rfl).1 rfl rfl fun w13 g => ?_
    have H := H.step g
    rw [hap]
    simp only [Bool.not_true, bin_add, bin_sub, bin_mul, bin_eql, bin_neq, bin_lss, bin_leq, bin_gtr, bin_geq, un_not, un_neg, pick_true, pick_false, extract_two_0, extract_two_1, nilCheck_pointer, cond_true', cond_false', guard_tt, guard_ff, guard_tf, guard_ft, guard_undef, seqQ_normal, seqQ_ret, seqQ_exit, blockQ_ret, blockQ_normal, blockQ_exit, bodyQ_ret, bodyQ_normal, resK_nil, resK_tmp, ite_T, ite_F, upd_at, add_plain, add_zero', Nat.reduceEqDiff, fa8_0, fa8_1, fa8_2, fa8_3, fa14_0, fa14_1, fa19_0, len22, len24, fa26_0, fa26_1, fa26_2, len27, fa33_0, fa33_1, len35, fa77_0, fa77_1, fa88_0, fa88_1, fa88_2, fa88_3, fa88_4, fa88_5, fa114_0, fa114_1, fa114_2, fa124_0, fa124_1, len134, len136, len154, fa156_0, fa156_1, fa156_2, fa156_3, fa156_4, fa156_5, fa156_6, fa184_0, fa184_1, fa200_0, fa200_1, fa200_2, fa200_3, fa215_0, fa215_1, fa215_2, fa215_3, fa215_4, len218, len271, fa274_0, fa274_1, fa274_2, fa303_0, fa303_1, fa303_2, fa303_3, fa314_0, fa314_1, fa314_2, fa314_3, fa314_4, fa314_5, fa314_6, fa314_7, fa314_8, fa314_9, fa314_10]
    rw [i64_of (by omega) (by omega)]
    simp only [show ¬ (n + 1 < (m : Int)) from by omega, decide_false, bin_add, bin_sub, bin_mul, bin_eql, bin_neq, bin_lss, bin_leq, bin_gtr, bin_geq, un_not, un_neg, pick_true, pick_false, extract_two_0, extract_two_1, nilCheck_pointer, cond_true', cond_false', guard_tt, guard_ff, guard_tf, guard_ft, guard_undef, seqQ_normal, seqQ_ret, seqQ_exit, blockQ_ret, blockQ_normal, blockQ_exit, bodyQ_ret, bodyQ_normal, resK_nil, resK_tmp, ite_T, ite_F, upd_at, add_plain, add_zero', Nat.reduceEqDiff, fa8_0, fa8_1, fa8_2, fa8_3, fa14_0, fa14_1, fa19_0, len22, len24, fa26_0, fa26_1, fa26_2, len27, fa33_0, fa33_1, len35, fa77_0, fa77_1, fa88_0, fa88_1, fa88_2, fa88_3, fa88_4, fa88_5, fa114_0, fa114_1, fa114_2, fa124_0, fa124_1, len134, len136, len154, fa156_0, fa156_1, fa156_2, fa156_3, fa156_4, fa156_5, fa156_6, fa184_0, fa184_1, fa200_0, fa200_1, fa200_2, fa200_3, fa215_0, fa215_1, fa215_2, fa215_3, fa215_4, len218, len271, fa274_0, fa274_1, fa274_2, fa303_0, fa303_1, fa303_2, fa303_3, fa314_0, fa314_1, fa314_2, fa314_3, fa314_4, fa314_5, fa314_6, fa314_7, fa314_8, fa314_9, fa314_10]
    rw [i64_of (by omega) (by omega)]
    simp only [show ¬ ((m : Int) + 1 < n) from by omega, decide_false, Bool.not_true, bin_add, bin_sub, bin_mul, bin_eql, bin_neq, bin_lss, bin_leq, bin_gtr, bin_geq, un_not, un_neg, pick_true, pick_false, extract_two_0, extract_two_1, nilCheck_pointer, cond_true', cond_false', guard_tt, guard_ff, guard_tf, guard_ft, guard_undef, seqQ_normal, seqQ_ret, seqQ_exit, blockQ_ret, blockQ_normal, blockQ_exit, bodyQ_ret, bodyQ_normal, resK_nil, resK_tmp, ite_T, ite_F, upd_at, add_plain, add_zero', Nat.reduceEqDiff, fa8_0, fa8_1, fa8_2, fa8_3, fa14_0, fa14_1, fa19_0, len22, len24, fa26_0, fa26_1, fa26_2, len27, fa33_0, fa33_1, len35, fa77_0, fa77_1, fa88_0, fa88_1, fa88_2, fa88_3, fa88_4, fa88_5, fa114_0, fa114_1, fa114_2, fa124_0, fa124_1, len134, len136, len154, fa156_0, fa156_1, fa156_2, fa156_3, fa156_4, fa156_5, fa156_6, fa184_0, fa184_1, fa200_0, fa200_1, fa200_2, fa200_3, fa215_0, fa215_1, fa215_2, fa215_3, fa215_4, len218, len271, fa274_0, fa274_1, fa274_2, fa303_0, fa303_1, fa303_2, fa303_3, fa314_0, fa314_1, fa314_2, fa314_3, fa314_4, fa314_5, fa314_6, fa314_7, fa314_8, fa314_9, fa314_10]
    simp only [show ¬ (1 < edist ws x) from by omega, decide_false, bin_add, bin_sub, bin_mul, bin_eql, bin_neq, bin_lss, bin_leq, bin_gtr, bin_geq, un_not, un_neg, pick_true, pick_false, extract_two_0, extract_two_1, nilCheck_pointer, cond_true', cond_false', guard_tt, guard_ff, guard_tf, guard_ft, guard_undef, seqQ_normal, seqQ_ret, seqQ_exit, blockQ_ret, blockQ_normal, blockQ_exit, bodyQ_ret, bodyQ_normal, resK_nil, resK_tmp, ite_T, ite_F, upd_at, add_plain, add_zero', Nat.reduceEqDiff, fa8_0, fa8_1, fa8_2, fa8_3, fa14_0, fa14_1, fa19_0, len22, len24, fa26_0, fa26_1, fa26_2, len27, fa33_0, fa33_1, len35, fa77_0, fa77_1, fa88_0, fa88_1, fa88_2, fa88_3, fa88_4, fa88_5, fa114_0, fa114_1, fa114_2, fa124_0, fa124_1, len134, len136, len154, fa156_0, fa156_1, fa156_2, fa156_3, fa156_4, fa156_5, fa156_6, fa184_0, fa184_1, fa200_0, fa200_1, fa200_2, fa200_3, fa215_0, fa215_1, fa215_2, fa215_3, fa215_4, len218, len271, fa274_0, fa274_1, fa274_2, fa303_0, fa303_1, fa303_2, fa303_3, fa314_0, fa314_1, fa314_2, fa314_3, fa314_4, fa314_5, fa314_6, fa314_7, fa314_8, fa314_9, fa314_10]
    exact hK _ _ ⟨f1, H.get 8 rfl⟩
  clear hlm hcv
  rintro f w9 ⟨f1, g⟩
  have H := H.step g
  simp only [f1]
  refine drawNear_c (H.get 2 rfl) fun w10 g2 ft2 Y2 cy2 X2 cx2 ws2 most hd2 A => ?_
  have H := knI (knG (H.step A.gr) A 1 rfl) A 0 rfl
  clear A
  simp only [List.cons_append, List.nil_append] at H
  simp only [extract3_0, extract3_1, extract3_2]
  refine newG H fun b2 w11 H => ?_
  simp only [List.cons_append, List.nil_append] at H
  rcases hnw : nearV g2 ws2 most with ⟨x2, ok2⟩
  rw [ldB_agg agg26 sz26 rfl (H.get 11 rfl)]
  refine implNW_n hnw (H.get 9 rfl) (H.get 10 rfl) fun w12 U2 d2 g o => ?_
  have H := (H.step g).addI o.1 o.2
  simp only [List.cons_append, List.nil_append] at H
  simp only [bin_add, bin_sub, bin_mul, bin_eql, bin_neq, bin_lss, bin_leq, bin_gtr, bin_geq, un_not, un_neg, pick_true, pick_false, extract_two_0, extract_two_1, nilCheck_pointer, cond_true', cond_false', guard_tt, guard_ff, guard_tf, guard_ft, guard_undef, seqQ_normal, seqQ_ret, seqQ_exit, blockQ_ret, blockQ_normal, blockQ_exit, bodyQ_ret, bodyQ_normal, resK_nil, resK_tmp, ite_T, ite_F, upd_at, add_plain, add_zero', Nat.reduceEqDiff, fa8_0, fa8_1, fa8_2, fa8_3, fa14_0, fa14_1, fa19_0, len22, len24, fa26_0, fa26_1, fa26_2, len27, fa33_0, fa33_1, len35, fa77_0, fa77_1, fa88_0, fa88_1, fa88_2, fa88_3, fa88_4, fa88_5, fa114_0, fa114_1, fa114_2, fa124_0, fa124_1, len134, len136, len154, fa156_0, fa156_1, fa156_2, fa156_3, fa156_4, fa156_5, fa156_6, fa184_0, fa184_1, fa200_0, fa200_1, fa200_2, fa200_3, fa215_0, fa215_1, fa215_2, fa215_3, fa215_4, len218, len271, fa274_0, fa274_1, fa274_2, fa303_0, fa303_1, fa303_2, fa303_3, fa314_0, fa314_1, fa314_2, fa314_3, fa314_4, fa314_5, fa314_6, fa314_7, fa314_8, fa314_9, fa314_10]
  rw [ldB_agg agg26 sz26 rfl (H.get 11 rfl)]
  refine specNW_n hnw (H.get 9 rfl) (H.get 10 rfl) fun w13 V2 e2 g o => ?_
  have H := (H.step g).addI o.1 o.2
  simp only [List.cons_append, List.nil_append] at H
  simp only [bin_add, bin_sub, bin_mul, bin_eql, bin_neq, bin_lss, bin_leq, bin_gtr, bin_geq, un_not, un_neg, pick_true, pick_false, extract_two_0, extract_two_1, nilCheck_pointer, cond_true', cond_false', guard_tt, guard_ff, guard_tf, guard_ft, guard_undef, seqQ_normal, seqQ_ret, seqQ_exit, blockQ_ret, blockQ_normal, blockQ_exit, bodyQ_ret, bodyQ_normal, resK_nil, resK_tmp, ite_T, ite_F, upd_at, add_plain, add_zero', Nat.reduceEqDiff, fa8_0, fa8_1, fa8_2, fa8_3, fa14_0, fa14_1, fa19_0, len22, len24, fa26_0, fa26_1, fa26_2, len27, fa33_0, fa33_1, len35, fa77_0, fa77_1, fa88_0, fa88_1, fa88_2, fa88_3, fa88_4, fa88_5, fa114_0, fa114_1, fa114_2, fa124_0, fa124_1, len134, len136, len154, fa156_0, fa156_1, fa156_2, fa156_3, fa156_4, fa156_5, fa156_6, fa184_0, fa184_1, fa200_0, fa200_1, fa200_2, fa200_3, fa215_0, fa215_1, fa215_2, fa215_3, fa215_4, len218, len271, fa274_0, fa274_1, fa274_2, fa303_0, fa303_1, fa303_2, fa303_3, fa314_0, fa314_1, fa314_2, fa314_3, fa314_4, fa314_5, fa314_6, fa314_7, fa314_8, fa314_9, fa314_10]
  refine drawMend_c (H.get 2 rfl) fun w14 g3 ft3 Y3 cy3 X3 cx3 ws3 hd3 A => ?_
  have H := knI (knG (H.step A.gr) A 1 rfl) A 0 rfl
  clear A
  simp only [List.cons_append, List.nil_append] at H
  simp only [bin_add, bin_sub, bin_mul, bin_eql, bin_neq, bin_lss, bin_leq, bin_gtr, bin_geq, un_not, un_neg, pick_true, pick_false, extract_two_0, extract_two_1, nilCheck_pointer, cond_true', cond_false', guard_tt, guard_ff, guard_tf, guard_ft, guard_undef, seqQ_normal, seqQ_ret, seqQ_exit, blockQ_ret, blockQ_normal, blockQ_exit, bodyQ_ret, bodyQ_normal, resK_nil, resK_tmp, ite_T, ite_F, upd_at, add_plain, add_zero', Nat.reduceEqDiff, fa8_0, fa8_1, fa8_2, fa8_3, fa14_0, fa14_1, fa19_0, len22, len24, fa26_0, fa26_1, fa26_2, len27, fa33_0, fa33_1, len35, fa77_0, fa77_1, fa88_0, fa88_1, fa88_2, fa88_3, fa88_4, fa88_5, fa114_0, fa114_1, fa114_2, fa124_0, fa124_1, len134, len136, len154, fa156_0, fa156_1, fa156_2, fa156_3, fa156_4, fa156_5, fa156_6, fa184_0, fa184_1, fa200_0, fa200_1, fa200_2, fa200_3, fa215_0, fa215_1, fa215_2, fa215_3, fa215_4, len218, len271, fa274_0, fa274_1, fa274_2, fa303_0, fa303_1, fa303_2, fa303_3, fa314_0, fa314_1, fa314_2, fa314_3, fa314_4, fa314_5, fa314_6, fa314_7, fa314_8, fa314_9, fa314_10]
  refine newG H fun b3 w15 H => ?_
  simp only [List.cons_append, List.nil_append] at H
  rcases hmt : mendTableV g3 ws3 with ⟨x3, ok3⟩
  rw [ldB_agg agg26 sz26 rfl (H.get 16 rfl)]
  refine implMT_n hmt (H.get 14 rfl) (H.get 15 rfl) fun w16 U3 d3 g o => ?_
  have H := (H.step g).addI o.1 o.2
  simp only [List.cons_append, List.nil_append] at H
  simp only [bin_add, bin_sub, bin_mul, bin_eql, bin_neq, bin_lss, bin_leq, bin_gtr, bin_geq, un_not, un_neg, pick_true, pick_false, extract_two_0, extract_two_1, nilCheck_pointer, cond_true', cond_false', guard_tt, guard_ff, guard_tf, guard_ft, guard_undef, seqQ_normal, seqQ_ret, seqQ_exit, blockQ_ret, blockQ_normal, blockQ_exit, bodyQ_ret, bodyQ_normal, resK_nil, resK_tmp, ite_T, ite_F, upd_at, add_plain, add_zero', Nat.reduceEqDiff, fa8_0, fa8_1, fa8_2, fa8_3, fa14_0, fa14_1, fa19_0, len22, len24, fa26_0, fa26_1, fa26_2, len27, fa33_0, fa33_1, len35, fa77_0, fa77_1, fa88_0, fa88_1, fa88_2, fa88_3, fa88_4, fa88_5, fa114_0, fa114_1, fa114_2, fa124_0, fa124_1, len134, len136, len154, fa156_0, fa156_1, fa156_2, fa156_3, fa156_4, fa156_5, fa156_6, fa184_0, fa184_1, fa200_0, fa200_1, fa200_2, fa200_3, fa215_0, fa215_1, fa215_2, fa215_3, fa215_4, len218, len271, fa274_0, fa274_1, fa274_2, fa303_0, fa303_1, fa303_2, fa303_3, fa314_0, fa314_1, fa314_2, fa314_3, fa314_4, fa314_5, fa314_6, fa314_7, fa314_8, fa314_9, fa314_10]
  rw [ldB_agg agg26 sz26 rfl (H.get 16 rfl)]
  refine specMT_n hmt (H.get 14 rfl) (H.get 15 rfl) fun w17 V3 e3 g o => ?_
  have H := (H.step g).addI o.1 o.2
  simp only [List.cons_append, List.nil_append] at H
  simp only [bneq, beq_self_eq_true, Bool.not_true, bin_add, bin_sub, bin_mul, bin_eql, bin_neq, bin_lss, bin_leq, bin_gtr, bin_geq, un_not, un_neg, pick_true, pick_false, extract_two_0, extract_two_1, nilCheck_pointer, cond_true', cond_false', guard_tt, guard_ff, guard_tf, guard_ft, guard_undef, seqQ_normal, seqQ_ret, seqQ_exit, blockQ_ret, blockQ_normal, blockQ_exit, bodyQ_ret, bodyQ_normal, resK_nil, resK_tmp, ite_T, ite_F, upd_at, add_plain, add_zero', Nat.reduceEqDiff, fa8_0, fa8_1, fa8_2, fa8_3, fa14_0, fa14_1, fa19_0, len22, len24, fa26_0, fa26_1, fa26_2, len27, fa33_0, fa33_1, len35, fa77_0, fa77_1, fa88_0, fa88_1, fa88_2, fa88_3, fa88_4, fa88_5, fa114_0, fa114_1, fa114_2, fa124_0, fa124_1, len134, len136, len154, fa156_0, fa156_1, fa156_2, fa156_3, fa156_4, fa156_5, fa156_6, fa184_0, fa184_1, fa200_0, fa200_1, fa200_2, fa200_3, fa215_0, fa215_1, fa215_2, fa215_3, fa215_4, len218, len271, fa274_0, fa274_1, fa274_2, fa303_0, fa303_1, fa303_2, fa303_3, fa314_0, fa314_1, fa314_2, fa314_3, fa314_4, fa314_5, fa314_6, fa314_7, fa314_8, fa314_9, fa314_10]
  refine sameInts_c (H.get 12 rfl).1 (H.get 13 rfl).1 fun w18 g => ?_
  have H := H.step g
  simp only [decide_true, bneq, beq_self_eq_true, Bool.not_true, bin_add, bin_sub, bin_mul, bin_eql, bin_neq, bin_lss, bin_leq, bin_gtr, bin_geq, un_not, un_neg, pick_true, pick_false, extract_two_0, extract_two_1, nilCheck_pointer, cond_true', cond_false', guard_tt, guard_ff, guard_tf, guard_ft, guard_undef, seqQ_normal, seqQ_ret, seqQ_exit, blockQ_ret, blockQ_normal, blockQ_exit, bodyQ_ret, bodyQ_normal, resK_nil, resK_tmp, ite_T, ite_F, upd_at, add_plain, add_zero', Nat.reduceEqDiff, fa8_0, fa8_1, fa8_2, fa8_3, fa14_0, fa14_1, fa19_0, len22, len24, fa26_0, fa26_1, fa26_2, len27, fa33_0, fa33_1, len35, fa77_0, fa77_1, fa88_0, fa88_1, fa88_2, fa88_3, fa88_4, fa88_5, fa114_0, fa114_1, fa114_2, fa124_0, fa124_1, len134, len136, len154, fa156_0, fa156_1, fa156_2, fa156_3, fa156_4, fa156_5, fa156_6, fa184_0, fa184_1, fa200_0, fa200_1, fa200_2, fa200_3, fa215_0, fa215_1, fa215_2, fa215_3, fa215_4, len218, len271, fa274_0, fa274_1, fa274_2, fa303_0, fa303_1, fa303_2, fa303_3, fa314_0, fa314_1, fa314_2, fa314_3, fa314_4, fa314_5, fa314_6, fa314_7, fa314_8, fa314_9, fa314_10]
  refine sameInts_c (H.get 17 rfl).1 (H.get 18 rfl).1 fun w19 g => ?_
  have H := H.step g
  simp only [decide_true, Bool.not_true, bin_add, bin_sub, bin_mul, bin_eql, bin_neq, bin_lss, bin_leq, bin_gtr, bin_geq, un_not, un_neg, pick_true, pick_false, extract_two_0, extract_two_1, nilCheck_pointer, cond_true', cond_false', guard_tt, guard_ff, guard_tf, guard_ft, guard_undef, seqQ_normal, seqQ_ret, seqQ_exit, blockQ_ret, blockQ_normal, blockQ_exit, bodyQ_ret, bodyQ_normal, resK_nil, resK_tmp, ite_T, ite_F, upd_at, add_plain, add_zero', Nat.reduceEqDiff, fa8_0, fa8_1, fa8_2, fa8_3, fa14_0, fa14_1, fa19_0, len22, len24, fa26_0, fa26_1, fa26_2, len27, fa33_0, fa33_1, len35, fa77_0, fa77_1, fa88_0, fa88_1, fa88_2, fa88_3, fa88_4, fa88_5, fa114_0, fa114_1, fa114_2, fa124_0, fa124_1, len134, len136, len154, fa156_0, fa156_1, fa156_2, fa156_3, fa156_4, fa156_5, fa156_6, fa184_0, fa184_1, fa200_0, fa200_1, fa200_2, fa200_3, fa215_0, fa215_1, fa215_2, fa215_3, fa215_4, len218, len271, fa274_0, fa274_1, fa274_2, fa303_0, fa303_1, fa303_2, fa303_3, fa314_0, fa314_1, fa314_2, fa314_3, fa314_4, fa314_5, fa314_6, fa314_7, fa314_8, fa314_9, fa314_10]
  cases ok2
  · simp only [bin_add, bin_sub, bin_mul, bin_eql, bin_neq, bin_lss, bin_leq, bin_gtr, bin_geq, un_not, un_neg, pick_true, pick_false, extract_two_0, extract_two_1, nilCheck_pointer, cond_true', cond_false', guard_tt, guard_ff, guard_tf, guard_ft, guard_undef, seqQ_normal, seqQ_ret, seqQ_exit, blockQ_ret, blockQ_normal, blockQ_exit, bodyQ_ret, bodyQ_normal, resK_nil, resK_tmp, ite_T, ite_F, upd_at, add_plain, add_zero', Nat.reduceEqDiff, fa8_0, fa8_1, fa8_2, fa8_3, fa14_0, fa14_1, fa19_0, len22, len24, fa26_0, fa26_1, fa26_2, len27, fa33_0, fa33_1, len35, fa77_0, fa77_1, fa88_0, fa88_1, fa88_2, fa88_3, fa88_4, fa88_5, fa114_0, fa114_1, fa114_2, fa124_0, fa124_1, len134, len136, len154, fa156_0, fa156_1, fa156_2, fa156_3, fa156_4, fa156_5, fa156_6, fa184_0, fa184_1, fa200_0, fa200_1, fa200_2, fa200_3, fa215_0, fa215_1, fa215_2, fa215_3, fa215_4, len218, len271, fa274_0, fa274_1, fa274_2, fa303_0, fa303_1, fa303_2, fa303_3, fa314_0, fa314_1, fa314_2, fa314_3, fa314_4, fa314_5, fa314_6, fa314_7, fa314_8, fa314_9, fa314_10]
    exact hk _ (H.get 0 rfl)
  simp only [bin_add, bin_sub, bin_mul, bin_eql, bin_neq, bin_lss, bin_leq, bin_gtr, bin_geq, un_not, un_neg, pick_true, pick_false, extract_two_0, extract_two_1, nilCheck_pointer, cond_true', cond_false', guard_tt, guard_ff, guard_tf, guard_ft, guard_undef, seqQ_normal, seqQ_ret, seqQ_exit, blockQ_ret, blockQ_normal, blockQ_exit, bodyQ_ret, bodyQ_normal, resK_nil, resK_tmp, ite_T, ite_F, upd_at, add_plain, add_zero', Nat.reduceEqDiff, fa8_0, fa8_1, fa8_2, fa8_3, fa14_0, fa14_1, fa19_0, len22, len24, fa26_0, fa26_1, fa26_2, len27, fa33_0, fa33_1, len35, fa77_0, fa77_1, fa88_0, fa88_1, fa88_2, fa88_3, fa88_4, fa88_5, fa114_0, fa114_1, fa114_2, fa124_0, fa124_1, len134, len136, len154, fa156_0, fa156_1, fa156_2, fa156_3, fa156_4, fa156_5, fa156_6, fa184_0, fa184_1, fa200_0, fa200_1, fa200_2, fa200_3, fa215_0, fa215_1, fa215_2, fa215_3, fa215_4, len218, len271, fa274_0, fa274_1, fa274_2, fa303_0, fa303_1, fa303_2, fa303_3, fa314_0, fa314_1, fa314_2, fa314_3, fa314_4, fa314_5, fa314_6, fa314_7, fa314_8, fa314_9, fa314_10]
  obtain ⟨n2, hlm2, hap, hle⟩ := near_true hnw
  rw [ldB_agg agg26 sz26 rfl (H.get 11 rfl)]
  refine implLM_n hlm2 (H.get 9 rfl) (H.get 10 rfl) fun w20 g => ?_
  have H := H.step g
  simp only [bin_add, bin_sub, bin_mul, bin_eql, bin_neq, bin_lss, bin_leq, bin_gtr, bin_geq, un_not, un_neg, pick_true, pick_false, extract_two_0, extract_two_1, nilCheck_pointer, cond_true', cond_false', guard_tt, guard_ff, guard_tf, guard_ft, guard_undef, seqQ_normal, seqQ_ret, seqQ_exit, blockQ_ret, blockQ_normal, blockQ_exit, bodyQ_ret, bodyQ_normal, resK_nil, resK_tmp, ite_T, ite_F, upd_at, add_plain, add_zero', Nat.reduceEqDiff, fa8_0, fa8_1, fa8_2, fa8_3, fa14_0, fa14_1, fa19_0, len22, len24, fa26_0, fa26_1, fa26_2, len27, fa33_0, fa33_1, len35, fa77_0, fa77_1, fa88_0, fa88_1, fa88_2, fa88_3, fa88_4, fa88_5, fa114_0, fa114_1, fa114_2, fa124_0, fa124_1, len134, len136, len154, fa156_0, fa156_1, fa156_2, fa156_3, fa156_4, fa156_5, fa156_6, fa184_0, fa184_1, fa200_0, fa200_1, fa200_2, fa200_3, fa215_0, fa215_1, fa215_2, fa215_3, fa215_4, len218, len271, fa274_0, fa274_1, fa274_2, fa303_0, fa303_1, fa303_2, fa303_3, fa314_0, fa314_1, fa314_2, fa314_3, fa314_4, fa314_5, fa314_6, fa314_7, fa314_8, fa314_9, fa314_10]
  refine apartT_c (H.get 10 rfl).1 (H.get 12 rfl).1 rfl rfl fun w21 g => ?_
  have H := H.step g
  rw [hap]
  simp only [bin_add, bin_sub, bin_mul, bin_eql, bin_neq, bin_lss, bin_leq, bin_gtr, bin_geq, un_not, un_neg, pick_true, pick_false, extract_two_0, extract_two_1, nilCheck_pointer, cond_true', cond_false', guard_tt, guard_ff, guard_tf, guard_ft, guard_undef, seqQ_normal, seqQ_ret, seqQ_exit, blockQ_ret, blockQ_normal, blockQ_exit, bodyQ_ret, bodyQ_normal, resK_nil, resK_tmp, ite_T, ite_F, upd_at, add_plain, add_zero', Nat.reduceEqDiff, fa8_0, fa8_1, fa8_2, fa8_3, fa14_0, fa14_1, fa19_0, len22, len24, fa26_0, fa26_1, fa26_2, len27, fa33_0, fa33_1, len35, fa77_0, fa77_1, fa88_0, fa88_1, fa88_2, fa88_3, fa88_4, fa88_5, fa114_0, fa114_1, fa114_2, fa124_0, fa124_1, len134, len136, len154, fa156_0, fa156_1, fa156_2, fa156_3, fa156_4, fa156_5, fa156_6, fa184_0, fa184_1, fa200_0, fa200_1, fa200_2, fa200_3, fa215_0, fa215_1, fa215_2, fa215_3, fa215_4, len218, len271, fa274_0, fa274_1, fa274_2, fa303_0, fa303_1, fa303_2, fa303_3, fa314_0, fa314_1, fa314_2, fa314_3, fa314_4, fa314_5, fa314_6, fa314_7, fa314_8, fa314_9, fa314_10]
  simp only [show n2 ≤ edist ws2 x2 from hle, decide_true, bin_add, bin_sub, bin_mul, bin_eql, bin_neq, bin_lss, bin_leq, bin_gtr, bin_geq, un_not, un_neg, pick_true, pick_false, extract_two_0, extract_two_1, nilCheck_pointer, cond_true', cond_false', guard_tt, guard_ff, guard_tf, guard_ft, guard_undef, seqQ_normal, seqQ_ret, seqQ_exit, blockQ_ret, blockQ_normal, blockQ_exit, bodyQ_ret, bodyQ_normal, resK_nil, resK_tmp, ite_T, ite_F, upd_at, add_plain, add_zero', Nat.reduceEqDiff, fa8_0, fa8_1, fa8_2, fa8_3, fa14_0, fa14_1, fa19_0, len22, len24, fa26_0, fa26_1, fa26_2, len27, fa33_0, fa33_1, len35, fa77_0, fa77_1, fa88_0, fa88_1, fa88_2, fa88_3, fa88_4, fa88_5, fa114_0, fa114_1, fa114_2, fa124_0, fa124_1, len134, len136, len154, fa156_0, fa156_1, fa156_2, fa156_3, fa156_4, fa156_5, fa156_6, fa184_0, fa184_1, fa200_0, fa200_1, fa200_2, fa200_3, fa215_0, fa215_1, fa215_2, fa215_3, fa215_4, len218, len271, fa274_0, fa274_1, fa274_2, fa303_0, fa303_1, fa303_2, fa303_3, fa314_0, fa314_1, fa314_2, fa314_3, fa314_4, fa314_5, fa314_6, fa314_7, fa314_8, fa314_9, fa314_10]
  exact hk _ (H.get 0 rfl)
end Go.Proofs.Ytegcjkhebecgbaa

/- Facts of the program alone, that each row asks for: its init order's words, and that it is laid out. -/
set_option maxRecDepth 100000
namespace Go.Proofs.Ytegcjkhebecgbaa
open Go
theorem make_of {P : Program} {W : List (List Char)} {c : List Char} {rest : List (List Char)} (h : behindMainWord (wordsSigns P.initOrder.toList) = W) (hW : W = c :: rest) (hc : (c == "gc".toList || c == "spec".toList) = false) (h2 : (c == "cut".toList) = true) : P.make = some .cut := by
  unfold Program.make
  rw [h, hW]
  dsimp only
  rw [if_neg (by rw [hc]; exact Bool.false_ne_true), if_pos (by rw [h2]; rfl)]
theorem lifts_of {P : Program} {W : List (List Char)} (h : behindMainWord (wordsSigns P.initOrder.toList) = W) (h1 : (W.head? == some "carried".toList) = false) (h2 : (stripLifts liftWords W).1.contains "finals" = false) : P.liftsFinal = false := by
  unfold Program.liftsFinal Program.headLifts
  rw [h]
  simp only [h1, Bool.false_and, Bool.false_or]
  split
  · exact h2
  · rfl
theorem may_of {P : Program} {W : List (List Char)} {c : List Char} {rest : List (List Char)} {l : List String} (h : behindMainWord (wordsSigns P.initOrder.toList) = W) (hW : W = c :: rest) (hl : P.laysLater = false) (hb : P.bearsReflect = false) (hs : stripLifts liftWords (c :: rest) = (l, c :: rest)) (h2 : (c == "cut".toList) = true) (h3 : l.contains "leanrows" = false) (hd : P.doorFits l = true) : P.mayEnter = true := by
  unfold Program.mayEnter
  rw [h, hW]
  have h4 : (some c == some "cut".toList) = true := h2
  simp only [hs, hl, hb, h3, hd, h4, List.head?_cons, Bool.not_false, Bool.and_true, Bool.or_true]
def signs : List Char := Char.ofNat 104 :: Char.ofNat 97 :: Char.ofNat 114 :: Char.ofNat 110 :: Char.ofNat 101 :: Char.ofNat 115 :: Char.ofNat 115 :: Char.ofNat 32 :: Char.ofNat 54 :: Char.ofNat 56 :: Char.ofNat 98 :: Char.ofNat 99 :: Char.ofNat 101 :: Char.ofNat 53 :: Char.ofNat 101 :: Char.ofNat 51 :: Char.ofNat 48 :: Char.ofNat 98 :: Char.ofNat 99 :: Char.ofNat 100 :: Char.ofNat 53 :: Char.ofNat 48 :: Char.ofNat 57 :: Char.ofNat 53 :: Char.ofNat 50 :: Char.ofNat 99 :: Char.ofNat 57 :: Char.ofNat 55 :: Char.ofNat 55 :: Char.ofNat 51 :: Char.ofNat 57 :: Char.ofNat 97 :: Char.ofNat 99 :: Char.ofNat 97 :: Char.ofNat 98 :: Char.ofNat 101 :: Char.ofNat 102 :: Char.ofNat 48 :: Char.ofNat 52 :: Char.ofNat 57 :: Char.ofNat 51 :: Char.ofNat 48 :: Char.ofNat 48 :: Char.ofNat 48 :: Char.ofNat 56 :: Char.ofNat 52 :: Char.ofNat 101 :: Char.ofNat 101 :: Char.ofNat 57 :: Char.ofNat 53 :: Char.ofNat 57 :: Char.ofNat 50 :: Char.ofNat 101 :: Char.ofNat 52 :: Char.ofNat 50 :: Char.ofNat 50 :: Char.ofNat 48 :: Char.ofNat 98 :: Char.ofNat 48 :: Char.ofNat 51 :: Char.ofNat 100 :: Char.ofNat 98 :: Char.ofNat 56 :: Char.ofNat 101 :: Char.ofNat 54 :: Char.ofNat 52 :: Char.ofNat 99 :: Char.ofNat 98 :: Char.ofNat 53 :: Char.ofNat 55 :: Char.ofNat 49 :: Char.ofNat 98 :: Char.ofNat 32 :: Char.ofNat 99 :: Char.ofNat 117 :: Char.ofNat 116 :: Char.ofNat 32 :: Char.ofNat 97 :: Char.ofNat 116 :: Char.ofNat 32 :: Char.ofNat 108 :: Char.ofNat 111 :: Char.ofNat 111 :: Char.ofNat 112 :: Char.ofNat 46 :: Char.ofNat 101 :: Char.ofNat 120 :: Char.ofNat 97 :: Char.ofNat 109 :: Char.ofNat 112 :: Char.ofNat 108 :: Char.ofNat 101 :: Char.ofNat 47 :: Char.ofNat 103 :: Char.ofNat 48 :: Char.ofNat 48 :: Char.ofNat 55 :: Char.ofNat 53 :: Char.ofNat 56 :: Char.ofNat 47 :: Char.ofNat 108 :: Char.ofNat 97 :: Char.ofNat 119 :: Char.ofNat 115 :: Char.ofNat 46 :: Char.ofNat 70 :: Char.ofNat 110 :: Char.ofNat 68 :: Char.ofNat 101 :: Char.ofNat 114 :: Char.ofNat 105 :: Char.ofNat 118 :: Char.ofNat 101 :: Char.ofNat 115 :: Char.ofNat 32 :: Char.ofNat 108 :: Char.ofNat 111 :: Char.ofNat 111 :: Char.ofNat 112 :: Char.ofNat 46 :: Char.ofNat 101 :: Char.ofNat 120 :: Char.ofNat 97 :: Char.ofNat 109 :: Char.ofNat 112 :: Char.ofNat 108 :: Char.ofNat 101 :: Char.ofNat 47 :: Char.ofNat 103 :: Char.ofNat 48 :: Char.ofNat 48 :: Char.ofNat 55 :: Char.ofNat 53 :: Char.ofNat 56 :: Char.ofNat 47 :: Char.ofNat 108 :: Char.ofNat 97 :: Char.ofNat 119 :: Char.ofNat 115 :: Char.ofNat 46 :: Char.ofNat 70 :: Char.ofNat 110 :: Char.ofNat 70 :: Char.ofNat 105 :: Char.ofNat 114 :: Char.ofNat 115 :: Char.ofNat 116 :: Char.ofNat 115 :: Char.ofNat 32 :: Char.ofNat 108 :: Char.ofNat 111 :: Char.ofNat 111 :: Char.ofNat 112 :: Char.ofNat 46 :: Char.ofNat 101 :: Char.ofNat 120 :: Char.ofNat 97 :: Char.ofNat 109 :: Char.ofNat 112 :: Char.ofNat 108 :: Char.ofNat 101 :: Char.ofNat 47 :: Char.ofNat 103 :: Char.ofNat 48 :: Char.ofNat 48 :: Char.ofNat 55 :: Char.ofNat 53 :: Char.ofNat 56 :: Char.ofNat 47 :: Char.ofNat 108 :: Char.ofNat 97 :: Char.ofNat 119 :: Char.ofNat 115 :: Char.ofNat 46 :: Char.ofNat 70 :: Char.ofNat 110 :: Char.ofNat 66 :: Char.ofNat 101 :: Char.ofNat 115 :: Char.ofNat 105 :: Char.ofNat 100 :: Char.ofNat 101 :: Char.ofNat 32 :: Char.ofNat 108 :: Char.ofNat 111 :: Char.ofNat 111 :: Char.ofNat 112 :: Char.ofNat 46 :: Char.ofNat 101 :: Char.ofNat 120 :: Char.ofNat 97 :: Char.ofNat 109 :: Char.ofNat 112 :: Char.ofNat 108 :: Char.ofNat 101 :: Char.ofNat 47 :: Char.ofNat 103 :: Char.ofNat 48 :: Char.ofNat 48 :: Char.ofNat 55 :: Char.ofNat 53 :: Char.ofNat 56 :: Char.ofNat 47 :: Char.ofNat 108 :: Char.ofNat 97 :: Char.ofNat 119 :: Char.ofNat 115 :: Char.ofNat 46 :: Char.ofNat 70 :: Char.ofNat 110 :: Char.ofNat 82 :: Char.ofNat 101 :: Char.ofNat 119 :: Char.ofNat 114 :: Char.ofNat 105 :: Char.ofNat 116 :: Char.ofNat 101 :: Char.ofNat 115 :: Char.ofNat 32 :: Char.ofNat 108 :: Char.ofNat 111 :: Char.ofNat 111 :: Char.ofNat 112 :: Char.ofNat 46 :: Char.ofNat 101 :: Char.ofNat 120 :: Char.ofNat 97 :: Char.ofNat 109 :: Char.ofNat 112 :: Char.ofNat 108 :: Char.ofNat 101 :: Char.ofNat 47 :: Char.ofNat 103 :: Char.ofNat 48 :: Char.ofNat 48 :: Char.ofNat 55 :: Char.ofNat 53 :: Char.ofNat 56 :: Char.ofNat 47 :: Char.ofNat 108 :: Char.ofNat 97 :: Char.ofNat 119 :: Char.ofNat 115 :: Char.ofNat 46 :: Char.ofNat 70 :: Char.ofNat 110 :: Char.ofNat 70 :: Char.ofNat 105 :: Char.ofNat 110 :: Char.ofNat 105 :: Char.ofNat 116 :: Char.ofNat 101 :: Char.ofNat 32 :: Char.ofNat 108 :: Char.ofNat 111 :: Char.ofNat 111 :: Char.ofNat 112 :: Char.ofNat 46 :: Char.ofNat 101 :: Char.ofNat 120 :: Char.ofNat 97 :: Char.ofNat 109 :: Char.ofNat 112 :: Char.ofNat 108 :: Char.ofNat 101 :: Char.ofNat 47 :: Char.ofNat 103 :: Char.ofNat 48 :: Char.ofNat 48 :: Char.ofNat 55 :: Char.ofNat 53 :: Char.ofNat 56 :: Char.ofNat 47 :: Char.ofNat 108 :: Char.ofNat 97 :: Char.ofNat 119 :: Char.ofNat 115 :: Char.ofNat 46 :: Char.ofNat 70 :: Char.ofNat 110 :: Char.ofNat 85 :: Char.ofNat 115 :: Char.ofNat 101 :: Char.ofNat 102 :: Char.ofNat 117 :: Char.ofNat 108 :: Char.ofNat 32 :: Char.ofNat 108 :: Char.ofNat 111 :: Char.ofNat 111 :: Char.ofNat 112 :: Char.ofNat 46 :: Char.ofNat 101 :: Char.ofNat 120 :: Char.ofNat 97 :: Char.ofNat 109 :: Char.ofNat 112 :: Char.ofNat 108 :: Char.ofNat 101 :: Char.ofNat 47 :: Char.ofNat 103 :: Char.ofNat 48 :: Char.ofNat 48 :: Char.ofNat 55 :: Char.ofNat 53 :: Char.ofNat 56 :: Char.ofNat 47 :: Char.ofNat 108 :: Char.ofNat 97 :: Char.ofNat 119 :: Char.ofNat 115 :: Char.ofNat 46 :: Char.ofNat 70 :: Char.ofNat 110 :: Char.ofNat 85 :: Char.ofNat 110 :: Char.ofNat 108 :: Char.ofNat 105 :: Char.ofNat 107 :: Char.ofNat 101 :: Char.ofNat 32 :: Char.ofNat 108 :: Char.ofNat 111 :: Char.ofNat 111 :: Char.ofNat 112 :: Char.ofNat 46 :: Char.ofNat 101 :: Char.ofNat 120 :: Char.ofNat 97 :: Char.ofNat 109 :: Char.ofNat 112 :: Char.ofNat 108 :: Char.ofNat 101 :: Char.ofNat 47 :: Char.ofNat 103 :: Char.ofNat 48 :: Char.ofNat 48 :: Char.ofNat 55 :: Char.ofNat 53 :: Char.ofNat 56 :: Char.ofNat 47 :: Char.ofNat 108 :: Char.ofNat 97 :: Char.ofNat 119 :: Char.ofNat 115 :: Char.ofNat 46 :: Char.ofNat 70 :: Char.ofNat 110 :: Char.ofNat 67 :: Char.ofNat 101 :: Char.ofNat 108 :: Char.ofNat 108 :: Char.ofNat 115 :: Char.ofNat 32 :: Char.ofNat 108 :: Char.ofNat 111 :: Char.ofNat 111 :: Char.ofNat 112 :: Char.ofNat 46 :: Char.ofNat 101 :: Char.ofNat 120 :: Char.ofNat 97 :: Char.ofNat 109 :: Char.ofNat 112 :: Char.ofNat 108 :: Char.ofNat 101 :: Char.ofNat 47 :: Char.ofNat 103 :: Char.ofNat 48 :: Char.ofNat 48 :: Char.ofNat 55 :: Char.ofNat 53 :: Char.ofNat 56 :: Char.ofNat 47 :: Char.ofNat 108 :: Char.ofNat 97 :: Char.ofNat 119 :: Char.ofNat 115 :: Char.ofNat 46 :: Char.ofNat 70 :: Char.ofNat 110 :: Char.ofNat 77 :: Char.ofNat 101 :: Char.ofNat 110 :: Char.ofNat 100 :: Char.ofNat 32 :: Char.ofNat 108 :: Char.ofNat 111 :: Char.ofNat 111 :: Char.ofNat 112 :: Char.ofNat 46 :: Char.ofNat 101 :: Char.ofNat 120 :: Char.ofNat 97 :: Char.ofNat 109 :: Char.ofNat 112 :: Char.ofNat 108 :: Char.ofNat 101 :: Char.ofNat 47 :: Char.ofNat 103 :: Char.ofNat 48 :: Char.ofNat 48 :: Char.ofNat 55 :: Char.ofNat 53 :: Char.ofNat 56 :: Char.ofNat 47 :: Char.ofNat 108 :: Char.ofNat 97 :: Char.ofNat 119 :: Char.ofNat 115 :: Char.ofNat 46 :: Char.ofNat 70 :: Char.ofNat 110 :: Char.ofNat 80 :: Char.ofNat 117 :: Char.ofNat 109 :: Char.ofNat 112 :: Char.ofNat 32 :: Char.ofNat 108 :: Char.ofNat 111 :: Char.ofNat 111 :: Char.ofNat 112 :: Char.ofNat 46 :: Char.ofNat 101 :: Char.ofNat 120 :: Char.ofNat 97 :: Char.ofNat 109 :: Char.ofNat 112 :: Char.ofNat 108 :: Char.ofNat 101 :: Char.ofNat 47 :: Char.ofNat 103 :: Char.ofNat 48 :: Char.ofNat 48 :: Char.ofNat 55 :: Char.ofNat 53 :: Char.ofNat 56 :: Char.ofNat 47 :: Char.ofNat 108 :: Char.ofNat 97 :: Char.ofNat 119 :: Char.ofNat 115 :: Char.ofNat 46 :: Char.ofNat 70 :: Char.ofNat 110 :: Char.ofNat 76 :: Char.ofNat 111 :: Char.ofNat 110 :: Char.ofNat 103 :: Char.ofNat 69 :: Char.ofNat 110 :: Char.ofNat 111 :: Char.ofNat 117 :: Char.ofNat 103 :: Char.ofNat 104 :: Char.ofNat 32 :: Char.ofNat 108 :: Char.ofNat 111 :: Char.ofNat 111 :: Char.ofNat 112 :: Char.ofNat 46 :: Char.ofNat 101 :: Char.ofNat 120 :: Char.ofNat 97 :: Char.ofNat 109 :: Char.ofNat 112 :: Char.ofNat 108 :: Char.ofNat 101 :: Char.ofNat 47 :: Char.ofNat 103 :: Char.ofNat 48 :: Char.ofNat 48 :: Char.ofNat 55 :: Char.ofNat 53 :: Char.ofNat 56 :: Char.ofNat 47 :: Char.ofNat 108 :: Char.ofNat 97 :: Char.ofNat 119 :: Char.ofNat 115 :: Char.ofNat 46 :: Char.ofNat 70 :: Char.ofNat 110 :: Char.ofNat 84 :: Char.ofNat 117 :: Char.ofNat 114 :: Char.ofNat 110 :: Char.ofNat 101 :: Char.ofNat 100 :: []
theorem io0 : Try.prog.initOrder = "harness 68bce5e30bcd50952c97739acabef049300084ee9592e4220b03db8e64cb571b cut at loop.example/g00758/laws.FnDerives loop.example/g00758/laws.FnFirsts loop.example/g00758/laws.FnBeside loop.example/g00758/laws.FnRewrites loop.example/g00758/laws.FnFinite loop.example/g00758/laws.FnUseful loop.example/g00758/laws.FnUnlike loop.example/g00758/laws.FnCells loop.example/g00758/laws.FnMend loop.example/g00758/laws.FnPump loop.example/g00758/laws.FnLongEnough loop.example/g00758/laws.FnTurned" := by kernel_rfl
theorem io1 : "harness 68bce5e30bcd50952c97739acabef049300084ee9592e4220b03db8e64cb571b cut at loop.example/g00758/laws.FnDerives loop.example/g00758/laws.FnFirsts loop.example/g00758/laws.FnBeside loop.example/g00758/laws.FnRewrites loop.example/g00758/laws.FnFinite loop.example/g00758/laws.FnUseful loop.example/g00758/laws.FnUnlike loop.example/g00758/laws.FnCells loop.example/g00758/laws.FnMend loop.example/g00758/laws.FnPump loop.example/g00758/laws.FnLongEnough loop.example/g00758/laws.FnTurned" = String.ofList (Char.ofNat 104 :: Char.ofNat 97 :: Char.ofNat 114 :: Char.ofNat 110 :: Char.ofNat 101 :: Char.ofNat 115 :: Char.ofNat 115 :: Char.ofNat 32 :: Char.ofNat 54 :: Char.ofNat 56 :: Char.ofNat 98 :: Char.ofNat 99 :: Char.ofNat 101 :: Char.ofNat 53 :: Char.ofNat 101 :: Char.ofNat 51 :: Char.ofNat 48 :: Char.ofNat 98 :: Char.ofNat 99 :: Char.ofNat 100 :: Char.ofNat 53 :: Char.ofNat 48 :: Char.ofNat 57 :: Char.ofNat 53 :: Char.ofNat 50 :: Char.ofNat 99 :: Char.ofNat 57 :: Char.ofNat 55 :: Char.ofNat 55 :: Char.ofNat 51 :: Char.ofNat 57 :: Char.ofNat 97 :: Char.ofNat 99 :: Char.ofNat 97 :: Char.ofNat 98 :: Char.ofNat 101 :: Char.ofNat 102 :: Char.ofNat 48 :: Char.ofNat 52 :: Char.ofNat 57 :: Char.ofNat 51 :: Char.ofNat 48 :: Char.ofNat 48 :: Char.ofNat 48 :: Char.ofNat 56 :: Char.ofNat 52 :: Char.ofNat 101 :: Char.ofNat 101 :: Char.ofNat 57 :: Char.ofNat 53 :: Char.ofNat 57 :: Char.ofNat 50 :: Char.ofNat 101 :: Char.ofNat 52 :: Char.ofNat 50 :: Char.ofNat 50 :: Char.ofNat 48 :: Char.ofNat 98 :: Char.ofNat 48 :: Char.ofNat 51 :: Char.ofNat 100 :: Char.ofNat 98 :: Char.ofNat 56 :: Char.ofNat 101 :: Char.ofNat 54 :: Char.ofNat 52 :: Char.ofNat 99 :: Char.ofNat 98 :: Char.ofNat 53 :: Char.ofNat 55 :: Char.ofNat 49 :: Char.ofNat 98 :: Char.ofNat 32 :: Char.ofNat 99 :: Char.ofNat 117 :: Char.ofNat 116 :: Char.ofNat 32 :: Char.ofNat 97 :: Char.ofNat 116 :: Char.ofNat 32 :: Char.ofNat 108 :: Char.ofNat 111 :: Char.ofNat 111 :: Char.ofNat 112 :: Char.ofNat 46 :: Char.ofNat 101 :: Char.ofNat 120 :: Char.ofNat 97 :: Char.ofNat 109 :: Char.ofNat 112 :: Char.ofNat 108 :: Char.ofNat 101 :: Char.ofNat 47 :: Char.ofNat 103 :: Char.ofNat 48 :: Char.ofNat 48 :: Char.ofNat 55 :: Char.ofNat 53 :: Char.ofNat 56 :: Char.ofNat 47 :: Char.ofNat 108 :: Char.ofNat 97 :: Char.ofNat 119 :: Char.ofNat 115 :: Char.ofNat 46 :: Char.ofNat 70 :: Char.ofNat 110 :: Char.ofNat 68 :: Char.ofNat 101 :: Char.ofNat 114 :: Char.ofNat 105 :: Char.ofNat 118 :: Char.ofNat 101 :: Char.ofNat 115 :: Char.ofNat 32 :: Char.ofNat 108 :: Char.ofNat 111 :: Char.ofNat 111 :: Char.ofNat 112 :: Char.ofNat 46 :: Char.ofNat 101 :: Char.ofNat 120 :: Char.ofNat 97 :: Char.ofNat 109 :: Char.ofNat 112 :: Char.ofNat 108 :: Char.ofNat 101 :: Char.ofNat 47 :: Char.ofNat 103 :: Char.ofNat 48 :: Char.ofNat 48 :: Char.ofNat 55 :: Char.ofNat 53 :: Char.ofNat 56 :: Char.ofNat 47 :: Char.ofNat 108 :: Char.ofNat 97 :: Char.ofNat 119 :: Char.ofNat 115 :: Char.ofNat 46 :: Char.ofNat 70 :: Char.ofNat 110 :: Char.ofNat 70 :: Char.ofNat 105 :: Char.ofNat 114 :: Char.ofNat 115 :: Char.ofNat 116 :: Char.ofNat 115 :: Char.ofNat 32 :: Char.ofNat 108 :: Char.ofNat 111 :: Char.ofNat 111 :: Char.ofNat 112 :: Char.ofNat 46 :: Char.ofNat 101 :: Char.ofNat 120 :: Char.ofNat 97 :: Char.ofNat 109 :: Char.ofNat 112 :: Char.ofNat 108 :: Char.ofNat 101 :: Char.ofNat 47 :: Char.ofNat 103 :: Char.ofNat 48 :: Char.ofNat 48 :: Char.ofNat 55 :: Char.ofNat 53 :: Char.ofNat 56 :: Char.ofNat 47 :: Char.ofNat 108 :: Char.ofNat 97 :: Char.ofNat 119 :: Char.ofNat 115 :: Char.ofNat 46 :: Char.ofNat 70 :: Char.ofNat 110 :: Char.ofNat 66 :: Char.ofNat 101 :: Char.ofNat 115 :: Char.ofNat 105 :: Char.ofNat 100 :: Char.ofNat 101 :: Char.ofNat 32 :: Char.ofNat 108 :: Char.ofNat 111 :: Char.ofNat 111 :: Char.ofNat 112 :: Char.ofNat 46 :: Char.ofNat 101 :: Char.ofNat 120 :: Char.ofNat 97 :: Char.ofNat 109 :: Char.ofNat 112 :: Char.ofNat 108 :: Char.ofNat 101 :: Char.ofNat 47 :: Char.ofNat 103 :: Char.ofNat 48 :: Char.ofNat 48 :: Char.ofNat 55 :: Char.ofNat 53 :: Char.ofNat 56 :: Char.ofNat 47 :: Char.ofNat 108 :: Char.ofNat 97 :: Char.ofNat 119 :: Char.ofNat 115 :: Char.ofNat 46 :: Char.ofNat 70 :: Char.ofNat 110 :: Char.ofNat 82 :: Char.ofNat 101 :: Char.ofNat 119 :: Char.ofNat 114 :: Char.ofNat 105 :: Char.ofNat 116 :: Char.ofNat 101 :: Char.ofNat 115 :: Char.ofNat 32 :: Char.ofNat 108 :: Char.ofNat 111 :: Char.ofNat 111 :: Char.ofNat 112 :: Char.ofNat 46 :: Char.ofNat 101 :: Char.ofNat 120 :: Char.ofNat 97 :: Char.ofNat 109 :: Char.ofNat 112 :: Char.ofNat 108 :: Char.ofNat 101 :: Char.ofNat 47 :: Char.ofNat 103 :: Char.ofNat 48 :: Char.ofNat 48 :: Char.ofNat 55 :: Char.ofNat 53 :: Char.ofNat 56 :: Char.ofNat 47 :: Char.ofNat 108 :: Char.ofNat 97 :: Char.ofNat 119 :: Char.ofNat 115 :: Char.ofNat 46 :: Char.ofNat 70 :: Char.ofNat 110 :: Char.ofNat 70 :: Char.ofNat 105 :: Char.ofNat 110 :: Char.ofNat 105 :: Char.ofNat 116 :: Char.ofNat 101 :: Char.ofNat 32 :: Char.ofNat 108 :: Char.ofNat 111 :: Char.ofNat 111 :: Char.ofNat 112 :: Char.ofNat 46 :: Char.ofNat 101 :: Char.ofNat 120 :: Char.ofNat 97 :: Char.ofNat 109 :: Char.ofNat 112 :: Char.ofNat 108 :: Char.ofNat 101 :: Char.ofNat 47 :: Char.ofNat 103 :: Char.ofNat 48 :: Char.ofNat 48 :: Char.ofNat 55 :: Char.ofNat 53 :: Char.ofNat 56 :: Char.ofNat 47 :: Char.ofNat 108 :: Char.ofNat 97 :: Char.ofNat 119 :: Char.ofNat 115 :: Char.ofNat 46 :: Char.ofNat 70 :: Char.ofNat 110 :: Char.ofNat 85 :: Char.ofNat 115 :: Char.ofNat 101 :: Char.ofNat 102 :: Char.ofNat 117 :: Char.ofNat 108 :: Char.ofNat 32 :: Char.ofNat 108 :: Char.ofNat 111 :: Char.ofNat 111 :: Char.ofNat 112 :: Char.ofNat 46 :: Char.ofNat 101 :: Char.ofNat 120 :: Char.ofNat 97 :: Char.ofNat 109 :: Char.ofNat 112 :: Char.ofNat 108 :: Char.ofNat 101 :: Char.ofNat 47 :: Char.ofNat 103 :: Char.ofNat 48 :: Char.ofNat 48 :: Char.ofNat 55 :: Char.ofNat 53 :: Char.ofNat 56 :: Char.ofNat 47 :: Char.ofNat 108 :: Char.ofNat 97 :: Char.ofNat 119 :: Char.ofNat 115 :: Char.ofNat 46 :: Char.ofNat 70 :: Char.ofNat 110 :: Char.ofNat 85 :: Char.ofNat 110 :: Char.ofNat 108 :: Char.ofNat 105 :: Char.ofNat 107 :: Char.ofNat 101 :: Char.ofNat 32 :: Char.ofNat 108 :: Char.ofNat 111 :: Char.ofNat 111 :: Char.ofNat 112 :: Char.ofNat 46 :: Char.ofNat 101 :: Char.ofNat 120 :: Char.ofNat 97 :: Char.ofNat 109 :: Char.ofNat 112 :: Char.ofNat 108 :: Char.ofNat 101 :: Char.ofNat 47 :: Char.ofNat 103 :: Char.ofNat 48 :: Char.ofNat 48 :: Char.ofNat 55 :: Char.ofNat 53 :: Char.ofNat 56 :: Char.ofNat 47 :: Char.ofNat 108 :: Char.ofNat 97 :: Char.ofNat 119 :: Char.ofNat 115 :: Char.ofNat 46 :: Char.ofNat 70 :: Char.ofNat 110 :: Char.ofNat 67 :: Char.ofNat 101 :: Char.ofNat 108 :: Char.ofNat 108 :: Char.ofNat 115 :: Char.ofNat 32 :: Char.ofNat 108 :: Char.ofNat 111 :: Char.ofNat 111 :: Char.ofNat 112 :: Char.ofNat 46 :: Char.ofNat 101 :: Char.ofNat 120 :: Char.ofNat 97 :: Char.ofNat 109 :: Char.ofNat 112 :: Char.ofNat 108 :: Char.ofNat 101 :: Char.ofNat 47 :: Char.ofNat 103 :: Char.ofNat 48 :: Char.ofNat 48 :: Char.ofNat 55 :: Char.ofNat 53 :: Char.ofNat 56 :: Char.ofNat 47 :: Char.ofNat 108 :: Char.ofNat 97 :: Char.ofNat 119 :: Char.ofNat 115 :: Char.ofNat 46 :: Char.ofNat 70 :: Char.ofNat 110 :: Char.ofNat 77 :: Char.ofNat 101 :: Char.ofNat 110 :: Char.ofNat 100 :: Char.ofNat 32 :: Char.ofNat 108 :: Char.ofNat 111 :: Char.ofNat 111 :: Char.ofNat 112 :: Char.ofNat 46 :: Char.ofNat 101 :: Char.ofNat 120 :: Char.ofNat 97 :: Char.ofNat 109 :: Char.ofNat 112 :: Char.ofNat 108 :: Char.ofNat 101 :: Char.ofNat 47 :: Char.ofNat 103 :: Char.ofNat 48 :: Char.ofNat 48 :: Char.ofNat 55 :: Char.ofNat 53 :: Char.ofNat 56 :: Char.ofNat 47 :: Char.ofNat 108 :: Char.ofNat 97 :: Char.ofNat 119 :: Char.ofNat 115 :: Char.ofNat 46 :: Char.ofNat 70 :: Char.ofNat 110 :: Char.ofNat 80 :: Char.ofNat 117 :: Char.ofNat 109 :: Char.ofNat 112 :: Char.ofNat 32 :: Char.ofNat 108 :: Char.ofNat 111 :: Char.ofNat 111 :: Char.ofNat 112 :: Char.ofNat 46 :: Char.ofNat 101 :: Char.ofNat 120 :: Char.ofNat 97 :: Char.ofNat 109 :: Char.ofNat 112 :: Char.ofNat 108 :: Char.ofNat 101 :: Char.ofNat 47 :: Char.ofNat 103 :: Char.ofNat 48 :: Char.ofNat 48 :: Char.ofNat 55 :: Char.ofNat 53 :: Char.ofNat 56 :: Char.ofNat 47 :: Char.ofNat 108 :: Char.ofNat 97 :: Char.ofNat 119 :: Char.ofNat 115 :: Char.ofNat 46 :: Char.ofNat 70 :: Char.ofNat 110 :: Char.ofNat 76 :: Char.ofNat 111 :: Char.ofNat 110 :: Char.ofNat 103 :: Char.ofNat 69 :: Char.ofNat 110 :: Char.ofNat 111 :: Char.ofNat 117 :: Char.ofNat 103 :: Char.ofNat 104 :: Char.ofNat 32 :: Char.ofNat 108 :: Char.ofNat 111 :: Char.ofNat 111 :: Char.ofNat 112 :: Char.ofNat 46 :: Char.ofNat 101 :: Char.ofNat 120 :: Char.ofNat 97 :: Char.ofNat 109 :: Char.ofNat 112 :: Char.ofNat 108 :: Char.ofNat 101 :: Char.ofNat 47 :: Char.ofNat 103 :: Char.ofNat 48 :: Char.ofNat 48 :: Char.ofNat 55 :: Char.ofNat 53 :: Char.ofNat 56 :: Char.ofNat 47 :: Char.ofNat 108 :: Char.ofNat 97 :: Char.ofNat 119 :: Char.ofNat 115 :: Char.ofNat 46 :: Char.ofNat 70 :: Char.ofNat 110 :: Char.ofNat 84 :: Char.ofNat 117 :: Char.ofNat 114 :: Char.ofNat 110 :: Char.ofNat 101 :: Char.ofNat 100 :: []) := by kernel_rfl
theorem io : Try.prog.initOrder = String.ofList (Char.ofNat 104 :: Char.ofNat 97 :: Char.ofNat 114 :: Char.ofNat 110 :: Char.ofNat 101 :: Char.ofNat 115 :: Char.ofNat 115 :: Char.ofNat 32 :: Char.ofNat 54 :: Char.ofNat 56 :: Char.ofNat 98 :: Char.ofNat 99 :: Char.ofNat 101 :: Char.ofNat 53 :: Char.ofNat 101 :: Char.ofNat 51 :: Char.ofNat 48 :: Char.ofNat 98 :: Char.ofNat 99 :: Char.ofNat 100 :: Char.ofNat 53 :: Char.ofNat 48 :: Char.ofNat 57 :: Char.ofNat 53 :: Char.ofNat 50 :: Char.ofNat 99 :: Char.ofNat 57 :: Char.ofNat 55 :: Char.ofNat 55 :: Char.ofNat 51 :: Char.ofNat 57 :: Char.ofNat 97 :: Char.ofNat 99 :: Char.ofNat 97 :: Char.ofNat 98 :: Char.ofNat 101 :: Char.ofNat 102 :: Char.ofNat 48 :: Char.ofNat 52 :: Char.ofNat 57 :: Char.ofNat 51 :: Char.ofNat 48 :: Char.ofNat 48 :: Char.ofNat 48 :: Char.ofNat 56 :: Char.ofNat 52 :: Char.ofNat 101 :: Char.ofNat 101 :: Char.ofNat 57 :: Char.ofNat 53 :: Char.ofNat 57 :: Char.ofNat 50 :: Char.ofNat 101 :: Char.ofNat 52 :: Char.ofNat 50 :: Char.ofNat 50 :: Char.ofNat 48 :: Char.ofNat 98 :: Char.ofNat 48 :: Char.ofNat 51 :: Char.ofNat 100 :: Char.ofNat 98 :: Char.ofNat 56 :: Char.ofNat 101 :: Char.ofNat 54 :: Char.ofNat 52 :: Char.ofNat 99 :: Char.ofNat 98 :: Char.ofNat 53 :: Char.ofNat 55 :: Char.ofNat 49 :: Char.ofNat 98 :: Char.ofNat 32 :: Char.ofNat 99 :: Char.ofNat 117 :: Char.ofNat 116 :: Char.ofNat 32 :: Char.ofNat 97 :: Char.ofNat 116 :: Char.ofNat 32 :: Char.ofNat 108 :: Char.ofNat 111 :: Char.ofNat 111 :: Char.ofNat 112 :: Char.ofNat 46 :: Char.ofNat 101 :: Char.ofNat 120 :: Char.ofNat 97 :: Char.ofNat 109 :: Char.ofNat 112 :: Char.ofNat 108 :: Char.ofNat 101 :: Char.ofNat 47 :: Char.ofNat 103 :: Char.ofNat 48 :: Char.ofNat 48 :: Char.ofNat 55 :: Char.ofNat 53 :: Char.ofNat 56 :: Char.ofNat 47 :: Char.ofNat 108 :: Char.ofNat 97 :: Char.ofNat 119 :: Char.ofNat 115 :: Char.ofNat 46 :: Char.ofNat 70 :: Char.ofNat 110 :: Char.ofNat 68 :: Char.ofNat 101 :: Char.ofNat 114 :: Char.ofNat 105 :: Char.ofNat 118 :: Char.ofNat 101 :: Char.ofNat 115 :: Char.ofNat 32 :: Char.ofNat 108 :: Char.ofNat 111 :: Char.ofNat 111 :: Char.ofNat 112 :: Char.ofNat 46 :: Char.ofNat 101 :: Char.ofNat 120 :: Char.ofNat 97 :: Char.ofNat 109 :: Char.ofNat 112 :: Char.ofNat 108 :: Char.ofNat 101 :: Char.ofNat 47 :: Char.ofNat 103 :: Char.ofNat 48 :: Char.ofNat 48 :: Char.ofNat 55 :: Char.ofNat 53 :: Char.ofNat 56 :: Char.ofNat 47 :: Char.ofNat 108 :: Char.ofNat 97 :: Char.ofNat 119 :: Char.ofNat 115 :: Char.ofNat 46 :: Char.ofNat 70 :: Char.ofNat 110 :: Char.ofNat 70 :: Char.ofNat 105 :: Char.ofNat 114 :: Char.ofNat 115 :: Char.ofNat 116 :: Char.ofNat 115 :: Char.ofNat 32 :: Char.ofNat 108 :: Char.ofNat 111 :: Char.ofNat 111 :: Char.ofNat 112 :: Char.ofNat 46 :: Char.ofNat 101 :: Char.ofNat 120 :: Char.ofNat 97 :: Char.ofNat 109 :: Char.ofNat 112 :: Char.ofNat 108 :: Char.ofNat 101 :: Char.ofNat 47 :: Char.ofNat 103 :: Char.ofNat 48 :: Char.ofNat 48 :: Char.ofNat 55 :: Char.ofNat 53 :: Char.ofNat 56 :: Char.ofNat 47 :: Char.ofNat 108 :: Char.ofNat 97 :: Char.ofNat 119 :: Char.ofNat 115 :: Char.ofNat 46 :: Char.ofNat 70 :: Char.ofNat 110 :: Char.ofNat 66 :: Char.ofNat 101 :: Char.ofNat 115 :: Char.ofNat 105 :: Char.ofNat 100 :: Char.ofNat 101 :: Char.ofNat 32 :: Char.ofNat 108 :: Char.ofNat 111 :: Char.ofNat 111 :: Char.ofNat 112 :: Char.ofNat 46 :: Char.ofNat 101 :: Char.ofNat 120 :: Char.ofNat 97 :: Char.ofNat 109 :: Char.ofNat 112 :: Char.ofNat 108 :: Char.ofNat 101 :: Char.ofNat 47 :: Char.ofNat 103 :: Char.ofNat 48 :: Char.ofNat 48 :: Char.ofNat 55 :: Char.ofNat 53 :: Char.ofNat 56 :: Char.ofNat 47 :: Char.ofNat 108 :: Char.ofNat 97 :: Char.ofNat 119 :: Char.ofNat 115 :: Char.ofNat 46 :: Char.ofNat 70 :: Char.ofNat 110 :: Char.ofNat 82 :: Char.ofNat 101 :: Char.ofNat 119 :: Char.ofNat 114 :: Char.ofNat 105 :: Char.ofNat 116 :: Char.ofNat 101 :: Char.ofNat 115 :: Char.ofNat 32 :: Char.ofNat 108 :: Char.ofNat 111 :: Char.ofNat 111 :: Char.ofNat 112 :: Char.ofNat 46 :: Char.ofNat 101 :: Char.ofNat 120 :: Char.ofNat 97 :: Char.ofNat 109 :: Char.ofNat 112 :: Char.ofNat 108 :: Char.ofNat 101 :: Char.ofNat 47 :: Char.ofNat 103 :: Char.ofNat 48 :: Char.ofNat 48 :: Char.ofNat 55 :: Char.ofNat 53 :: Char.ofNat 56 :: Char.ofNat 47 :: Char.ofNat 108 :: Char.ofNat 97 :: Char.ofNat 119 :: Char.ofNat 115 :: Char.ofNat 46 :: Char.ofNat 70 :: Char.ofNat 110 :: Char.ofNat 70 :: Char.ofNat 105 :: Char.ofNat 110 :: Char.ofNat 105 :: Char.ofNat 116 :: Char.ofNat 101 :: Char.ofNat 32 :: Char.ofNat 108 :: Char.ofNat 111 :: Char.ofNat 111 :: Char.ofNat 112 :: Char.ofNat 46 :: Char.ofNat 101 :: Char.ofNat 120 :: Char.ofNat 97 :: Char.ofNat 109 :: Char.ofNat 112 :: Char.ofNat 108 :: Char.ofNat 101 :: Char.ofNat 47 :: Char.ofNat 103 :: Char.ofNat 48 :: Char.ofNat 48 :: Char.ofNat 55 :: Char.ofNat 53 :: Char.ofNat 56 :: Char.ofNat 47 :: Char.ofNat 108 :: Char.ofNat 97 :: Char.ofNat 119 :: Char.ofNat 115 :: Char.ofNat 46 :: Char.ofNat 70 :: Char.ofNat 110 :: Char.ofNat 85 :: Char.ofNat 115 :: Char.ofNat 101 :: Char.ofNat 102 :: Char.ofNat 117 :: Char.ofNat 108 :: Char.ofNat 32 :: Char.ofNat 108 :: Char.ofNat 111 :: Char.ofNat 111 :: Char.ofNat 112 :: Char.ofNat 46 :: Char.ofNat 101 :: Char.ofNat 120 :: Char.ofNat 97 :: Char.ofNat 109 :: Char.ofNat 112 :: Char.ofNat 108 :: Char.ofNat 101 :: Char.ofNat 47 :: Char.ofNat 103 :: Char.ofNat 48 :: Char.ofNat 48 :: Char.ofNat 55 :: Char.ofNat 53 :: Char.ofNat 56 :: Char.ofNat 47 :: Char.ofNat 108 :: Char.ofNat 97 :: Char.ofNat 119 :: Char.ofNat 115 :: Char.ofNat 46 :: Char.ofNat 70 :: Char.ofNat 110 :: Char.ofNat 85 :: Char.ofNat 110 :: Char.ofNat 108 :: Char.ofNat 105 :: Char.ofNat 107 :: Char.ofNat 101 :: Char.ofNat 32 :: Char.ofNat 108 :: Char.ofNat 111 :: Char.ofNat 111 :: Char.ofNat 112 :: Char.ofNat 46 :: Char.ofNat 101 :: Char.ofNat 120 :: Char.ofNat 97 :: Char.ofNat 109 :: Char.ofNat 112 :: Char.ofNat 108 :: Char.ofNat 101 :: Char.ofNat 47 :: Char.ofNat 103 :: Char.ofNat 48 :: Char.ofNat 48 :: Char.ofNat 55 :: Char.ofNat 53 :: Char.ofNat 56 :: Char.ofNat 47 :: Char.ofNat 108 :: Char.ofNat 97 :: Char.ofNat 119 :: Char.ofNat 115 :: Char.ofNat 46 :: Char.ofNat 70 :: Char.ofNat 110 :: Char.ofNat 67 :: Char.ofNat 101 :: Char.ofNat 108 :: Char.ofNat 108 :: Char.ofNat 115 :: Char.ofNat 32 :: Char.ofNat 108 :: Char.ofNat 111 :: Char.ofNat 111 :: Char.ofNat 112 :: Char.ofNat 46 :: Char.ofNat 101 :: Char.ofNat 120 :: Char.ofNat 97 :: Char.ofNat 109 :: Char.ofNat 112 :: Char.ofNat 108 :: Char.ofNat 101 :: Char.ofNat 47 :: Char.ofNat 103 :: Char.ofNat 48 :: Char.ofNat 48 :: Char.ofNat 55 :: Char.ofNat 53 :: Char.ofNat 56 :: Char.ofNat 47 :: Char.ofNat 108 :: Char.ofNat 97 :: Char.ofNat 119 :: Char.ofNat 115 :: Char.ofNat 46 :: Char.ofNat 70 :: Char.ofNat 110 :: Char.ofNat 77 :: Char.ofNat 101 :: Char.ofNat 110 :: Char.ofNat 100 :: Char.ofNat 32 :: Char.ofNat 108 :: Char.ofNat 111 :: Char.ofNat 111 :: Char.ofNat 112 :: Char.ofNat 46 :: Char.ofNat 101 :: Char.ofNat 120 :: Char.ofNat 97 :: Char.ofNat 109 :: Char.ofNat 112 :: Char.ofNat 108 :: Char.ofNat 101 :: Char.ofNat 47 :: Char.ofNat 103 :: Char.ofNat 48 :: Char.ofNat 48 :: Char.ofNat 55 :: Char.ofNat 53 :: Char.ofNat 56 :: Char.ofNat 47 :: Char.ofNat 108 :: Char.ofNat 97 :: Char.ofNat 119 :: Char.ofNat 115 :: Char.ofNat 46 :: Char.ofNat 70 :: Char.ofNat 110 :: Char.ofNat 80 :: Char.ofNat 117 :: Char.ofNat 109 :: Char.ofNat 112 :: Char.ofNat 32 :: Char.ofNat 108 :: Char.ofNat 111 :: Char.ofNat 111 :: Char.ofNat 112 :: Char.ofNat 46 :: Char.ofNat 101 :: Char.ofNat 120 :: Char.ofNat 97 :: Char.ofNat 109 :: Char.ofNat 112 :: Char.ofNat 108 :: Char.ofNat 101 :: Char.ofNat 47 :: Char.ofNat 103 :: Char.ofNat 48 :: Char.ofNat 48 :: Char.ofNat 55 :: Char.ofNat 53 :: Char.ofNat 56 :: Char.ofNat 47 :: Char.ofNat 108 :: Char.ofNat 97 :: Char.ofNat 119 :: Char.ofNat 115 :: Char.ofNat 46 :: Char.ofNat 70 :: Char.ofNat 110 :: Char.ofNat 76 :: Char.ofNat 111 :: Char.ofNat 110 :: Char.ofNat 103 :: Char.ofNat 69 :: Char.ofNat 110 :: Char.ofNat 111 :: Char.ofNat 117 :: Char.ofNat 103 :: Char.ofNat 104 :: Char.ofNat 32 :: Char.ofNat 108 :: Char.ofNat 111 :: Char.ofNat 111 :: Char.ofNat 112 :: Char.ofNat 46 :: Char.ofNat 101 :: Char.ofNat 120 :: Char.ofNat 97 :: Char.ofNat 109 :: Char.ofNat 112 :: Char.ofNat 108 :: Char.ofNat 101 :: Char.ofNat 47 :: Char.ofNat 103 :: Char.ofNat 48 :: Char.ofNat 48 :: Char.ofNat 55 :: Char.ofNat 53 :: Char.ofNat 56 :: Char.ofNat 47 :: Char.ofNat 108 :: Char.ofNat 97 :: Char.ofNat 119 :: Char.ofNat 115 :: Char.ofNat 46 :: Char.ofNat 70 :: Char.ofNat 110 :: Char.ofNat 84 :: Char.ofNat 117 :: Char.ofNat 114 :: Char.ofNat 110 :: Char.ofNat 101 :: Char.ofNat 100 :: []) := io0.trans io1
theorem io2 : Try.prog.initOrder.toList = signs := by rw [io, String.toList_ofList]; rfl
def behind : List (List Char) := [[Char.ofNat 99, Char.ofNat 117, Char.ofNat 116], [Char.ofNat 97, Char.ofNat 116], [Char.ofNat 108, Char.ofNat 111, Char.ofNat 111, Char.ofNat 112, Char.ofNat 46, Char.ofNat 101, Char.ofNat 120, Char.ofNat 97, Char.ofNat 109, Char.ofNat 112, Char.ofNat 108, Char.ofNat 101, Char.ofNat 47, Char.ofNat 103, Char.ofNat 48, Char.ofNat 48, Char.ofNat 55, Char.ofNat 53, Char.ofNat 56, Char.ofNat 47, Char.ofNat 108, Char.ofNat 97, Char.ofNat 119, Char.ofNat 115, Char.ofNat 46, Char.ofNat 70, Char.ofNat 110, Char.ofNat 68, Char.ofNat 101, Char.ofNat 114, Char.ofNat 105, Char.ofNat 118, Char.ofNat 101, Char.ofNat 115], [Char.ofNat 108, Char.ofNat 111, Char.ofNat 111, Char.ofNat 112, Char.ofNat 46, Char.ofNat 101, Char.ofNat 120, Char.ofNat 97, Char.ofNat 109, Char.ofNat 112, Char.ofNat 108, Char.ofNat 101, Char.ofNat 47, Char.ofNat 103, Char.ofNat 48, Char.ofNat 48, Char.ofNat 55, Char.ofNat 53, Char.ofNat 56, Char.ofNat 47, Char.ofNat 108, Char.ofNat 97, Char.ofNat 119, Char.ofNat 115, Char.ofNat 46, Char.ofNat 70, Char.ofNat 110, Char.ofNat 70, Char.ofNat 105, Char.ofNat 114, Char.ofNat 115, Char.ofNat 116, Char.ofNat 115], [Char.ofNat 108, Char.ofNat 111, Char.ofNat 111, Char.ofNat 112, Char.ofNat 46, Char.ofNat 101, Char.ofNat 120, Char.ofNat 97, Char.ofNat 109, Char.ofNat 112, Char.ofNat 108, Char.ofNat 101, Char.ofNat 47, Char.ofNat 103, Char.ofNat 48, Char.ofNat 48, Char.ofNat 55, Char.ofNat 53, Char.ofNat 56, Char.ofNat 47, Char.ofNat 108, Char.ofNat 97, Char.ofNat 119, Char.ofNat 115, Char.ofNat 46, Char.ofNat 70, Char.ofNat 110, Char.ofNat 66, Char.ofNat 101, Char.ofNat 115, Char.ofNat 105, Char.ofNat 100, Char.ofNat 101], [Char.ofNat 108, Char.ofNat 111, Char.ofNat 111, Char.ofNat 112, Char.ofNat 46, Char.ofNat 101, Char.ofNat 120, Char.ofNat 97, Char.ofNat 109, Char.ofNat 112, Char.ofNat 108, Char.ofNat 101, Char.ofNat 47, Char.ofNat 103, Char.ofNat 48, Char.ofNat 48, Char.ofNat 55, Char.ofNat 53, Char.ofNat 56, Char.ofNat 47, Char.ofNat 108, Char.ofNat 97, Char.ofNat 119, Char.ofNat 115, Char.ofNat 46, Char.ofNat 70, Char.ofNat 110, Char.ofNat 82, Char.ofNat 101, Char.ofNat 119, Char.ofNat 114, Char.ofNat 105, Char.ofNat 116, Char.ofNat 101, Char.ofNat 115], [Char.ofNat 108, Char.ofNat 111, Char.ofNat 111, Char.ofNat 112, Char.ofNat 46, Char.ofNat 101, Char.ofNat 120, Char.ofNat 97, Char.ofNat 109, Char.ofNat 112, Char.ofNat 108, Char.ofNat 101, Char.ofNat 47, Char.ofNat 103, Char.ofNat 48, Char.ofNat 48, Char.ofNat 55, Char.ofNat 53, Char.ofNat 56, Char.ofNat 47, Char.ofNat 108, Char.ofNat 97, Char.ofNat 119, Char.ofNat 115, Char.ofNat 46, Char.ofNat 70, Char.ofNat 110, Char.ofNat 70, Char.ofNat 105, Char.ofNat 110, Char.ofNat 105, Char.ofNat 116, Char.ofNat 101], [Char.ofNat 108, Char.ofNat 111, Char.ofNat 111, Char.ofNat 112, Char.ofNat 46, Char.ofNat 101, Char.ofNat 120, Char.ofNat 97, Char.ofNat 109, Char.ofNat 112, Char.ofNat 108, Char.ofNat 101, Char.ofNat 47, Char.ofNat 103, Char.ofNat 48, Char.ofNat 48, Char.ofNat 55, Char.ofNat 53, Char.ofNat 56, Char.ofNat 47, Char.ofNat 108, Char.ofNat 97, Char.ofNat 119, Char.ofNat 115, Char.ofNat 46, Char.ofNat 70, Char.ofNat 110, Char.ofNat 85, Char.ofNat 115, Char.ofNat 101, Char.ofNat 102, Char.ofNat 117, Char.ofNat 108], [Char.ofNat 108, Char.ofNat 111, Char.ofNat 111, Char.ofNat 112, Char.ofNat 46, Char.ofNat 101, Char.ofNat 120, Char.ofNat 97, Char.ofNat 109, Char.ofNat 112, Char.ofNat 108, Char.ofNat 101, Char.ofNat 47, Char.ofNat 103, Char.ofNat 48, Char.ofNat 48, Char.ofNat 55, Char.ofNat 53, Char.ofNat 56, Char.ofNat 47, Char.ofNat 108, Char.ofNat 97, Char.ofNat 119, Char.ofNat 115, Char.ofNat 46, Char.ofNat 70, Char.ofNat 110, Char.ofNat 85, Char.ofNat 110, Char.ofNat 108, Char.ofNat 105, Char.ofNat 107, Char.ofNat 101], [Char.ofNat 108, Char.ofNat 111, Char.ofNat 111, Char.ofNat 112, Char.ofNat 46, Char.ofNat 101, Char.ofNat 120, Char.ofNat 97, Char.ofNat 109, Char.ofNat 112, Char.ofNat 108, Char.ofNat 101, Char.ofNat 47, Char.ofNat 103, Char.ofNat 48, Char.ofNat 48, Char.ofNat 55, Char.ofNat 53, Char.ofNat 56, Char.ofNat 47, Char.ofNat 108, Char.ofNat 97, Char.ofNat 119, Char.ofNat 115, Char.ofNat 46, Char.ofNat 70, Char.ofNat 110, Char.ofNat 67, Char.ofNat 101, Char.ofNat 108, Char.ofNat 108, Char.ofNat 115], [Char.ofNat 108, Char.ofNat 111, Char.ofNat 111, Char.ofNat 112, Char.ofNat 46, Char.ofNat 101, Char.ofNat 120, Char.ofNat 97, Char.ofNat 109, Char.ofNat 112, Char.ofNat 108, Char.ofNat 101, Char.ofNat 47, Char.ofNat 103, Char.ofNat 48, Char.ofNat 48, Char.ofNat 55, Char.ofNat 53, Char.ofNat 56, Char.ofNat 47, Char.ofNat 108, Char.ofNat 97, Char.ofNat 119, Char.ofNat 115, Char.ofNat 46, Char.ofNat 70, Char.ofNat 110, Char.ofNat 77, Char.ofNat 101, Char.ofNat 110, Char.ofNat 100], [Char.ofNat 108, Char.ofNat 111, Char.ofNat 111, Char.ofNat 112, Char.ofNat 46, Char.ofNat 101, Char.ofNat 120, Char.ofNat 97, Char.ofNat 109, Char.ofNat 112, Char.ofNat 108, Char.ofNat 101, Char.ofNat 47, Char.ofNat 103, Char.ofNat 48, Char.ofNat 48, Char.ofNat 55, Char.ofNat 53, Char.ofNat 56, Char.ofNat 47, Char.ofNat 108, Char.ofNat 97, Char.ofNat 119, Char.ofNat 115, Char.ofNat 46, Char.ofNat 70, Char.ofNat 110, Char.ofNat 80, Char.ofNat 117, Char.ofNat 109, Char.ofNat 112], [Char.ofNat 108, Char.ofNat 111, Char.ofNat 111, Char.ofNat 112, Char.ofNat 46, Char.ofNat 101, Char.ofNat 120, Char.ofNat 97, Char.ofNat 109, Char.ofNat 112, Char.ofNat 108, Char.ofNat 101, Char.ofNat 47, Char.ofNat 103, Char.ofNat 48, Char.ofNat 48, Char.ofNat 55, Char.ofNat 53, Char.ofNat 56, Char.ofNat 47, Char.ofNat 108, Char.ofNat 97, Char.ofNat 119, Char.ofNat 115, Char.ofNat 46, Char.ofNat 70, Char.ofNat 110, Char.ofNat 76, Char.ofNat 111, Char.ofNat 110, Char.ofNat 103, Char.ofNat 69, Char.ofNat 110, Char.ofNat 111, Char.ofNat 117, Char.ofNat 103, Char.ofNat 104], [Char.ofNat 108, Char.ofNat 111, Char.ofNat 111, Char.ofNat 112, Char.ofNat 46, Char.ofNat 101, Char.ofNat 120, Char.ofNat 97, Char.ofNat 109, Char.ofNat 112, Char.ofNat 108, Char.ofNat 101, Char.ofNat 47, Char.ofNat 103, Char.ofNat 48, Char.ofNat 48, Char.ofNat 55, Char.ofNat 53, Char.ofNat 56, Char.ofNat 47, Char.ofNat 108, Char.ofNat 97, Char.ofNat 119, Char.ofNat 115, Char.ofNat 46, Char.ofNat 70, Char.ofNat 110, Char.ofNat 84, Char.ofNat 117, Char.ofNat 114, Char.ofNat 110, Char.ofNat 101, Char.ofNat 100]]
theorem io4 : behindMainWord (wordsSigns signs) = behind := by kernel_rfl
theorem io3 : behindMainWord (wordsSigns Try.prog.initOrder.toList) = behind := by rw [io2, io4]
theorem may : Try.prog.mayEnter = true := may_of (l := []) io3 (by rfl) (by kernel_rfl) (by kernel_rfl) (by kernel_rfl) (by kernel_rfl) rfl (by kernel_rfl)
theorem fin : Try.prog.liftsFinal = false := lifts_of io3 (by kernel_rfl) (by kernel_rfl)
theorem mk : Try.prog.make = some .cut := make_of io3 (by rfl) (by kernel_rfl) (by kernel_rfl)
theorem own : ownKnob Try.prog.godebug = none := by kernel_rfl
theorem laidOut : laidOutB Try.prog = true := by kernel_rfl
theorem rowed : mapsRowed Try.prog = true := by kernel_rfl
def lightFacts (P : Program) (f : FuncId) (fn : Func) (s : ChangeSpec) (c : OpenClaim) : Bool :=
  c.wf (OpenSpec.ofChange s) && fn.params.all (P.readableRec ·) && namedTie P c.named s.vars && (c.stops == []) && (P.stops == []) && (c.knobs == []) && (P.stopKnobs == []) && (c.inPlace == P.inPlace f) && (c.unfollowed == P.unfollowed f) && (c.recurses == P.recurses f) && (c.named == P.varsNamed f) && (c.maps == (fn.params.toList ++ s.plain.varTypes P).any (P.mapsRec ·)) && (c.ifaces == (fn.params.toList ++ s.plain.varTypes P).any (P.ifacesRec ·)) && (c.mapsOut == P.mapsAmong fn.resultTypes.toList) && (c.loops == (fn.params.toList ++ s.plain.varTypes P).any (P.loopsFrom ·)) && (c.wideKeys == (fn.params.toList ++ s.plain.varTypes P ++ fn.resultTypes.toList).any (P.wideKeysFrom ·)) && s.vars.all (P.varReadable ·) && fn.resultTypes.all (fun t => P.readableRec t && decide (t < P.types.size)) && (c.ifacesOut == fn.resultTypes.toList.any (P.ifacesRec ·)) && (c.loopsOut == fn.resultTypes.toList.any (P.loopsFrom ·)) && (c.plainKeys == P.plainKeys) && c.shortTexts.isNone && P.stopsHeard && (c.kinds == (if c.domain.isEmpty then [] else fn.params.toList.map fun t => match P.underlying t with | some (.int k) => some k | _ => none)) && (c.pinned == c.pinnedBy) && (c.veiled == (fn.params.toList ++ s.plain.varTypes P ++ fn.resultTypes.toList).any (P.veiledRec ·)) && c.veiledFits P fn.params.toList (fn.params.toList ++ s.plain.varTypes P ++ fn.resultTypes.toList)
theorem facts_of {f : FuncId} {fn : Func} {s : ChangeSpec} {c : OpenClaim} (hl : c.lifted = false) (hm : c.make = .cut) (h : lightFacts Try.prog f fn s c = true) : joinedFacts Try.prog f fn s c = true := by
  unfold lightFacts at h
  unfold joinedFacts
  simp only [Bool.and_eq_true] at h ⊢
  obtain ⟨⟨⟨⟨⟨⟨⟨⟨⟨⟨⟨⟨⟨⟨⟨⟨⟨⟨⟨⟨⟨⟨⟨⟨⟨⟨k0, k3⟩, k4⟩, k5⟩, k6⟩, k7⟩, k8⟩, k9⟩, k10⟩, k11⟩, k12⟩, k13⟩, k14⟩, k15⟩, k16⟩, k17⟩, k18⟩, k19⟩, k20⟩, k21⟩, k22⟩, k23⟩, k24⟩, k28⟩, k29⟩, k30⟩, k31⟩ := h
  exact ⟨⟨⟨⟨⟨⟨⟨⟨⟨⟨⟨⟨⟨⟨⟨⟨⟨⟨⟨⟨⟨⟨⟨⟨⟨⟨⟨⟨⟨⟨⟨k0, laidOut⟩, rowed⟩, k3⟩, k4⟩, k5⟩, k6⟩, k7⟩, k8⟩, k9⟩, k10⟩, k11⟩, k12⟩, k13⟩, k14⟩, k15⟩, k16⟩, k17⟩, k18⟩, k19⟩, k20⟩, k21⟩, k22⟩, k23⟩, k24⟩, may⟩, (by rw [hl, fin]; rfl)⟩, (by rw [hm, mk]; rfl)⟩, k28⟩, k29⟩, k30⟩, k31⟩
end Go.Proofs.Ytegcjkhebecgbaa
