/- Texts of this repository put together: ShU1, ShU2, ShH6, Bm, ShJ0, ShU4, ShU5, ShU6, ShY1, ShX1, ShX2, ShY2, ShZ1, ShD1, ShR, ShZ2, Ca, ShZ3, ShZ4, ShZ5, ShZ6, ShZ7, ShG7. -/
import Derived.Test.YtegcjkhebecgbaaKPumpc
import Derived.Test.YtegcjkhebecgbaaKPumpb
import Derived.Test.YtegcjkhebecgbaaProg
import Derived.Test.YtegcjkhebecgbaaKPumpa
import Derived.WalkKit
import Derived.ProofKit
import Derived.OpenShut
import Derived.ShutString
import Derived.ChangeOld
import Derived.Below
import Derived.SizedLaws
import Derived.Deep.Slices

set_option linter.unusedVariables false
set_option linter.unusedSimpArgs false
set_option maxRecDepth 100000
namespace Go.Sh
open Go
def extW (toks : Nat) (w : List Int) : List (List Int) := (List.range toks).map fun (t : Nat) => w ++ [(t : Int)]
def zpe_ (toks : Nat) : Nat → List (List Int)
  | 0 => [[]]
  | n + 1 => (zpe_ toks n).flatMap (extW toks)
noncomputable def shortW (gm : Gram) (n : Nat) : List (List Int) := (List.range n).flatMap fun m => (zpe_ gm.toks.toNat m).filter (inL gm.rules)
noncomputable def shortV (gm : Gram) (most : Int) : List (List Int) × Bool := if (zy_ gm && inB most 0 4) = true then (shortW gm (most.toNat + 1), true) else ([], false)
theorem zap_ {α β : Type} {f : α → List β} {k : Nat} : ∀ {l : List α}, (∀ a ∈ l, (f a).length = k) → (l.flatMap f).length = l.length * k := by
  intro l
  induction l with
  | nil => intro _; simp
  | cons a l ih =>
    intro h
    rw [List.flatMap_cons, List.length_append, h a (List.mem_cons_self ..), ih fun b hb => h b (List.mem_cons_of_mem _ hb), List.length_cons, Nat.succ_mul]
    omega
theorem zwv_ (toks n : Nat) : (zpe_ toks n).length = toks ^ n := by
  induction n with
  | zero => rfl
  | succ n ih =>
    rw [zpe_, zap_ (k := toks) (fun w _ => by simp [extW]), ih, Nat.pow_succ]
theorem zbv_ {toks n : Nat} (ht : toks ≤ 4) (hn : n ≤ 5) : (zpe_ toks n).length ≤ 1024 := by
  rw [zwv_]
  have h1 : toks ^ n ≤ 4 ^ n := Nat.pow_le_pow_left ht n
  have h2 : 4 ^ n ≤ 4 ^ 5 := Nat.pow_le_pow_right (by decide) hn
  have : (4 : Nat) ^ 5 = 1024 := rfl
  omega
theorem zct_ {toks : Nat} : ∀ {n : Nat} {w : List Int}, w ∈ zpe_ toks n → w.length = n ∧ ∀ t ∈ w, 0 ≤ t ∧ t < toks := by
  intro n
  induction n with
  | zero =>
    intro w h
    simp only [zpe_, List.mem_singleton] at h
    subst h
    exact ⟨rfl, fun t h => by simp at h⟩
  | succ n ih =>
    intro w h
    simp only [zpe_, List.mem_flatMap, extW, List.mem_map, List.mem_range] at h
    obtain ⟨v, hv, t, ht, rfl⟩ := h
    obtain ⟨h1, h2⟩ := ih hv
    refine ⟨by simp [h1], fun x hx => ?_⟩
    rcases List.mem_append.1 hx with hx | hx
    · exact h2 x hx
    · have : x = t := by simpa using hx
      subst this
      omega
theorem zrf_ {ls : List (List Int)} {i : Nat} (h : i < ls.length) : rgt ls i ∈ ls := by
  rw [zgi_ h]
  exact List.getElem_mem h
theorem zbp_ (p : List Int → Bool) (ls : List (List Int)) (l : List Int) : (ls ++ [l]).filter p = ls.filter p ++ (if p l = true then [l] else []) := by
  rw [List.filter_append]
  congr 1
  cases h : p l <;> simp [h]
theorem zcv_ (p : List Int → Bool) (ls : List (List Int)) : (ls.filter p).length ≤ ls.length := List.length_filter_le _ _
theorem zcp_ (gm : Gram) (n : Nat) : shortW gm (n + 1) = shortW gm n ++ (zpe_ gm.toks.toNat n).filter (inL gm.rules) := by
  unfold shortW
  rw [List.range_succ, List.flatMap_append]
  simp
theorem zdt_ {gm : Gram} (ht : gm.toks ≤ 4) : ∀ {n : Nat}, n ≤ 6 → (shortW gm n).length ≤ 1024 * n := by
  intro n
  induction n with
  | zero => intro _; simp [shortW]
  | succ n ih =>
    intro hn
    rw [zcp_, List.length_append]
    have h1 := ih (by omega)
    have h2 := zcv_ (inL gm.rules) (zpe_ gm.toks.toNat n)
    have h3 := zbv_ (toks := gm.toks.toNat) (n := n) (by omega) (by omega)
    omega
theorem shortW_mem {gm : Gram} {n : Nat} {x : List Int} (h : x ∈ shortW gm n) : x.length < n ∧ ∀ t ∈ x, 0 ≤ t ∧ t < gm.toks.toNat := by
  unfold shortW at h
  rw [List.mem_flatMap] at h
  obtain ⟨m, hm, hx⟩ := h
  rw [List.mem_range] at hm
  have := zct_ (List.mem_filter.1 hx).1
  exact ⟨by omega, this.2⟩
theorem zjj_ (toks : Nat) (w : List Int) : extW (toks + 1) w = extW toks w ++ [w ++ [(toks : Int)]] := by
  unfold extW
  rw [List.range_succ, List.map_append]
  rfl
theorem zjh_ {α β : Type} (f : α → List β) (ls : List α) (l : α) : (ls ++ [l]).flatMap f = ls.flatMap f ++ f l := by
  rw [List.flatMap_append]
  simp
theorem zet_ {ls : List (List Int)} {k : Nat} (i : Nat) : ((ls.take i).flatMap (extW k)).length ≤ ls.length * k := by
  rw [zap_ (k := k) (fun w _ => by simp [extW]), List.length_take]
  exact Nat.mul_le_mul_right _ (Nat.min_le_right _ _)
end Go.Sh
namespace Go.Proofs.Ytegcjkhebecgbaa
open Go Go.Sh Go.RowKit

theorem zyp_ {F : Nat → Prop} {w : World} {v : Value} {gm : Gram} {most : Int} (hv : GramV F w v gm) {k : Value → World → Prop}
    (hk : ∀ w' U d ps, Gr w w' → OwnSS 27 3 w' w.heap.size U d (shortV gm most).1 ps → k (.tuple #[.slice U (shortV gm most).1.length d, .bool (shortV gm most).2]) w') :
    CallK Try.prog 24 [v, .int .i64 most] k w := by
  obtain ⟨Y, cy, rfl, hc, hy⟩ := hv
  refine enter24 ?_
  unfold S24
  have H := Apt.nil w
  refine boxH H fun b1 w1 H => ?_
  rw [zv_ zdb_ sz26 rfl (H.box 0 rfl)]
  refine zji_ (gm := gm) ⟨Y, cy, rfl, hc, hy.gr H.gr⟩ fun w2 g2 => ?_
  have H := H.step g2
  unfold shortV at hk
  cases hg : zy_ gm
  · simp only [Bool.not_false, go_sem, Nat.reduceEqDiff]
    rw [hg, Bool.false_and, if_neg Bool.false_ne_true] at hk
    exact hk _ none 0 (fun _ => (none, 0)) H.gr (OwnSS.nil _ _ _ _ _)
  simp only [Bool.not_true, go_sem, Nat.reduceEqDiff]
  refine zaf_ ?_
  rw [hg, Bool.true_and] at hk
  cases hm : inB most 0 4
  · simp only [Bool.not_false, go_sem, Nat.reduceEqDiff]
    rw [hm, if_neg Bool.false_ne_true] at hk
    exact hk _ none 0 (fun _ => (none, 0)) H.gr (OwnSS.nil _ _ _ _ _)
  rw [hm, if_pos rfl] at hk
  obtain ⟨most, rfl⟩ : ∃ m' : Nat, most = m' := by
    simp only [inB, Bool.and_eq_true, decide_eq_true_eq] at hm
    exact ⟨most.toNat, by omega⟩
  have hm4 : most ≤ 4 := by
    simp only [inB, Bool.and_eq_true, decide_eq_true_eq] at hm
    omega
  rw [Int.toNat_natCast] at hk
  dsimp only at hk
  have htk := zie_ hg
  obtain ⟨toks, htoks⟩ : ∃ t : Nat, gm.toks = t := ⟨gm.toks.toNat, by omega⟩
  have htn : gm.toks.toNat = toks := by omega
  simp only [Bool.not_true, go_sem, Nat.reduceEqDiff]
  refine zjd_ H u35 zgf_ [.slice none 0 0] (by decide) (by decide) (by simp [Instr.fill, madeCells, Value.cells, rng1]) rfl fun b2 w3 H => ?_
  have H := (H.addNil 3 1).single (i := 1) (j := 2) (by decide) (e2 := 3) (ys := []) rfl rfl
  have H := ((H.addNil 27 1).emptySS 3 (e2 := 3) (fun _ => (none, 0)) rfl).erase 2
  simp only [List.nil_append, List.cons_append, List.set_cons_zero, List.set_cons_succ, List.eraseIdx_cons_zero, List.eraseIdx_cons_succ] at H
  refine zhb_ (most + 1) 0 (fun n f w' => n ≤ most + 1 ∧ f 8 = .int .i64 n ∧ ∃ (U V : Option Addr) (d e : Nat) (ps qs : Nat → Option Addr × Nat), f 7 = .slice U (zpe_ toks n).length d ∧ f 6 = .slice V (shortW gm n).length e ∧
      Apt w w' [bx b1 [.int .i64 gm.nons, .int .i64 gm.toks, .slice Y gm.rules.length cy] 26, lss U d (zpe_ toks n) ps, lss V e (shortW gm n) qs])
    ⟨Nat.zero_le _, rfl, _, none, _, 0, _, _, rfl, rfl, H⟩ ?_
  rintro n f w4 N hag ⟨hn, h8, U, V, d, e, ps, qs, h7, h6, H⟩ hN
  have f1 : f 1 = .int .i64 most := hag 1 (by decide)
  have f2 : f 2 = ptrv b1 := hag 2 (by decide)
  simp only [f1, h8, h7, h6, go_sem, Nat.reduceEqDiff]
  by_cases hle : n ≤ most
  case neg =>
    simp only [show ¬ ((n : Int) ≤ most) from by omega, decide_false, go_sem, Nat.reduceEqDiff]
    obtain rfl : n = most + 1 := by omega
    exact hk _ V e qs H.gr (H.lssi 2 rfl)
  simp only [show ((n : Int) ≤ most) from by omega, decide_true, go_sem, Nat.reduceEqDiff]
  have hwl := zbv_ (toks := toks) (n := n) (by omega) (by omega)
  have hwm := fun w => @zct_ toks n w
  have hsl := zdt_ (gm := gm) htk.2 (n := n) (by omega)
  have hnext : zpe_ toks (n + 1) = (zpe_ toks n).flatMap (extW toks) := rfl
  have hshort := zcp_ gm n
  rw [htn] at hshort
  generalize zpe_ toks n = ls at *
  generalize shortW gm n = so at *
  have H := (H.addNil 27 1).emptySS 3 (e2 := 3) (fun _ => (none, 0)) rfl
  simp only [List.nil_append, List.cons_append, List.set_cons_zero, List.set_cons_succ] at H
  refine zhb_ ls.length 0 (fun i f w' => i ≤ ls.length ∧ f 29 = .int .i64 i ∧ ∃ (V X : Option Addr) (e c : Nat) (qs rs : Nat → Option Addr × Nat), f 6 = .slice V (so ++ (ls.take i).filter (inL gm.rules)).length e ∧ f 9 = .slice X ((ls.take i).flatMap (extW toks)).length c ∧
      Apt w w' [bx b1 [.int .i64 gm.nons, .int .i64 gm.toks, .slice Y gm.rules.length cy] 26, lss U d ls ps, lss V e (so ++ (ls.take i).filter (inL gm.rules)) qs, lss X c ((ls.take i).flatMap (extW toks)) rs])
    ⟨Nat.zero_le _, rfl, V, none, e, 0, qs, _, by simp; exact h6, rfl, by simpa using H⟩ ?_
  rintro i g w5 N2 hag2 ⟨hi, h29, V, X, e, c, qs, rs, h6, h9, H⟩ hN2
  have g27 : g 27 = .slice U ls.length d := hag2 27 (by decide)
  have g28 : g 28 = .int .i64 ls.length := hag2 28 (by decide)
  have g2' : g 2 = ptrv b1 := (hag2 2 (by decide)).trans f2
  have g8 : g 8 = .int .i64 n := (hag2 8 (by decide)).trans h8
  simp only [g27, g28, g2', g8, h29, h6, h9, go_sem, Nat.reduceEqDiff]
  by_cases hlt : i < ls.length
  case neg =>
    simp only [show ¬ ((i : Int) < ls.length) from by omega, decide_false, go_sem, Nat.reduceEqDiff]
    rw [List.take_of_length_le (by omega)] at H h9 h6 ⊢
    rw [zj_ (by omega) (by omega)]
    refine hN _ _ (by omega) ⟨by omega, rfl, X, V, c, e, rs, qs, ?_, ?_, ?_⟩
    · rw [hnext]
      exact rfl
    · rw [hshort]
      exact h6
    · rw [hnext, hshort]
      exact ((H.erase 1).pick (L' := [_, _, _]) (fun i => [0, 2, 1].getD i 0) (fun i a ha => by
        match i, ha with
        | 0, ha => exact ha
        | 1, ha => exact ha
        | 2, ha => exact ha
        | i + 3, ha => simp at ha) (fun i j hi hj e => by
        simp only [List.length_cons, List.length_nil] at hi hj
        match i, j, hi, hj, e with
        | 0, 0, _, _, _ | 1, 1, _, _, _ | 2, 2, _, _, _ => rfl
        | 0, 1, _, _, e | 0, 2, _, _, e | 1, 0, _, _, e | 1, 2, _, _, e | 2, 0, _, _, e | 2, 1, _, _, e => exact absurd e (by decide)
        | i + 3, _, h, _, _ => omega
        | _, j + 3, _, h, _ => omega))
  simp only [show ((i : Int) < ls.length) from by omega, decide_true, go_sem, Nat.reduceEqDiff]
  have o := H.lssi 1 rfl
  have hm2 := hwm _ (zrf_ hlt)
  have hwi := (o.own i hlt).ints
  have hfl := zcv_ (inL gm.rules) (ls.take i)
  rw [List.length_take] at hfl
  have hflat := zet_ (ls := ls) (k := toks) i
  have hmul : ls.length * toks ≤ 1024 * 4 := Nat.mul_le_mul hwl (by omega)
  have hel : ∀ t, (extW t (rgt ls i)).length = t := fun t => by simp [extW]
  refine rdi (zce_ (fun h => o.ptr h) hlt) ?_
  refine rdi (ld27 (o.cell hlt)) ?_
  refine rdi (zv_ zdb_ sz26 rfl (H.box 0 rfl)) ?_
  refine l4In_c (gm := gm) ⟨Y, cy, rfl, hc, hy.gr H.gr⟩ hg hwi rfl (by omega) fun w6 g6 => ?_
  have H := H.step g6
  have o := H.lssi 1 rfl
  have hwi := (o.own i hlt).ints
  cases hin : inL gm.rules (rgt ls i)
  · simp only [go_sem, Nat.reduceEqDiff]
    have hso : so ++ (ls.take (i + 1)).filter (inL gm.rules) = so ++ (ls.take i).filter (inL gm.rules) := by
      rw [zad_ hlt, zbp_, hin, if_neg Bool.false_ne_true, List.append_nil]
    rw [← hso] at H
    refine zhb_ toks 0 (fun t f w' => t ≤ toks ∧ f 12 = .int .i64 t ∧ ∃ (X : Option Addr) (c : Nat) (rs : Nat → Option Addr × Nat), f 9 = .slice X ((ls.take i).flatMap (extW toks) ++ extW t (rgt ls i)).length c ∧
        Apt w w' [bx b1 [.int .i64 gm.nons, .int .i64 gm.toks, .slice Y gm.rules.length cy] 26, lss U d ls ps, lss V e (so ++ (ls.take (i + 1)).filter (inL gm.rules)) qs, lss X c ((ls.take i).flatMap (extW toks) ++ extW t (rgt ls i)) rs])
      ⟨Nat.zero_le _, rfl, X, c, rs, by simp only [extW, List.range_zero, List.map_nil, List.append_nil]; exact h9, by simpa only [extW, List.range_zero, List.map_nil, List.append_nil] using H⟩ ?_
    rintro t r w7 N3 hag3 ⟨ht, r12, X, c, rs, r9, H⟩ hN3
    have r2 : r 2 = ptrv b1 := (hag3 2 (by decide)).trans g2'
    have r11 : r 11 = .slice (ps i).1 (rgt ls i).length (ps i).2 := hag3 11 (by decide)
    have r6 : r 6 = .slice V (so ++ (ls.take (i + 1)).filter (inL gm.rules)).length e := by
      rw [hso]
      exact (hag3 6 (by decide)).trans h6
    have r29 : r 29 = .int .i64 i := (hag3 29 (by decide)).trans h29
    simp only [r2, r11, r12, r9, go_sem, Nat.reduceEqDiff]
    rw [ldB3 (H.box 0 rfl) rfl]
    simp only [go_sem, Nat.reduceEqDiff]
    by_cases hlt2 : t < toks
    case neg =>
      simp only [show ¬ ((t : Int) < gm.toks) from by omega, decide_false, r29, go_sem, Nat.reduceEqDiff]
      rw [zj_ (by omega) (by omega)]
      obtain rfl : t = toks := by omega
      refine hN2 _ _ hlt ⟨by omega, rfl, V, X, e, c, qs, rs, r6, ?_, ?_⟩
      · rw [zad_ hlt, zjh_]
        exact r9
      · rw [show (ls.take (i + 1)).flatMap (extW t) = (ls.take i).flatMap (extW t) ++ extW t (rgt ls i) from by rw [zad_ hlt, zjh_]]
        exact H
    simp only [show ((t : Int) < gm.toks) from by omega, decide_true, go_sem, Nat.reduceEqDiff]
    have o := H.lssi 1 rfl
    have hwi := (o.own i hlt).ints
    refine zbh_ hwi rfl (by omega) fun X1 d1 w8 g8 o1 => ?_
    have H := H.addRow g8 o1
    simp only [List.nil_append, List.cons_append] at H
    refine pushH H 4 rfl rfl (by omega) fun t1 X2 d2 w9 H => ?_
    simp only [List.set_cons_zero, List.set_cons_succ] at H
    refine zvj_ H 3 4 (by decide) rfl rfl rfl rfl (by rw [List.length_append, hel]; omega) fun t2 X3 c3 w10 rs3 H => ?_
    have H := H.erase 4
    simp only [List.set_cons_zero, List.set_cons_succ, List.eraseIdx_cons_zero, List.eraseIdx_cons_succ] at H
    rw [zj_ (by omega) (by omega)]
    refine hN3 _ _ hlt2 ⟨by omega, rfl, X3, c3, rs3, ?_, ?_⟩
    · rw [zjj_, ← List.append_assoc]
      rfl
    · rw [zjj_, ← List.append_assoc]
      exact H
  · simp only [go_sem, Nat.reduceEqDiff]
    have hso : so ++ (ls.take (i + 1)).filter (inL gm.rules) = so ++ (ls.take i).filter (inL gm.rules) ++ [rgt ls i] := by
      rw [zad_ hlt, zbp_, hin, if_pos rfl, List.append_assoc]
    refine zbh_ hwi rfl (by omega) fun X1 d1 w7 g7 o1 => ?_
    have H := H.addRow g7 o1
    simp only [List.nil_append, List.cons_append] at H
    refine zvj_ H 2 4 (by decide) rfl rfl rfl rfl (by rw [List.length_append]; omega) fun t V' e' w8 qs' H => ?_
    have H := H.erase 4
    simp only [List.set_cons_zero, List.set_cons_succ, List.eraseIdx_cons_zero, List.eraseIdx_cons_succ] at H
    rw [← hso] at H
    refine zhb_ toks 0 (fun t f w' => t ≤ toks ∧ f 12 = .int .i64 t ∧ ∃ (X : Option Addr) (c : Nat) (rs : Nat → Option Addr × Nat), f 9 = .slice X ((ls.take i).flatMap (extW toks) ++ extW t (rgt ls i)).length c ∧
        Apt w w' [bx b1 [.int .i64 gm.nons, .int .i64 gm.toks, .slice Y gm.rules.length cy] 26, lss U d ls ps, lss V' e' (so ++ (ls.take (i + 1)).filter (inL gm.rules)) qs', lss X c ((ls.take i).flatMap (extW toks) ++ extW t (rgt ls i)) rs])
      ⟨Nat.zero_le _, rfl, X, c, rs, by simp only [extW, List.range_zero, List.map_nil, List.append_nil]; exact h9, by simpa only [extW, List.range_zero, List.map_nil, List.append_nil] using H⟩ ?_
    rintro t r w7 N3 hag3 ⟨ht, r12, X, c, rs, r9, H⟩ hN3
    have r2 : r 2 = ptrv b1 := (hag3 2 (by decide)).trans g2'
    have r11 : r 11 = .slice (ps i).1 (rgt ls i).length (ps i).2 := hag3 11 (by decide)
    have r6 : r 6 = .slice V' (so ++ (ls.take (i + 1)).filter (inL gm.rules)).length e' := by
      rw [hso]
      exact hag3 6 (by decide)
    have r29 : r 29 = .int .i64 i := (hag3 29 (by decide)).trans h29
    simp only [r2, r11, r12, r9, go_sem, Nat.reduceEqDiff]
    rw [ldB3 (H.box 0 rfl) rfl]
    simp only [go_sem, Nat.reduceEqDiff]
    by_cases hlt2 : t < toks
    case neg =>
      simp only [show ¬ ((t : Int) < gm.toks) from by omega, decide_false, r29, go_sem, Nat.reduceEqDiff]
      rw [zj_ (by omega) (by omega)]
      obtain rfl : t = toks := by omega
      refine hN2 _ _ hlt ⟨by omega, rfl, V', X, e', c, qs', rs, r6, ?_, ?_⟩
      · rw [zad_ hlt, zjh_]
        exact r9
      · rw [show (ls.take (i + 1)).flatMap (extW t) = (ls.take i).flatMap (extW t) ++ extW t (rgt ls i) from by rw [zad_ hlt, zjh_]]
        exact H
    simp only [show ((t : Int) < gm.toks) from by omega, decide_true, go_sem, Nat.reduceEqDiff]
    have o := H.lssi 1 rfl
    have hwi := (o.own i hlt).ints
    refine zbh_ hwi rfl (by omega) fun X1 d1 w8 g8 o1 => ?_
    have H := H.addRow g8 o1
    simp only [List.nil_append, List.cons_append] at H
    refine pushH H 4 rfl rfl (by omega) fun t1 X2 d2 w9 H => ?_
    simp only [List.set_cons_zero, List.set_cons_succ] at H
    refine zvj_ H 3 4 (by decide) rfl rfl rfl rfl (by rw [List.length_append, hel]; omega) fun t2 X3 c3 w10 rs3 H => ?_
    have H := H.erase 4
    simp only [List.set_cons_zero, List.set_cons_succ, List.eraseIdx_cons_zero, List.eraseIdx_cons_succ] at H
    rw [zj_ (by omega) (by omega)]
    refine hN3 _ _ hlt2 ⟨by omega, rfl, X3, c3, rs3, ?_, ?_⟩
    · rw [zjj_, ← List.append_assoc]
      rfl
    · rw [zjj_, ← List.append_assoc]
      exact H
end Go.Proofs.Ytegcjkhebecgbaa

namespace Go.Sh
open Go
structure OwnSF (e1 e2 : Nat) (w : World) (B : Nat) (X : Option Addr) (c : Nat) (ls : List (List Int)) (ps : Nat → Option Addr × Nat) (n : Nat) : Prop where
  row : ∃ cells, Row w B e1 1 X ls.length c cells ∧ ∀ j, j < ls.length → cells[j]? = some (.slice (ps j).1 (rgt ls j).length (ps j).2)
  own : ∀ j, n ≤ j → j < ls.length → Own e2 w B (ps j).1 (ps j).2 (rgt ls j)
  two : ∀ i j, n ≤ i → n ≤ j → i < ls.length → j < ls.length → i ≠ j → blk (ps i).1 = none ∨ blk (ps i).1 ≠ blk (ps j).1
def FootF (X : Option Addr) (ps : Nat → Option Addr × Nat) (n m : Nat) (q : Nat) : Prop := blk X = some q ∨ ∃ l, n ≤ l ∧ l < m ∧ blk (ps l).1 = some q
section
variable {e1 e2 c n B : Nat} {w w' w0 : World} {X : Option Addr} {ls : List (List Int)} {ps : Nat → Option Addr × Nat} {L : List Thing}
theorem OwnSF.same (h : OwnSF e1 e2 w B X c ls ps n) (hs : ∀ q, FootF X ps n ls.length q → w'.heap[q]? = w.heap[q]?) : OwnSF e1 e2 w' B X c ls ps n := by
  obtain ⟨⟨cells, hr, hc⟩, ho, ht⟩ := h
  exact ⟨⟨cells, hr.same fun q hq => hs q (.inl hq), hc⟩, fun j hn hj => Row.same (ho j hn hj) fun q hq => hs q (.inr ⟨j, hn, hj, hq⟩), ht⟩
theorem OwnSF.up {B' : Nat} (h : OwnSF e1 e2 w B X c ls ps n) (hs : ∀ q, FootF X ps n ls.length q → B' ≤ q) : OwnSF e1 e2 w B' X c ls ps n := by
  obtain ⟨⟨cells, hr, hc⟩, ho, ht⟩ := h
  exact ⟨⟨cells, hr.up fun q hq => hs q (.inl hq), hc⟩, fun j hn hj => Row.up (ho j hn hj) fun q hq => hs q (.inr ⟨j, hn, hj, hq⟩), ht⟩
theorem OwnSF.mono {B' : Nat} (h : OwnSF e1 e2 w B X c ls ps n) (hb : B' ≤ B) : OwnSF e1 e2 w B' X c ls ps n := by
  obtain ⟨⟨cells, hr, hc⟩, ho, ht⟩ := h
  exact ⟨⟨cells, Row.mono hr hb, hc⟩, fun j hn hj => Row.mono (ho j hn hj) hb, ht⟩
theorem OwnSF.foot (h : OwnSF e1 e2 w B X c ls ps n) {q : Nat} (hq : FootF X ps n ls.length q) : B ≤ q ∧ q < w.heap.size := by
  obtain ⟨⟨cells, hr, hc⟩, ho, ht⟩ := h
  rcases hq with hq | ⟨l, hn, hl, hq⟩
  · exact hr.ge hq
  · exact Row.ge (ho l hn hl) hq
theorem OwnSF.ptr (h : OwnSF e1 e2 w B X c ls ps n) (hl : 0 < ls.length) : X = some (ad X) := by
  obtain ⟨⟨cells, hr, hc⟩, _⟩ := h
  exact hr.ptr hl
theorem OwnSF.cell (h : OwnSF e1 e2 w B X c ls ps n) {j : Nat} (hj : j < ls.length) : w.cell? ((ad X).add j) = some (.slice (ps j).1 (rgt ls j).length (ps j).2) := by
  obtain ⟨⟨cells, hr, hc⟩, _⟩ := h
  exact hr.src.cell _ _ (hc j hj)
end
end Go.Sh
namespace Go.Proofs.Ytegcjkhebecgbaa
open Go Go.Sh Go.RowKit

open Go Go.Sh

end Go.Proofs.Ytegcjkhebecgbaa

namespace Go.Sh
open Go
end Go.Sh
namespace Go.Proofs.Ytegcjkhebecgbaa
open Go Go.Sh Go.RowKit

end Go.Proofs.Ytegcjkhebecgbaa

namespace Go.Sh
open Go
end Go.Sh
namespace Go.Proofs.Ytegcjkhebecgbaa
open Go Go.Sh Go.RowKit
end Go.Proofs.Ytegcjkhebecgbaa

namespace Go.Sh
open Go
theorem drop_eq_iff {a b : List Int} {i : Nat} (hi : i < a.length) (hj : i < b.length) : a.drop i = b.drop i ↔ a.getD i 0 = b.getD i 0 ∧ a.drop (i + 1) = b.drop (i + 1) := by
  rw [List.drop_eq_getElem_cons hi, List.drop_eq_getElem_cons hj, List.cons.injEq]
  simp [List.getD_eq_getElem?_getD, hi, hj]
end Go.Sh
namespace Go.Proofs.Ytegcjkhebecgbaa
open Go Go.Sh Go.RowKit
theorem equalI_c {w : World} {X Y : Option Addr} {c d n m : Nat} {a b : List Int} (hX : Ints w X a) (hY : Ints w Y b) (hn : n = a.length) (hm : m = b.length) {k : Value → World → Prop} (hk : ∀ w', Gr w w' → k (.bool (decide (a = b))) w') :
    CallK Try.prog 180 [.slice X n c, .slice Y m d] k w := by
  subst hn hm
  refine enter180 ?_
  unfold S180
  have hle := hX.le
  simp only [go_sem, Nat.reduceEqDiff]
  by_cases hl : a.length = b.length
  case neg =>
    simp only [show ¬ ((a.length : Int) = b.length) from by omega, decide_false, Bool.not_false, go_sem, Nat.reduceEqDiff]
    have := hk _ (Gr.refl w)
    rwa [show decide (a = b) = false from decide_eq_false fun e => hl (by rw [e])] at this
  simp only [show ((a.length : Int) = b.length) from by omega, decide_true, Bool.not_true, go_sem, Nat.reduceEqDiff]
  refine zhb_ a.length 0 (fun i f w' => i ≤ a.length ∧ f 13 = .int .i64 i ∧ Gr w w' ∧ (a = b ↔ a.drop i = b.drop i)) ⟨Nat.zero_le _, rfl, Gr.refl _, by simp⟩ ?_
  rintro i f w1 N hag ⟨hi, h13, g, hE⟩ hN
  have f0 : f 0 = .slice X a.length c := hag 0 (by decide)
  have f1 : f 1 = .slice Y b.length d := hag 1 (by decide)
  have f12 : f 12 = .int .i64 b.length := hag 12 (by decide)
  simp only [f0, f1, f12, h13, go_sem, Nat.reduceEqDiff]
  by_cases hlt : i < a.length
  case neg =>
    simp only [show ¬ ((i : Int) < b.length) from by omega, decide_false, go_sem, Nat.reduceEqDiff]
    rw [List.drop_of_length_le (by omega), List.drop_of_length_le (by omega)] at hE
    have := hk _ g
    rwa [show decide (a = b) = true from decide_eq_true (hE.2 rfl)] at this
  simp only [show ((i : Int) < b.length) from by omega, decide_true, go_sem, Nat.reduceEqDiff]
  have hj : i < b.length := by omega
  have g1 := zf_ g (zcb_ _)
  refine rdi (zub_ hX.ptr hlt) (rdi (ld3 ((hX.gr g1).cell i hlt)) (rdi (zub_ hY.ptr hj) (rdi (ld3 ((hY.gr g1).cell i hj)) ?_)))
  simp only [go_sem, Nat.reduceEqDiff]
  rw [drop_eq_iff hlt hj] at hE
  by_cases e : a.getD i 0 = b.getD i 0
  · simp only [e, decide_true, Bool.not_true, go_sem, Nat.reduceEqDiff]
    rw [zj_ (by omega) (by omega)]
    exact hN _ _ hlt ⟨by omega, rfl, g1, hE.trans ⟨fun h => h.2, fun h => ⟨e, h⟩⟩⟩
  · simp only [e, decide_false, Bool.not_false, go_sem, Nat.reduceEqDiff]
    have := hk _ g1
    rwa [show decide (a = b) = false from decide_eq_false fun h => e (hE.1 h).1] at this
end Go.Proofs.Ytegcjkhebecgbaa

namespace Go.Sh
open Go
def cmpI (x y : Int) : Int := if x < y then -1 else if y < x then 1 else 0
def cmpL : List Int → List Int → Int
  | x :: xs, y :: ys => if cmpI x y ≠ 0 then cmpI x y else cmpL xs ys
  | [], [] => 0
  | [], _ :: _ => -1
  | _ :: _, [] => 1
theorem cmpI_lt {x y : Int} : cmpI x y < 0 ↔ x < y := by
  unfold cmpI
  split
  · omega
  · split <;> omega
theorem cmpI_eq {x y : Int} : cmpI x y = 0 ↔ x = y := by
  unfold cmpI
  split
  · omega
  · split <;> omega
theorem cmpL_drop {a b : List Int} {i : Nat} (hi : i < a.length) (hj : i < b.length) : cmpL (a.drop i) (b.drop i) = if cmpI (a.getD i 0) (b.getD i 0) ≠ 0 then cmpI (a.getD i 0) (b.getD i 0) else cmpL (a.drop (i + 1)) (b.drop (i + 1)) := by
  rw [List.drop_eq_getElem_cons hi, List.drop_eq_getElem_cons hj, cmpL]
  simp [List.getD_eq_getElem?_getD, hi, hj]
theorem cmpL_right {a b : List Int} {i : Nat} (hi : i < a.length) (hj : b.length ≤ i) : cmpL (a.drop i) (b.drop i) = 1 := by
  rw [List.drop_eq_getElem_cons hi, List.drop_of_length_le hj, cmpL]
theorem cmpL_left {a b : List Int} {i : Nat} (hi : a.length ≤ i) (hj : i < b.length) : cmpL (a.drop i) (b.drop i) = -1 := by
  rw [List.drop_eq_getElem_cons hj, List.drop_of_length_le hi, cmpL]
theorem cmpL_none {a b : List Int} {i : Nat} (hi : a.length ≤ i) (hj : b.length ≤ i) : cmpL (a.drop i) (b.drop i) = 0 := by
  rw [List.drop_of_length_le hi, List.drop_of_length_le hj, cmpL]
structure AtS (w : World) (X : Option Addr) (n c : Nat) (ls : List (List Int)) (ps : Nat → Option Addr × Nat) (i : Nat) : Prop where
  len : n = ls.length - i
  le : n ≤ c
  ptr : 0 < n → X = some (ad X)
  cell : ∀ j, j < n → w.cell? ((ad X).add j) = some (.slice (ps (i + j)).1 (rgt ls (i + j)).length (ps (i + j)).2)
theorem AtS.gr {w w' : World} {X : Option Addr} {n c i : Nat} {ls : List (List Int)} {ps : Nat → Option Addr × Nat} (h : AtS w X n c ls ps i) (g : Gr w w') : AtS w' X n c ls ps i := ⟨h.len, h.le, h.ptr, fun j hj => g.cell (h.cell j hj)⟩
theorem AtS.first {w : World} {X : Option Addr} {n c i : Nat} {ls : List (List Int)} {ps : Nat → Option Addr × Nat} (h : AtS w X n c ls ps i) (h0 : 0 < n) : w.cell? ((ad X).add 0) = some (.slice (ps i).1 (rgt ls i).length (ps i).2) := h.cell 0 h0
theorem AtS.next {w : World} {X : Option Addr} {n c i : Nat} {ls : List (List Int)} {ps : Nat → Option Addr × Nat} (h : AtS w X n c ls ps i) (h0 : 0 < n) : AtS w (sub X 1 c 1) (n - 1) (c - 1) ls ps (i + 1) := by
  have hl := h.len
  have hle := h.le
  have hX := h.ptr h0
  refine ⟨by omega, by omega, fun h1 => ?_, fun j hj => ?_⟩
  · unfold Sh.sub
    rw [if_neg (by omega), hX]
    rfl
  · have := h.cell (j + 1) (by omega)
    unfold Sh.sub
    rw [if_neg (by omega), hX]
    show w.cell? (((ad X).add (1 * 1)).add j) = _
    rw [zhc_, show 1 * 1 + j = j + 1 from by omega, this, show i + (j + 1) = i + 1 + j from by omega]
theorem AtS.of {w : World} {e1 e2 B c : Nat} {X : Option Addr} {ls : List (List Int)} {ps : Nat → Option Addr × Nat} (o : OwnSS e1 e2 w B X c ls ps) : AtS w X ls.length c ls ps 0 := by
  refine ⟨by omega, ?_, fun h => o.ptr h, fun j hj => ?_⟩
  · obtain ⟨⟨cells, hr, hc⟩, _⟩ := o
    exact hr.cap.1
  · rw [Nat.zero_add]
    exact o.cell hj
end Go.Sh
namespace Go.Proofs.Ytegcjkhebecgbaa
open Go Go.Sh Go.RowKit
end Go.Proofs.Ytegcjkhebecgbaa

namespace Go.Sh
open Go
def ltL (a b : List Int) : Prop := cmpL a b < 0
theorem cmpI_anti (x y : Int) : cmpI y x = - cmpI x y := by
  unfold cmpI
  by_cases h1 : x < y
  · rw [if_pos h1, if_neg (by omega), if_pos h1]
    rfl
  · by_cases h2 : y < x
    · rw [if_pos h2, if_neg h1, if_pos h2]
    · rw [if_neg h2, if_neg h1, if_neg h1, if_neg h2]
      rfl
theorem zdv_ : ∀ a b : List Int, cmpL b a = - cmpL a b := by
  intro a
  induction a with
  | nil => intro b; cases b <;> rfl
  | cons x a ih =>
    intro b
    cases b with
    | nil => rfl
    | cons y b =>
      rw [cmpL, cmpL, cmpI_anti x y]
      by_cases h : cmpI x y = 0
      · rw [if_neg (fun e => e (by omega)), if_neg (fun e => e h)]
        exact ih b
      · rw [if_pos h, if_pos (by omega)]
theorem cmpL_zero : ∀ {a b : List Int}, cmpL a b = 0 → a = b := by
  intro a
  induction a with
  | nil => intro b h; cases b with
    | nil => rfl
    | cons y b => cases h
  | cons x a ih =>
    intro b h
    cases b with
    | nil => cases h
    | cons y b =>
      rw [cmpL] at h
      by_cases e : cmpI x y = 0
      · rw [if_neg (fun h => h e)] at h
        rw [cmpI_eq.1 e, ih h]
      · rw [if_pos e] at h
        exact absurd h e
theorem ztd_ (a : List Int) : ¬ ltL a a := by
  intro h
  have := zdv_ a a
  unfold ltL at h
  omega
theorem ltL_tri (a b : List Int) : ltL a b ∨ a = b ∨ ltL b a := by
  unfold ltL
  have := zdv_ a b
  by_cases h : cmpL a b = 0
  · exact .inr (.inl (cmpL_zero h))
  · omega
theorem ltL_cons {x y : Int} {a b : List Int} : ltL (x :: a) (y :: b) ↔ x < y ∨ (x = y ∧ ltL a b) := by
  unfold ltL
  rw [cmpL]
  by_cases e : cmpI x y = 0
  · rw [if_neg (fun h => h e)]
    have := cmpI_eq.1 e
    omega
  · rw [if_pos e, cmpI_lt]
    have : ¬ x = y := fun h => e (cmpI_eq.2 h)
    omega
theorem zfh_ : ∀ {a b c : List Int}, ltL a b → ltL b c → ltL a c := by
  intro a
  induction a with
  | nil =>
    intro b c h1 h2
    cases c with
    | nil =>
      cases b with
      | nil => exact h2
      | cons y b => exact absurd h2 (by unfold ltL; show ¬ ((1 : Int) < 0); omega)
    | cons z c => show (-1 : Int) < 0; omega
  | cons x a ih =>
    intro b c h1 h2
    cases b with
    | nil => exact absurd h1 (by unfold ltL; show ¬ ((1 : Int) < 0); omega)
    | cons y b =>
      cases c with
      | nil => exact absurd h2 (by unfold ltL; show ¬ ((1 : Int) < 0); omega)
      | cons z c =>
        rw [ltL_cons] at h1 h2 ⊢
        rcases h1 with h1 | ⟨h1, h1'⟩
        · rcases h2 with h2 | ⟨h2, h2'⟩
          · exact .inl (by omega)
          · exact .inl (by omega)
        · rcases h2 with h2 | ⟨h2, h2'⟩
          · exact .inl (by omega)
          · exact .inr ⟨by omega, ih h1' h2'⟩
theorem ltL_app : ∀ {a b c : List Int}, ltL b c → ltL (a ++ b) (a ++ c) := by
  intro a
  induction a with
  | nil => intro b c h; exact h
  | cons x a ih =>
    intro b c h
    rw [List.cons_append, List.cons_append, ltL_cons]
    exact .inr ⟨rfl, ih h⟩
theorem ltL_pre : ∀ {a b c d : List Int}, ltL a b → (∀ u, b ≠ a ++ u) → ltL (a ++ c) (b ++ d) := by
  intro a
  induction a with
  | nil => intro b c d _ h; exact absurd rfl (h b)
  | cons x a ih =>
    intro b c d h1 h2
    cases b with
    | nil => exact absurd h1 (by unfold ltL; show ¬ ((1 : Int) < 0); omega)
    | cons y b =>
      rw [ltL_cons] at h1
      rw [List.cons_append, List.cons_append, ltL_cons]
      rcases h1 with h1 | ⟨h1, h3⟩
      · exact .inl h1
      · subst h1
        exact .inr ⟨rfl, ih h3 fun u e => h2 u (by rw [e]; rfl)⟩
abbrev Rise (l : List (List Int)) : Prop := l.Pairwise ltL
theorem zcj_ : ∀ {l' l : List (List Int)}, Rise l → Rise l' → (∀ x ∈ l, x ∈ l') → l.Sublist l' := by
  intro l'
  induction l' with
  | nil =>
    intro l _ _ h
    cases l with
    | nil => exact List.Sublist.slnil
    | cons a l => exact absurd (h a (List.mem_cons_self ..)) (by simp)
  | cons b s ih =>
    intro l hl hl' h
    cases l with
    | nil => exact List.nil_sublist _
    | cons a t =>
      have hl1 := List.pairwise_cons.1 hl
      have hl2 := List.pairwise_cons.1 hl'
      rcases List.mem_cons.1 (h a (List.mem_cons_self ..)) with e | e
      · subst e
        refine List.Sublist.cons_cons _ (ih hl1.2 hl2.2 fun x hx => ?_)
        rcases List.mem_cons.1 (h x (List.mem_cons_of_mem _ hx)) with e | e
        · subst e
          exact absurd (hl1.1 _ hx) (ztd_ _)
        · exact e
      · refine List.Sublist.cons _ (ih hl hl2.2 fun x hx => ?_)
        rcases List.mem_cons.1 (h x hx) with e' | e'
        · subst e'
          rcases List.mem_cons.1 hx with e2 | e2
          · subst e2
            exact e
          · exact absurd (zfh_ (hl1.1 _ e2) (hl2.1 _ e)) (ztd_ _)
        · exact e'
structure Firsts (M : Nat) (S : List Int → Prop) (l : List (List Int)) : Prop where
  rise : Rise l
  mem : ∀ x ∈ l, S x
  len : l.length ≤ M
  all : ∀ x, S x → x ∈ l ∨ (l.length = M ∧ ∀ y ∈ l, ltL y x)
theorem Firsts.sub {M : Nat} {S : List Int → Prop} {l l' : List (List Int)} (h : Firsts M S l) (h' : Firsts M S l') : ∀ x ∈ l, x ∈ l' := by
  intro x hx
  rcases h'.all x (h.mem x hx) with e | ⟨e1, e2⟩
  · exact e
  · exfalso
    have hs : l'.Sublist l := zcj_ h'.rise h.rise fun y hy => by
      rcases h.all y (h'.mem y hy) with e | ⟨_, e3⟩
      · exact e
      · exact absurd (zfh_ (e2 y hy) (e3 x hx)) (ztd_ _)
    have := hs.eq_of_length_le (by rw [e1]; exact h.len)
    subst this
    exact ztd_ _ (e2 x hx)
theorem Firsts.uniq {M : Nat} {S : List Int → Prop} {l l' : List (List Int)} (h : Firsts M S l) (h' : Firsts M S l') : l = l' :=
  (zcj_ h.rise h'.rise (h.sub h')).eq_of_length_le (zcj_ h'.rise h.rise (h'.sub h)).length_le
theorem Firsts.nil (M : Nat) {S : List Int → Prop} (h : ∀ x, ¬ S x) : Firsts M S [] := ⟨List.Pairwise.nil, fun x hx => by simp at hx, Nat.zero_le _, fun x hx => absurd hx (h x)⟩
theorem Firsts.zero (S : List Int → Prop) : Firsts 0 S [] := ⟨List.Pairwise.nil, fun x hx => by simp at hx, Nat.zero_le _, fun x hx => .inr ⟨rfl, fun y hy => by simp at hy⟩⟩
theorem Firsts.congr {M : Nat} {S S' : List Int → Prop} {l : List (List Int)} (h : Firsts M S l) (e : ∀ x, S' x ↔ S x) : Firsts M S' l := ⟨h.rise, fun x hx => (e x).2 (h.mem x hx), h.len, fun x hx => h.all x ((e x).1 hx)⟩
def Under (M : Nat) (S : List Int → Prop) (x : List Int) : Prop := ∃ ys, Rise ys ∧ ys.length = M ∧ ∀ y ∈ ys, S y ∧ ltL y x
theorem Firsts.more {M : Nat} {S S' : List Int → Prop} {l : List (List Int)} (h : Firsts M S l) (h1 : ∀ x, S x → S' x) (h2 : ∀ x, S' x → S x ∨ Under M S x) : Firsts M S' l := by
  refine ⟨h.rise, fun x hx => h1 x (h.mem x hx), h.len, fun x hx => ?_⟩
  rcases h2 x hx with e | ⟨ys, hy1, hy2, hy3⟩
  · exact h.all x e
  by_cases hxl : x ∈ l
  · exact .inl hxl
  have key : ∀ z ∈ l, ltL z x := fun z hz => by
    rcases ltL_tri z x with e | e | e
    · exact e
    · subst e
      exact absurd hz hxl
    · exfalso
      have hs : ys.Sublist l := zcj_ hy1 h.rise fun y hy => by
        rcases h.all y (hy3 y hy).1 with e1 | ⟨_, e1⟩
        · exact e1
        · exact absurd (zfh_ (e1 z hz) (zfh_ (hy3 y hy).2 e)) (ztd_ _)
      have := hs.eq_of_length_le (by rw [hy2]; exact h.len)
      subst this
      exact absurd (zfh_ (hy3 z hz).2 e) (ztd_ _)
  refine .inr ⟨?_, key⟩
  by_cases hlt : l.length = M
  · exact hlt
  · exfalso
    have hs : ys.Sublist l := zcj_ hy1 h.rise fun y hy => by
      rcases h.all y (hy3 y hy).1 with e1 | ⟨e1, _⟩
      · exact e1
      · exact absurd e1 hlt
    have := hs.length_le
    have := h.len
    omega
theorem Firsts.of_rise (M : Nat) {l : List (List Int)} (h : Rise l) : Firsts M (fun x => x ∈ l) (l.take M) := by
  refine ⟨h.sublist (List.take_sublist _ _), fun x hx => (List.take_sublist _ _).subset hx, by rw [List.length_take]; omega, fun x hx => ?_⟩
  rw [← List.take_append_drop M l] at hx
  rcases List.mem_append.1 hx with e | e
  · exact .inl e
  · refine .inr ⟨?_, fun y hy => ?_⟩
    · rw [List.length_take]
      have : 0 < (l.drop M).length := List.length_pos_of_mem e
      rw [List.length_drop] at this
      omega
    · have h' := h
      rw [← List.take_append_drop M l] at h'
      exact (List.pairwise_append.1 h').2.2 y hy x e
theorem Firsts.take {M m : Nat} {S : List Int → Prop} {l : List (List Int)} (h : Firsts M S l) (hm : m ≤ M) : Firsts m S (l.take m) := by
  refine (Firsts.of_rise m h.rise).more h.mem fun x hx => ?_
  rcases h.all x hx with e | ⟨e1, e2⟩
  · exact .inl e
  · refine .inr ⟨l.take m, h.rise.sublist (List.take_sublist _ _), by rw [List.length_take]; omega, fun y hy => ?_⟩
    have := (List.take_sublist _ _).subset hy
    exact ⟨this, e2 y this⟩
theorem Firsts.add {M : Nat} {S : List Int → Prop} {pre post : List (List Int)} {x : List Int} (h : Firsts M S (pre ++ post)) (h1 : ∀ y ∈ pre, ltL y x) (h2 : ∀ y ∈ post, ltL x y) : Firsts M (fun z => S z ∨ z = x) (if M ≤ pre.length then pre ++ post else (pre ++ x :: post).take M) := by
  have hr : Rise (pre ++ x :: post) := by
    have := List.pairwise_append.1 h.rise
    refine List.pairwise_append.2 ⟨this.1, List.pairwise_cons.2 ⟨h2, this.2.1⟩, fun a ha b hb => ?_⟩
    rcases List.mem_cons.1 hb with e | e
    · subst e
      exact h1 a ha
    · exact this.2.2 a ha b e
  have hlen := h.len
  rw [List.length_append] at hlen
  have hf := Firsts.of_rise M hr
  have he : (pre ++ x :: post).take M = if M ≤ pre.length then pre ++ post else (pre ++ x :: post).take M := by
    split
    · rw [List.take_append_of_le_length (by omega), List.take_of_length_le (by omega)]
      have : post = [] := List.eq_nil_of_length_eq_zero (by omega)
      rw [this, List.append_nil]
    · rfl
  rw [← he]
  refine hf.more (fun z hz => ?_) fun z hz => ?_
  · rcases List.mem_append.1 hz with e | e
    · exact .inl (h.mem z (List.mem_append_left _ e))
    · rcases List.mem_cons.1 e with e | e
      · exact .inr e
      · exact .inl (h.mem z (List.mem_append_right _ e))
  · have hsub : ∀ y ∈ pre ++ post, y ∈ pre ++ x :: post := fun y hy => by
      rcases List.mem_append.1 hy with e | e
      · exact List.mem_append_left _ e
      · exact List.mem_append_right _ (List.mem_cons_of_mem _ e)
    rcases hz with hz | hz
    · rcases h.all z hz with e | ⟨e1, e2⟩
      · exact .inl (hsub z e)
      · exact .inr ⟨pre ++ post, h.rise, e1, fun y hy => ⟨hsub y hy, e2 y hy⟩⟩
    · subst hz
      exact .inl (List.mem_append_right _ (List.mem_cons_self ..))
theorem Firsts.append {M : Nat} {S S' : List Int → Prop} {l l' : List (List Int)} (h : Firsts M S l) (h' : Firsts (M - l.length) S' l') (hl : ∀ x y, S x → S' y → ltL x y) : Firsts M (fun z => S z ∨ S' z) (l ++ l') := by
  have h1 := h.len
  have h2 := h'.len
  refine ⟨List.pairwise_append.2 ⟨h.rise, h'.rise, fun a ha b hb => hl a b (h.mem a ha) (h'.mem b hb)⟩, fun x hx => ?_, by rw [List.length_append]; omega, fun x hx => ?_⟩
  · rcases List.mem_append.1 hx with e | e
    · exact .inl (h.mem x e)
    · exact .inr (h'.mem x e)
  · rcases hx with hx | hx
    · rcases h.all x hx with e | ⟨e1, e2⟩
      · exact .inl (List.mem_append_left _ e)
      · have : l' = [] := List.eq_nil_of_length_eq_zero (by omega)
        subst this
        rw [List.append_nil]
        exact .inr ⟨e1, e2⟩
    · rcases h'.all x hx with e | ⟨e1, e2⟩
      · exact .inl (List.mem_append_right _ e)
      · refine .inr ⟨by rw [List.length_append]; omega, fun y hy => ?_⟩
        rcases List.mem_append.1 hy with e | e
        · exact hl y x (h.mem y e) hx
        · exact e2 y e
theorem Firsts.map {M : Nat} {S : List Int → Prop} {l : List (List Int)} (h : Firsts M S l) (q : Int) : Firsts M (fun t => ∃ r, S r ∧ t = q :: r) (l.map (q :: ·)) := by
  refine ⟨List.pairwise_map.2 (h.rise.imp fun e => ltL_cons.2 (.inr ⟨rfl, e⟩)), fun x hx => ?_, by rw [List.length_map]; exact h.len, fun x hx => ?_⟩
  · obtain ⟨r, hr, rfl⟩ := List.mem_map.1 hx
    exact ⟨r, h.mem r hr, rfl⟩
  · obtain ⟨r, hr, rfl⟩ := hx
    rcases h.all r hr with e | ⟨e1, e2⟩
    · exact .inl (List.mem_map.2 ⟨r, e, rfl⟩)
    · refine .inr ⟨by rw [List.length_map]; exact e1, fun y hy => ?_⟩
      obtain ⟨y', hy', rfl⟩ := List.mem_map.1 hy
      exact ltL_cons.2 (.inr ⟨rfl, e2 y' hy'⟩)
theorem zcu_ : ∀ {l : List (List Int)}, l.Pairwise (fun a b => ¬ ltL b a) → l.Nodup → Rise l := by
  intro l
  induction l with
  | nil => intro _ _; exact List.Pairwise.nil
  | cons a l ih =>
    intro h hn
    have h1 := List.pairwise_cons.1 h
    have h2 := List.nodup_cons.1 hn
    refine List.pairwise_cons.2 ⟨fun b hb => ?_, ih h1.2 h2.2⟩
    rcases ltL_tri a b with e | e | e
    · exact e
    · subst e
      exact absurd hb h2.1
    · exact absurd e (h1.1 b hb)
theorem Firsts.sorted {M : Nat} {S : List Int → Prop} {c d : List (List Int)} (hp : d.Perm c) (hs : d.Pairwise (fun a b => ¬ ltL b a)) (hn : c.Nodup) (h1 : ∀ x ∈ c, S x) (h2 : ∀ x, S x → x ∈ c ∨ Under M (fun y => y ∈ c) x) : Firsts M S (d.take M) := by
  have hr := zcu_ hs (hp.nodup_iff.2 hn)
  refine ((Firsts.of_rise M hr).congr (S' := fun x => x ∈ c) fun x => (hp.mem_iff).symm).more h1 h2
def zxj_ (A : List Int → Prop) : Prop := ∀ a b u v, A a → A b → a ++ u = b ++ v → a = b
def ProdS (A B : List Int → Prop) (x : List Int) : Prop := ∃ a b, A a ∧ B b ∧ x = a ++ b
def prodL (F R : List (List Int)) : List (List Int) := F.flatMap fun a => R.map (a ++ ·)
theorem mem_prodL {F R : List (List Int)} {x : List Int} : x ∈ prodL F R ↔ ∃ a b, a ∈ F ∧ b ∈ R ∧ x = a ++ b := by
  unfold prodL
  simp only [List.mem_flatMap, List.mem_map]
  constructor
  · rintro ⟨a, ha, b, hb, rfl⟩
    exact ⟨a, b, ha, hb, rfl⟩
  · rintro ⟨a, b, ha, hb, rfl⟩
    exact ⟨a, ha, b, hb, rfl⟩
theorem pre_lt {A : List Int → Prop} (hA : zxj_ A) {a b c d : List Int} (ha : A a) (hb : A b) (h : ltL a b) : ltL (a ++ c) (b ++ d) :=
  ltL_pre h fun u e => by
    have := hA a b u [] ha hb (by rw [List.append_nil]; exact e.symm)
    subst this
    exact ztd_ _ h
theorem prod_under {M : Nat} {A B : List Int → Prop} (hA : zxj_ A) {F R : List (List Int)} (hF : Firsts M A F) (hR : Firsts M B R) {x : List Int} (hx : ProdS A B x) : x ∈ prodL F R ∨ Under M (fun y => y ∈ prodL F R) x := by
  obtain ⟨a, b, ha, hb, rfl⟩ := hx
  rcases hF.all a ha with e1 | ⟨e1, e2⟩
  · rcases hR.all b hb with e3 | ⟨e3, e4⟩
    · exact .inl (mem_prodL.2 ⟨a, b, e1, e3, rfl⟩)
    · refine .inr ⟨R.map (a ++ ·), List.pairwise_map.2 (hR.rise.imp fun e => ltL_app e), by rw [List.length_map]; exact e3, fun y hy => ?_⟩
      obtain ⟨r, hr, rfl⟩ := List.mem_map.1 hy
      exact ⟨mem_prodL.2 ⟨a, r, e1, hr, rfl⟩, ltL_app (e4 r hr)⟩
  · have hne : M = 0 ∨ ∃ r, r ∈ R := by
      rcases hR.all b hb with e3 | ⟨e3, e4⟩
      · exact .inr ⟨b, e3⟩
      · cases R with
        | nil => exact .inl (by simpa using e3.symm)
        | cons r R => exact .inr ⟨r, List.mem_cons_self ..⟩
    rcases hne with h0 | ⟨r, hr⟩
    · subst h0
      exact .inr ⟨[], List.Pairwise.nil, rfl, fun y hy => by simp at hy⟩
    · refine .inr ⟨F.map (· ++ r), ?_, by rw [List.length_map]; exact e1, fun y hy => ?_⟩
      · refine List.pairwise_map.2 (List.Pairwise.imp_of_mem (fun hf hg e => pre_lt hA (hF.mem _ hf) (hF.mem _ hg) e) hF.rise)
      · obtain ⟨f, hf, rfl⟩ := List.mem_map.1 hy
        exact ⟨mem_prodL.2 ⟨f, r, hf, hr, rfl⟩, pre_lt hA (hF.mem f hf) ha (e2 f hf)⟩
def sumN (f : Nat → Nat) : Nat → Nat
  | 0 => 0
  | n + 1 => sumN f n + f n
def cntR (c : Nat → Nat → Nat → Nat → Nat) (ws : List Int) : List Int → Nat → Nat → Nat → Nat
  | [], i, j, s => if i = j ∧ s = 0 then 1 else 0
  | x :: xs, i, j, s => if x < 0 then (if i < j ∧ ws.getD i 0 = -1 - x then cntR c ws xs (i + 1) j s else 0)
      else sumN (fun m => sumN (fun k => c x.toNat i (i + m) (k + 1) * cntR c ws xs (i + m) j (s - (k + 1))) s) (j + 1 - i)
def sumR (rs : List RuleL) (p : RuleL → Nat) : Nat := rs.foldl (fun a r => a + p r) 0
def cntT (rs : List RuleL) (ws : List Int) : Nat → Nat → Nat → Nat → Nat → Nat
  | 0, _, _, _, _ => 0
  | f + 1, A, i, j, s => if s = 0 then 0 else sumR rs fun r => if r.1 = (A : Int) then cntR (cntT rs ws f) ws r.2 i j (s - 1) else 0
def cntC (rs : List RuleL) (ws : List Int) (A i j s : Nat) : Nat := cntT rs ws s A i j s
theorem zkh_ {f g : Nat → Nat} : ∀ {n : Nat}, (∀ k, k < n → f k = g k) → sumN f n = sumN g n := by
  intro n
  induction n with
  | zero => intro _; rfl
  | succ n ih =>
    intro h
    rw [sumN, sumN, ih fun k hk => h k (by omega), h n (by omega)]
theorem zft_ {c c' : Nat → Nat → Nat → Nat → Nat} {ws : List Int} : ∀ {xs : List Int} {i j s : Nat}, (∀ A i j k, k ≤ s → c A i j k = c' A i j k) → cntR c ws xs i j s = cntR c' ws xs i j s := by
  intro xs
  induction xs with
  | nil => intro i j s _; rfl
  | cons x xs ih =>
    intro i j s h
    rw [cntR, cntR]
    split
    · split
      · exact ih h
      · rfl
    · refine zkh_ fun m _ => zkh_ fun k hk => ?_
      rw [h _ _ _ _ (by omega), ih fun A i j k' hk' => h A i j k' (by omega)]
theorem zgt_ {rs : List RuleL} {p q : RuleL → Nat} (h : ∀ r, p r = q r) : sumR rs p = sumR rs q := by
  rw [show p = q from funext h]
theorem cntT_more {rs : List RuleL} {ws : List Int} : ∀ {f g A i j s : Nat}, s ≤ f → s ≤ g → cntT rs ws f A i j s = cntT rs ws g A i j s := by
  intro f
  induction f with
  | zero =>
    intro g A i j s h1 h2
    obtain rfl : s = 0 := by omega
    cases g with
    | zero => rfl
    | succ g => rw [cntT, cntT, if_pos rfl]
  | succ f ih =>
    intro g A i j s h1 h2
    cases g with
    | zero =>
      obtain rfl : s = 0 := by omega
      rw [cntT, cntT, if_pos rfl]
    | succ g =>
      rw [cntT, cntT]
      split
      · rfl
      · refine zgt_ fun r => ?_
        split
        · exact zft_ fun A i j k hk => ih (by omega) (by omega)
        · rfl
theorem zbm_ (rs : List RuleL) (ws : List Int) (A i j : Nat) : cntC rs ws A i j 0 = 0 := rfl
theorem zcm_ (rs : List RuleL) (ws : List Int) (A i j s : Nat) : cntC rs ws A i j (s + 1) = sumR rs fun r => if r.1 = (A : Int) then cntR (cntC rs ws) ws r.2 i j s else 0 := by
  unfold cntC
  rw [cntT, if_neg (by omega)]
  refine zgt_ fun r => ?_
  split
  · exact zft_ fun A i j k hk => cntT_more (by omega) (Nat.le_refl _)
  · rfl
theorem cap_add {M a b : Nat} : min M (min M a + min M b) = min M (a + b) := by omega
theorem cap_mul {M a b : Nat} : min M (min M a * min M b) = min M (a * b) := by
  by_cases h0 : a = 0
  · subst h0; simp
  by_cases h1 : b = 0
  · subst h1; simp
  by_cases ha : M ≤ a
  · have e1 : M ≤ a * b := Nat.le_trans ha (Nat.le_mul_of_pos_right _ (by omega))
    rw [Nat.min_eq_left ha, Nat.min_eq_left e1]
    by_cases hM : M = 0
    · subst hM; simp
    exact Nat.min_eq_left (Nat.le_mul_of_pos_right _ (by omega))
  · by_cases hb : M ≤ b
    · have e1 : M ≤ a * b := Nat.le_trans hb (Nat.le_mul_of_pos_left _ (by omega))
      rw [Nat.min_eq_left hb, Nat.min_eq_left e1]
      by_cases hM : M = 0
      · subst hM; simp
      exact Nat.min_eq_left (Nat.le_mul_of_pos_left _ (by omega))
    · rw [Nat.min_eq_right (by omega : a ≤ M), Nat.min_eq_right (by omega : b ≤ M)]
theorem cap_mul_add {M S a b : Nat} : min M (min M S + min M a * min M b) = min M (S + a * b) := by
  rw [← cap_add (a := min M S), cap_mul, Nat.min_eq_right (Nat.min_le_left M S), cap_add]
theorem Inc.still {α : Type} {f : TS → α → TS} : ∀ {l : List α} {s : TS}, (∀ a ∈ l, ∀ s, Inc s (f s a)) → s.2 = false → (l.foldl f s).2 = false → ∀ a ∈ l, f s a = s := by
  intro l
  induction l with
  | nil => intro s _ _ _ a ha; simp at ha
  | cons b l ih =>
    intro s h hs he a ha
    rw [List.foldl_cons] at he
    have hb : f s b = s := by
      rcases h b (List.mem_cons_self ..) s with e | ⟨e, _⟩
      · exact e
      · exfalso
        rcases Inc.fold (fun c hc => h c (List.mem_cons_of_mem _ hc)) (f s b) with e' | ⟨e', _⟩
        · rw [e', e] at he
          cases he
        · rw [e'] at he
          cases he
    rcases List.mem_cons.1 ha with rfl | ha
    · exact hb
    · rw [hb] at he
      exact ih (fun c hc => h c (List.mem_cons_of_mem _ hc)) hs he a ha
theorem pass_closed {rs : List (Int × List Int)} {w : List Int} {T : Tab} (hr : ∀ r ∈ rs, r.1.toNat < 6) (hw : w.length ≤ 10) (h : (zeg_ rs w (T, false)).2 = false) {r : Int × List Int} (hm : r ∈ rs) {i j : Nat} (hij : i ≤ j) (hj : j ≤ w.length) (hf : zbd_ T w r.2 i j = true) : T r.1.toNat i j = true := by
  have h1 := Inc.still (f := ruleT w) (fun r h s => zuu_ (hr r h) hw s) rfl h r hm
  have h2 := Inc.still (f := rowT w r) (l := List.range (w.length + 1)) (s := (T, false)) (fun i hi s => rowT_inc (hr r hm) hw (by have := List.mem_range.1 hi; omega) s) rfl (by
    show (ruleT w (T, false) r).2 = false
    rw [h1]) i (List.mem_range.2 (by omega))
  have h3 := Inc.still (f := stepT w r i) (l := List.range' i (w.length + 1 - i)) (s := (T, false)) (fun j hj s => by
    rw [List.mem_range'_1] at hj
    exact ztu_ (hr r hm) (by omega) (by omega)) rfl (by
    show (rowT w r (T, false) i).2 = false
    rw [h2]) j (List.mem_range'_1.2 ⟨hij, by omega⟩)
  unfold stepT at h3
  cases hT : T r.1.toNat i j
  · rw [if_pos (by simp [hT, hf])] at h3
    have := congrArg Prod.snd h3
    cases this
  · rfl
theorem pass_same {rs : List (Int × List Int)} {w : List Int} {T : Tab} (hr : ∀ r ∈ rs, r.1.toNat < 6) (hw : w.length ≤ 10) (h : (zeg_ rs w (T, false)).2 = false) : (zeg_ rs w (T, false)).1 = T := by
  rcases zhi_ hr hw (T, false) with e | ⟨e, _⟩
  · rw [e]
  · rw [e] at h
    cases h
theorem span_closed {rs : List (Int × List Int)} {w : List Int} (hr : ∀ r ∈ rs, r.1.toNat < 6) (hw : w.length ≤ 10) {r : Int × List Int} (hm : r ∈ rs) {i j : Nat} (hij : i ≤ j) (hj : j ≤ w.length) (hf : zbd_ (spanT rs w) w r.2 i j = true) : spanT rs w r.1.toNat i j = true := by
  obtain ⟨U, hU⟩ := Span.ex hr hw 726 noTab (by unfold openT; exact Nat.le_trans List.countP_le_length (by simp))
  rw [← hU.eq] at hf ⊢
  have key : ∀ {T U : Tab}, Span rs w T U → zbd_ U w r.2 i j = true → U r.1.toNat i j = true := by
    intro T U h
    induction h with
    | done h1 =>
      intro hf
      rw [pass_same hr hw h1] at hf ⊢
      exact pass_closed hr hw h1 hm hij hj hf
    | more _ _ ih => exact ih
  exact key hU hf
theorem sumN_pos {f : Nat → Nat} : ∀ {n : Nat}, 0 < sumN f n → ∃ k, k < n ∧ 0 < f k := by
  intro n
  induction n with
  | zero => intro h; simp [sumN] at h
  | succ n ih =>
    intro h
    rw [sumN] at h
    by_cases h0 : 0 < f n
    · exact ⟨n, by omega, h0⟩
    · obtain ⟨k, hk, h1⟩ := ih (by omega)
      exact ⟨k, by omega, h1⟩
theorem sumR_snoc (rs : List RuleL) (r : RuleL) (p : RuleL → Nat) : sumR (rs ++ [r]) p = sumR rs p + p r := by
  unfold sumR
  rw [List.foldl_append]
  rfl
theorem sumR_pos {p : RuleL → Nat} : ∀ {rs : List RuleL} , 0 < sumR rs p → ∃ r ∈ rs, 0 < p r := by
  have key : ∀ (rs : List RuleL) (a : Nat), 0 < rs.foldl (fun a r => a + p r) a → 0 < a ∨ ∃ r ∈ rs, 0 < p r := by
    intro rs
    induction rs with
    | nil => intro a h; exact .inl h
    | cons r rs ih =>
      intro a h
      rw [List.foldl_cons] at h
      rcases ih _ h with h1 | ⟨q, hq, h1⟩
      · by_cases h0 : 0 < p r
        · exact .inr ⟨r, List.mem_cons_self .., h0⟩
        · exact .inl (by omega)
      · exact .inr ⟨q, List.mem_cons_of_mem _ hq, h1⟩
  intro rs h
  rcases key rs 0 h with h | h
  · omega
  · exact h
theorem cntR_fits {c : Nat → Nat → Nat → Nat → Nat} {T : Tab} {ws : List Int} : ∀ {xs : List Int} {i j s : Nat}, j ≤ ws.length → (∀ A i j k, i ≤ j → j ≤ ws.length → k ≤ s → 0 < c A i j k → T A i j = true) → 0 < cntR c ws xs i j s → zbd_ T ws xs i j = true := by
  intro xs
  induction xs with
  | nil =>
    intro i j s hj hc h
    rw [cntR] at h
    split at h
    · rename_i h1
      exact decide_eq_true h1.1
    · omega
  | cons x xs ih =>
    intro i j s hj hc h
    rw [cntR] at h
    by_cases hx : x < 0
    · rw [if_pos hx] at h
      split at h
      · rename_i h1
        rw [zup_ hx, decide_eq_true h1.1, decide_eq_true h1.2, ih hj hc h]
        rfl
      · omega
    · rw [if_neg hx] at h
      obtain ⟨m, hm, h1⟩ := sumN_pos h
      obtain ⟨k, hk, h2⟩ := sumN_pos h1
      have h3 : 0 < c x.toNat i (i + m) (k + 1) := Nat.pos_of_ne_zero fun e => by rw [e, Nat.zero_mul] at h2; omega
      have h4 : 0 < cntR c ws xs (i + m) j (s - (k + 1)) := Nat.pos_of_ne_zero fun e => by rw [e, Nat.mul_zero] at h2; omega
      rw [zvp_ hx]
      refine any_at (m := i + m) (by omega) (by omega) ?_
      rw [hc _ _ _ _ (by omega) (by omega) (by omega) h3, ih hj (fun A i j k' a b d e => hc A i j k' a b (by omega) e) h4]
      rfl
theorem cntC_span {rs : List RuleL} {ws : List Int} (hr : ∀ r ∈ rs, r.1.toNat < 6) (hw : ws.length ≤ 10) : ∀ {s A i j : Nat}, i ≤ j → j ≤ ws.length → 0 < cntC rs ws A i j s → spanT rs ws A i j = true := by
  intro s
  induction s using Nat.strongRecOn with
  | _ s ih =>
    intro A i j hij hj h
    cases s with
    | zero => rw [zbm_] at h; omega
    | succ s =>
      rw [zcm_] at h
      obtain ⟨r, hm, h1⟩ := sumR_pos h
      split at h1
      · rename_i h2
        have hf := cntR_fits (T := spanT rs ws) hj (fun A i j k a b d e => ih k (by omega) a b e) h1
        have := span_closed hr hw hm hij hj hf
        rwa [h2, Int.toNat_natCast] at this
      · omega
inductive Der (rs : List RuleL) (ws : List Int) : Nat ⊕ List Int → Nat → Nat → Nat → List Int → Prop
  | tree {A q i j s : Nat} {r : List Int} : q < rs.length → (rul rs q).1 = (A : Int) → Der rs ws (.inr (rul rs q).2) i j s r → Der rs ws (.inl A) i j (s + 1) ((q : Int) :: r)
  | nil {i : Nat} : Der rs ws (.inr []) i i 0 []
  | tok {x : Int} {xs : List Int} {i j s : Nat} {r : List Int} : x < 0 → i < j → ws.getD i 0 = -1 - x → Der rs ws (.inr xs) (i + 1) j s r → Der rs ws (.inr (x :: xs)) i j s r
  | non {x : Int} {xs : List Int} {i m j k s : Nat} {a b : List Int} : ¬ x < 0 → i ≤ m → m ≤ j → Der rs ws (.inl x.toNat) i m k a → Der rs ws (.inr xs) m j s b → Der rs ws (.inr (x :: xs)) i j (k + s) (a ++ b)
section
variable {rs : List RuleL} {ws : List Int}
theorem der_tree {A i j s : Nat} {t : List Int} : Der rs ws (.inl A) i j s t ↔ ∃ (q : Nat) (r : List Int) (s' : Nat), s = s' + 1 ∧ t = (q : Int) :: r ∧ q < rs.length ∧ (rul rs q).1 = (A : Int) ∧ Der rs ws (.inr (rul rs q).2) i j s' r := by
  constructor
  · intro h
    cases h with
    | tree h1 h2 h3 => exact ⟨_, _, _, rfl, rfl, h1, h2, h3⟩
  · rintro ⟨q, r, s', rfl, rfl, h1, h2, h3⟩
    exact .tree h1 h2 h3
theorem der_nil {i j s : Nat} {t : List Int} : Der rs ws (.inr []) i j s t ↔ i = j ∧ s = 0 ∧ t = [] := by
  constructor
  · intro h
    cases h
    exact ⟨rfl, rfl, rfl⟩
  · rintro ⟨rfl, rfl, rfl⟩
    exact .nil
theorem der_tok {x : Int} {xs : List Int} {i j s : Nat} {t : List Int} (hx : x < 0) : Der rs ws (.inr (x :: xs)) i j s t ↔ i < j ∧ ws.getD i 0 = -1 - x ∧ Der rs ws (.inr xs) (i + 1) j s t := by
  constructor
  · intro h
    cases h with
    | tok h1 h2 h3 h4 => exact ⟨h2, h3, h4⟩
    | non h1 => exact absurd hx h1
  · rintro ⟨h1, h2, h3⟩
    exact .tok hx h1 h2 h3
theorem der_non {x : Int} {xs : List Int} {i j s : Nat} {t : List Int} (hx : ¬ x < 0) : Der rs ws (.inr (x :: xs)) i j s t ↔ ∃ m k s' a b, i ≤ m ∧ m ≤ j ∧ s = k + s' ∧ t = a ++ b ∧ Der rs ws (.inl x.toNat) i m k a ∧ Der rs ws (.inr xs) m j s' b := by
  constructor
  · intro h
    cases h with
    | tok h1 => exact absurd h1 hx
    | non h1 h2 h3 h4 h5 => exact ⟨_, _, _, _, _, h2, h3, rfl, rfl, h4, h5⟩
  · rintro ⟨m, k, s', a, b, h2, h3, rfl, rfl, h4, h5⟩
    exact .non hx h2 h3 h4 h5
theorem der_one {c : Nat ⊕ List Int} {i j s : Nat} {t : List Int} (h : Der rs ws c i j s t) : ∀ {j' s' : Nat} {t' u u' : List Int}, Der rs ws c i j' s' t' → t ++ u = t' ++ u' → t = t' ∧ s = s' ∧ j = j' ∧ u = u' := by
  induction h with
  | tree h1 h2 h3 ih =>
    intro j' s' t' u u' h' e
    obtain ⟨q', r', s'', rfl, rfl, g1, g2, g3⟩ := der_tree.1 h'
    rw [List.cons_append, List.cons_append] at e
    obtain ⟨e1, e2⟩ := List.cons.inj e
    have e1 := Int.natCast_inj.1 e1
    subst e1
    obtain ⟨a1, a2, a3, a4⟩ := ih g3 e2
    exact ⟨by rw [a1], by rw [a2], a3, a4⟩
  | nil =>
    intro j' s' t' u u' h' e
    obtain ⟨rfl, rfl, rfl⟩ := der_nil.1 h'
    exact ⟨rfl, rfl, rfl, e⟩
  | tok h1 h2 h3 h4 ih =>
    intro j' s' t' u u' h' e
    obtain ⟨_, _, g⟩ := (der_tok h1).1 h'
    exact ih g e
  | non h1 h2 h3 h4 h5 ih1 ih2 =>
    intro j' s' t' u u' h' e
    obtain ⟨m', k', s'', a', b', g1, g2, rfl, rfl, g3, g4⟩ := (der_non h1).1 h'
    rw [List.append_assoc, List.append_assoc] at e
    obtain ⟨a1, a2, a3, a4⟩ := ih1 g3 e
    subst a1 a2 a3
    obtain ⟨b1, b2, b3, b4⟩ := ih2 g4 a4
    exact ⟨by rw [b1], by rw [b2], b3, b4⟩
theorem der_free {c : Nat ⊕ List Int} {i j s : Nat} : zxj_ (Der rs ws c i j s) := fun a b u v ha hb e => (der_one ha hb e).1
theorem der_le {c : Nat ⊕ List Int} {i j s : Nat} {t : List Int} (h : Der rs ws c i j s t) : i ≤ j := by
  induction h with
  | tree _ _ _ ih => exact ih
  | nil => exact Nat.le_refl _
  | tok _ h2 _ _ ih => omega
  | non _ h2 h3 _ _ _ _ => omega
theorem ztm_ {c : Nat ⊕ List Int} {i j s : Nat} {t : List Int} (h : Der rs ws c i j s t) : t.length = s := by
  induction h with
  | tree _ _ _ ih => rw [List.length_cons, ih]
  | nil => rfl
  | tok _ _ _ _ ih => exact ih
  | non _ _ _ _ _ ih1 ih2 => rw [List.length_append, ih1, ih2]
theorem sumN_at {f : Nat → Nat} : ∀ {n k : Nat}, k < n → 0 < f k → 0 < sumN f n := by
  intro n
  induction n with
  | zero => intro k h; omega
  | succ n ih =>
    intro k h h1
    rw [sumN]
    by_cases e : k = n
    · subst e
      omega
    · have := ih (k := k) (by omega) h1
      omega
theorem sumR_at {p : RuleL → Nat} {rs : List RuleL} {r : RuleL} (hr : r ∈ rs) (h : 0 < p r) : 0 < sumR rs p := by
  have mono : ∀ (l : List RuleL) (a : Nat), a ≤ l.foldl (fun a r => a + p r) a := by
    intro l
    induction l with
    | nil => intro a; exact Nat.le_refl _
    | cons b l ih => intro a; exact Nat.le_trans (Nat.le_add_right a (p b)) (ih (a + p b))
  have key : ∀ (l : List RuleL) (a : Nat), r ∈ l → 0 < l.foldl (fun a r => a + p r) a := by
    intro l
    induction l with
    | nil => intro a h; simp at h
    | cons b l ih =>
      intro a hm
      rcases List.mem_cons.1 hm with e | e
      · subst e
        exact Nat.lt_of_lt_of_le (by omega) (mono l (a + p r))
      · exact ih (a + p b) e
  exact key rs 0 hr
def posD (rs : List RuleL) (ws : List Int) : Nat ⊕ List Int → Nat → Nat → Nat → Prop
  | .inl A, i, j, s => 0 < cntC rs ws A i j s
  | .inr xs, i, j, s => 0 < cntR (cntC rs ws) ws xs i j s
theorem der_posD {c : Nat ⊕ List Int} {i j s : Nat} {t : List Int} (h : Der rs ws c i j s t) : posD rs ws c i j s := by
  induction h with
  | tree h1 h2 h3 ih =>
    show 0 < cntC rs ws _ _ _ _
    rw [zcm_]
    refine sumR_at (r := rul rs _) (by rw [zpf_ h1]; exact List.getElem_mem h1) ?_
    rw [if_pos h2]
    exact ih
  | nil =>
    show 0 < cntR _ _ [] _ _ _
    rw [cntR, if_pos ⟨rfl, rfl⟩]
    omega
  | tok h1 h2 h3 h4 ih =>
    show 0 < cntR _ _ (_ :: _) _ _ _
    rw [cntR, if_pos h1, if_pos ⟨h2, h3⟩]
    exact ih
  | non h1 h2 h3 h4 h5 ih1 ih2 =>
    rename_i x xs i m j k s a b
    show 0 < cntR _ _ (x :: xs) _ _ _
    rw [cntR, if_neg h1]
    have hk : 0 < k := by
      obtain ⟨_, _, s', rfl, _⟩ := der_tree.1 h4
      omega
    refine sumN_at (k := m - i) (by omega) (sumN_at (k := k - 1) (by omega) ?_)
    rw [show i + (m - i) = m from by omega, show k - 1 + 1 = k from by omega, show k + s - k = s from by omega]
    exact Nat.mul_pos ih1 ih2
theorem der_posC {A i j s : Nat} {t : List Int} (h : Der rs ws (.inl A) i j s t) : 0 < cntC rs ws A i j s := der_posD h
theorem der_posR {xs : List Int} {i j s : Nat} {t : List Int} (h : Der rs ws (.inr xs) i j s t) : 0 < cntR (cntC rs ws) ws xs i j s := der_posD h
theorem der_span (hr : ∀ r ∈ rs, r.1.toNat < 6) (hw : ws.length ≤ 10) {A i j s : Nat} {t : List Int} (hj : j ≤ ws.length) (h : Der rs ws (.inl A) i j s t) : spanT rs ws A i j = true := cntC_span hr hw (der_le h) hj (der_posC h)
def PartD (rs : List RuleL) (ws : List Int) (x : Int) (xs : List Int) (i j s m k : Nat) : List Int → Prop := ProdS (Der rs ws (.inl x.toNat) i m k) (Der rs ws (.inr xs) m j (s - k))
theorem part_apart {x : Int} {xs : List Int} {i j s m k m' k' : Nat} {t : List Int} (h : PartD rs ws x xs i j s m k t) (h' : PartD rs ws x xs i j s m' k' t) : m = m' ∧ k = k' := by
  obtain ⟨a, b, h1, h2, rfl⟩ := h
  obtain ⟨a', b', h3, h4, e⟩ := h'
  obtain ⟨_, e1, e2, _⟩ := der_one h1 h3 e
  exact ⟨e2, e1⟩
def SeenD (rs : List RuleL) (ws : List Int) (x : Int) (xs : List Int) (i j s q kk : Nat) (t : List Int) : Prop :=
  ∃ m k, i ≤ m ∧ m ≤ j ∧ 1 ≤ k ∧ k ≤ s ∧ (m < i + q ∨ (m = i + q ∧ k ≤ kk)) ∧ PartD rs ws x xs i j s m k t
theorem seen_all {x : Int} {xs : List Int} {i j s q : Nat} {t : List Int} (hx : ¬ x < 0) (hq : j < i + q) : Der rs ws (.inr (x :: xs)) i j s t ↔ SeenD rs ws x xs i j s q 0 t := by
  rw [der_non hx]
  constructor
  · rintro ⟨m, k, s', a, b, h1, h2, rfl, rfl, h3, h4⟩
    have hk : 1 ≤ k := by
      obtain ⟨_, _, s'', rfl, _⟩ := der_tree.1 h3
      omega
    exact ⟨m, k, h1, h2, hk, by omega, .inl (by omega), a, b, h3, by rw [show k + s' - k = s' from by omega]; exact h4, rfl⟩
  · rintro ⟨m, k, h1, h2, h3, h4, _, a, b, h5, h6, rfl⟩
    exact ⟨m, k, s - k, a, b, h1, h2, by omega, rfl, h5, h6⟩
theorem seen_none {x : Int} {xs : List Int} {i j s : Nat} {t : List Int} : ¬ SeenD rs ws x xs i j s 0 0 t := by
  rintro ⟨m, k, h1, h2, h3, h4, h5, _⟩
  omega
theorem seen_row {x : Int} {xs : List Int} {i j s q : Nat} {t : List Int} : SeenD rs ws x xs i j s (q + 1) 0 t ↔ SeenD rs ws x xs i j s q s t := by
  constructor
  · rintro ⟨m, k, h1, h2, h3, h4, h5, h6⟩
    exact ⟨m, k, h1, h2, h3, h4, by omega, h6⟩
  · rintro ⟨m, k, h1, h2, h3, h4, h5, h6⟩
    exact ⟨m, k, h1, h2, h3, h4, by omega, h6⟩
theorem zev_ {x : Int} {xs : List Int} {i j s q kk : Nat} {t : List Int} (hq : i + q ≤ j) (hk : kk < s) : SeenD rs ws x xs i j s q (kk + 1) t ↔ SeenD rs ws x xs i j s q kk t ∨ PartD rs ws x xs i j s (i + q) (kk + 1) t := by
  constructor
  · rintro ⟨m, k, h1, h2, h3, h4, h5, h6⟩
    by_cases e : m = i + q ∧ k = kk + 1
    · obtain ⟨rfl, rfl⟩ := e
      exact .inr h6
    · exact .inl ⟨m, k, h1, h2, h3, h4, by omega, h6⟩
  · rintro (⟨m, k, h1, h2, h3, h4, h5, h6⟩ | h)
    · exact ⟨m, k, h1, h2, h3, h4, by omega, h6⟩
    · exact ⟨i + q, kk + 1, by omega, hq, by omega, by omega, .inr ⟨rfl, Nat.le_refl _⟩, h⟩
theorem seen_apart {x : Int} {xs : List Int} {i j s q kk : Nat} {t : List Int} (h : SeenD rs ws x xs i j s q kk t) (h' : PartD rs ws x xs i j s (i + q) (kk + 1) t) : False := by
  obtain ⟨m, k, h1, h2, h3, h4, h5, h6⟩ := h
  obtain ⟨e1, e2⟩ := part_apart h6 h'
  omega
def RuleD (rs : List RuleL) (ws : List Int) (A i j s q : Nat) (t : List Int) : Prop := ∃ p, p < q ∧ p < rs.length ∧ (rul rs p).1 = (A : Int) ∧ ∃ r, Der rs ws (.inr (rul rs p).2) i j s r ∧ t = (p : Int) :: r
theorem ruleD_all {A i j s : Nat} {t : List Int} : Der rs ws (.inl A) i j (s + 1) t ↔ RuleD rs ws A i j s rs.length t := by
  rw [der_tree]
  constructor
  · rintro ⟨q, r, s', h1, rfl, h2, h3, h4⟩
    obtain rfl : s = s' := by omega
    exact ⟨q, h2, h2, h3, r, h4, rfl⟩
  · rintro ⟨p, _, h2, h3, r, h4, rfl⟩
    exact ⟨p, r, s, rfl, rfl, h2, h3, h4⟩
end
section
variable {rs : List RuleL} {ws : List Int}
def zmh_ (rs : List RuleL) (ws : List Int) (T : Tab) : Prop := ∀ A i j, T A i j = true → i ≤ j ∧ ∃ s t, Der rs ws (.inl A) i j s t
theorem fits_sound {T : Tab} (h : zmh_ rs ws T) : ∀ {xs : List Int} {i j : Nat}, zbd_ T ws xs i j = true → i ≤ j ∧ ∃ s t, Der rs ws (.inr xs) i j s t := by
  intro xs
  induction xs with
  | nil =>
    intro i j hf
    obtain rfl : i = j := of_decide_eq_true hf
    exact ⟨Nat.le_refl _, 0, [], .nil⟩
  | cons x xs ih =>
    intro i j hf
    by_cases hx : x < 0
    · rw [zup_ hx] at hf
      simp only [Bool.and_eq_true, decide_eq_true_eq] at hf
      obtain ⟨h1, h2, h3⟩ := hf
      obtain ⟨h4, s, t, h5⟩ := ih h3
      exact ⟨by omega, s, t, .tok hx h1 h2 h5⟩
    · rw [zvp_ hx, List.any_eq_true] at hf
      obtain ⟨m, hm, hf⟩ := hf
      rw [List.mem_range'_1] at hm
      simp only [Bool.and_eq_true] at hf
      obtain ⟨h1, k, a, h2⟩ := h _ _ _ hf.1
      obtain ⟨h3, s, t, h4⟩ := ih hf.2
      exact ⟨by omega, k + s, a ++ t, .non hx h1 h3 h2 h4⟩
theorem rule_at {r : RuleL} (h : r ∈ rs) : ∃ q, q < rs.length ∧ rul rs q = r := by
  obtain ⟨q, hq, e⟩ := List.getElem_of_mem h
  exact ⟨q, hq, by rw [zpf_ hq, e]⟩
theorem zar_ {α σ : Type} {I : σ → Prop} {f : σ → α → σ} : ∀ {l : List α} {s : σ}, I s → (∀ a ∈ l, ∀ s, I s → I (f s a)) → I (l.foldl f s) := by
  intro l
  induction l with
  | nil => intro s h _; exact h
  | cons a l ih =>
    intro s h h1
    exact ih (h1 a (List.mem_cons_self ..) s h) fun b hb => h1 b (List.mem_cons_of_mem _ hb)
theorem zht_ (h0 : ∀ r ∈ rs, 0 ≤ r.1) {s : TS} (h : zmh_ rs ws s.1) : zmh_ rs ws (zeg_ rs ws s).1 := by
  refine zar_ (I := fun s : TS => zmh_ rs ws s.1) h fun r hr s hs => ?_
  refine zar_ (I := fun s : TS => zmh_ rs ws s.1) hs fun i hi s hs => ?_
  refine zar_ (I := fun s : TS => zmh_ rs ws s.1) hs fun j hj s hs => ?_
  unfold stepT
  split
  · rename_i hc
    simp only [Bool.and_eq_true] at hc
    intro A a b hab
    simp only [Tab.put] at hab
    split at hab
    · rename_i e
      obtain ⟨rfl, rfl, rfl⟩ := e
      obtain ⟨h1, s', t, h2⟩ := fits_sound hs hc.2
      obtain ⟨q, hq, e⟩ := rule_at hr
      refine ⟨h1, s' + 1, (q : Int) :: t, .tree hq ?_ (by rw [e]; exact h2)⟩
      rw [e]
      have := h0 r hr
      omega
    · exact hs A a b hab
  · exact hs
theorem span_sound (h0 : ∀ r ∈ rs, 0 ≤ r.1) : zmh_ rs ws (spanT rs ws) := by
  intro A i j h
  unfold spanT at h
  split at h
  · rename_i hx
    have key : ∀ {T U : Tab}, Span rs ws T U → zmh_ rs ws T → zmh_ rs ws U := by
      intro T U h
      induction h with
      | done _ => exact fun h => zht_ h0 h
      | more _ _ ih => exact fun h => ih (zht_ h0 h)
    exact key (Classical.choose_spec hx) (fun A i j h => by cases h) A i j h
  · cases h
theorem span_iff (h0 : ∀ r ∈ rs, 0 ≤ r.1) (hr : ∀ r ∈ rs, r.1.toNat < 6) (hw : ws.length ≤ 10) {A i j : Nat} (hj : j ≤ ws.length) : spanT rs ws A i j = true ↔ ∃ s t, Der rs ws (.inl A) i j s t :=
  ⟨fun h => (span_sound h0 A i j h).2, fun ⟨_, _, h⟩ => der_span hr hw hj h⟩
end
inductive Yi (rs : List RuleL) : Nat ⊕ List Int → List Int → Prop
  | rule {A : Nat} {r : RuleL} {u : List Int} : r ∈ rs → r.1 = (A : Int) → Yi rs (.inr r.2) u → Yi rs (.inl A) u
  | nil : Yi rs (.inr []) []
  | tok {x : Int} {xs u : List Int} : x < 0 → Yi rs (.inr xs) u → Yi rs (.inr (x :: xs)) ((-1 - x) :: u)
  | non {x : Int} {xs u v : List Int} : ¬ x < 0 → Yi rs (.inl x.toNat) u → Yi rs (.inr xs) v → Yi rs (.inr (x :: xs)) (u ++ v)
def cut (ws : List Int) (i j : Nat) : List Int := (ws.drop i).take (j - i)
theorem zyj_ (ws : List Int) (i : Nat) : cut ws i i = [] := by simp [cut]
theorem zgk_ {ws : List Int} {i j : Nat} (h : i < j) (hj : j ≤ ws.length) : cut ws i j = ws.getD i 0 :: cut ws (i + 1) j := by
  unfold cut
  rw [List.drop_eq_getElem_cons (by omega), show j - i = (j - (i + 1)) + 1 from by omega, List.take_succ_cons]
  simp [List.getD_eq_getElem?_getD, show i < ws.length from by omega]
theorem zph_ {ws : List Int} {i m j : Nat} (h1 : i ≤ m) (h2 : m ≤ j) (hj : j ≤ ws.length) : cut ws i j = cut ws i m ++ cut ws m j := by
  unfold cut
  rw [show j - i = (m - i) + (j - m) from by omega, List.take_add, List.drop_drop, show i + (m - i) = m from by omega]
theorem cut_all (ws : List Int) : cut ws 0 ws.length = ws := by simp [cut]
theorem cut_length {ws : List Int} {i j : Nat} (h : i ≤ j) (hj : j ≤ ws.length) : (cut ws i j).length = j - i := by
  simp [cut]; omega
theorem zum_ (a u b : List Int) : cut (a ++ u ++ b) a.length (a.length + u.length) = u := by
  simp [cut, List.append_assoc]
section
variable {rs : List RuleL}
theorem yi_of_der {ws : List Int} {c : Nat ⊕ List Int} {i j s : Nat} {t : List Int} (h : Der rs ws c i j s t) : j ≤ ws.length → Yi rs c (cut ws i j) := by
  induction h with
  | tree h1 h2 _ ih =>
    intro hj
    refine .rule (r := rul rs _) ?_ h2 (ih hj)
    rw [zpf_ h1]
    exact List.getElem_mem h1
  | nil =>
    intro _
    rw [zyj_]
    exact .nil
  | tok h1 h2 h3 _ ih =>
    intro hj
    rw [zgk_ h2 hj, h3]
    exact .tok h1 (ih hj)
  | non h1 h2 h3 _ _ ih1 ih2 =>
    intro hj
    rw [zph_ h2 h3 hj]
    exact .non h1 (ih1 (by omega)) (ih2 hj)
theorem der_of_yi' {c : Nat ⊕ List Int} {u : List Int} (h : Yi rs c u) : ∀ (a b : List Int), ∃ s t, Der rs (a ++ u ++ b) c a.length (a.length + u.length) s t := by
  induction h with
  | rule h1 h2 _ ih =>
    intro a b
    obtain ⟨s, t, hd⟩ := ih a b
    obtain ⟨q, hq, e⟩ := List.getElem_of_mem h1
    have e' : rul rs q = _ := (zpf_ hq).trans e
    exact ⟨_, _, .tree hq (by rw [e']; exact h2) (by rw [e']; exact hd)⟩
  | nil =>
    intro a b
    exact ⟨_, _, .nil⟩
  | @tok x xs u hx _ ih =>
    intro a b
    obtain ⟨s, t, hd⟩ := ih (a ++ [-1 - x]) b
    refine ⟨s, t, .tok hx (by simp) ?_ ?_⟩
    · simp [List.getD_eq_getElem?_getD]
    · have e : a ++ (-1 - x) :: u ++ b = a ++ [-1 - x] ++ u ++ b := by simp
      rw [e]
      have e2 : a.length + ((-1 - x) :: u).length = (a ++ [-1 - x]).length + u.length := by simp; omega
      rw [e2]
      have e3 : a.length + 1 = (a ++ [-1 - x]).length := by simp
      rw [e3]
      exact hd
  | @non x xs u v hx _ _ ih1 ih2 =>
    intro a b
    obtain ⟨s1, t1, h1⟩ := ih1 a (v ++ b)
    obtain ⟨s2, t2, h2⟩ := ih2 (a ++ u) b
    have e1 : a ++ u ++ (v ++ b) = a ++ (u ++ v) ++ b := by simp
    have e2 : a ++ u ++ v ++ b = a ++ (u ++ v) ++ b := by simp
    rw [e1] at h1
    rw [e2] at h2
    have e3 : (a ++ u).length = a.length + u.length := by simp
    have e4 : (a ++ u).length + v.length = a.length + (u ++ v).length := by simp; omega
    rw [e4, e3] at h2
    exact ⟨_, _, .non hx (by omega) (by simp) h1 h2⟩
theorem cut_parts {ws : List Int} {i j : Nat} (h : i ≤ j) (hj : j ≤ ws.length) : ws = ws.take i ++ cut ws i j ++ ws.drop j := by
  unfold cut
  conv => lhs; rw [← List.take_append_drop i ws, ← List.take_append_drop (j - i) (ws.drop i)]
  rw [List.drop_drop, show i + (j - i) = j from by omega, List.append_assoc]
theorem der_of_yi {ws : List Int} {c : Nat ⊕ List Int} {i j : Nat} (hi : i ≤ j) (hj : j ≤ ws.length) (h : Yi rs c (cut ws i j)) : ∃ s t, Der rs ws c i j s t := by
  obtain ⟨s, t, hd⟩ := der_of_yi' h (ws.take i) (ws.drop j)
  rw [← cut_parts hi hj] at hd
  have e1 : (ws.take i).length = i := by simp; omega
  have e2 : i + (cut ws i j).length = j := by rw [cut_length hi hj]; omega
  rw [e1, e2] at hd
  exact ⟨s, t, hd⟩
theorem der_yi {ws : List Int} {c : Nat ⊕ List Int} {i j : Nat} (hi : i ≤ j) (hj : j ≤ ws.length) : (∃ s t, Der rs ws c i j s t) ↔ Yi rs c (cut ws i j) :=
  ⟨fun ⟨_, _, h⟩ => yi_of_der h hj, der_of_yi hi hj⟩
end
inductive Clo (rs : List RuleL) (tok : Bool) : Nat → Prop
  | mk {A : Nat} {r : RuleL} : r ∈ rs → r.1 = (A : Int) → (∀ x ∈ r.2, x < 0 → tok = true) → (∀ x ∈ r.2, ¬ x < 0 → Clo rs tok x.toNat) → Clo rs tok A
inductive Rch (rs : List RuleL) : Nat → Prop
  | zero : Rch rs 0
  | step {A : Nat} {r : RuleL} {x : Int} : r ∈ rs → r.1 = (A : Int) → Rch rs A → x ∈ r.2 → ¬ x < 0 → Rch rs x.toNat
open Classical in
noncomputable def madeR (rs : List RuleL) : List RuleL := rs.filter fun r => decide (∀ x ∈ r.2, ¬ x < 0 → Clo rs true x.toNat)
open Classical in
noncomputable def rchR (rs : List RuleL) : List RuleL := rs.filter fun r => decide (Rch rs r.1.toNat)
noncomputable def usefulR (rs : List RuleL) : List RuleL := rchR (madeR rs)
open Go Go.ChangeShapes Go.WideShapes Go.ChangeAt Go.RowKit
theorem below_of_gr {w w' : World} (g : Gr w w') : Below w.heap.size w w' := ⟨g.os, g.tape, g.output, g.size, fun k hk => g.block k hk (by simp)⟩
theorem walk_of {P : Program} {g : FuncId} {args : List Value} {w : World} (h : ∀ k : Value → World → Prop, (∀ w', Gr w w' → k (.bool true) w') → CallK P g args k w) :
    Calls P g args.toArray w fun e w' => e = .returned (.bool true) ∧ Below w.heap.size w w' :=
  (h (fun v w' => v = .bool true ∧ Gr w w') (fun w' g => ⟨rfl, g⟩)).2.mono fun e w' he => by
    cases e with
    | returned v => exact ⟨by rw [he.1], below_of_gr he.2⟩
    | panicked c => exact he.elim
    | outgrown => exact he.elim

section
variable {H : Type} {enc : TypeId × Value → H} {P : Program} {w : World} {base : Nat} {spare : Nat → Bool} {held : Bool}
end
open Go Go.ChangeAt Go.ChangeShapes Go.WideShapes
section
variable {P : Program} {S : WS} {k : Value → Prop}
theorem bin_shr {t : TypeId} {c : Bool} {kd yk : IntKind} {x y : Int} (hy : 0 ≤ y) : Rd P S (sBin .shr t c (.int kd x) (.int yk y)) k = k (.int kd (x.fdiv (2 ^ (min y.toNat kd.bits)))) := zgc_ fun w _ => by
  simp only [sBin, Sem.run_bind, zhu_, Result.andThen]
  have : ¬ y < 0 := by omega
  simp [binOp, Op.shift, this]
theorem bin_and {t : TypeId} {c : Bool} {kd : IntKind} {x y : Int} : Rd P S (sBin .and t c (.int kd x) (.int kd y)) k = k (.int kd (kd.wrap ((BitVec.ofInt kd.bits x &&& BitVec.ofInt kd.bits y).toNat : Int))) := zgg_ fun w => by
  simp [binOp, Op.intBits]
theorem run_convert {s d : TypeId} {kd kn : IntKind} {n : Int} {ds : TypeDesc} (hs : P.underlying s = some ds) (hd : P.underlying d = some (.int kd)) (w : World) : (zxg_ s d (.int kn n)).run P w = .ok (.value (.int kd (kd.wrap n))) w := by
  simp only [zxg_, convert, Sem.run_bind, run_underlying hs, run_underlying hd, Result.andThen]
  cases ds <;> simp [Conv.intToInt]
theorem zhk_ {k : Value → World → Prop} {s d : TypeId} {kd kn : IntKind} {n : Int} {ds : TypeDesc} {w : World} (hs : P.underlying s = some ds) (hd : P.underlying d = some (.int kd)) (h : k (.int kd (kd.wrap n)) w) : Do P (zxg_ s d (.int kn n)) k w := by
  rw [zwg_ (run_convert hs hd w)]
  exact h
end
theorem and255 (x : Int) : 0 ≤ IntKind.u64.wrap ((BitVec.ofInt IntKind.u64.bits x &&& BitVec.ofInt IntKind.u64.bits 255).toNat : Int) ∧ IntKind.u64.wrap ((BitVec.ofInt IntKind.u64.bits x &&& BitVec.ofInt IntKind.u64.bits 255).toNat : Int) ≤ 255 := by
  have h : (BitVec.ofInt IntKind.u64.bits x &&& BitVec.ofInt IntKind.u64.bits 255).toNat ≤ 255 := by
    rw [BitVec.toNat_and]
    exact Nat.le_trans Nat.and_le_right (by decide)
  have e : IntKind.u64.wrap ((BitVec.ofInt IntKind.u64.bits x &&& BitVec.ofInt IntKind.u64.bits 255).toNat : Int) = ((BitVec.ofInt IntKind.u64.bits x &&& BitVec.ofInt IntKind.u64.bits 255).toNat : Int) := by
    generalize (BitVec.ofInt IntKind.u64.bits x &&& BitVec.ofInt IntKind.u64.bits 255).toNat = n at *
    simp [IntKind.wrap, IntKind.bits, IntKind.signed]
    omega
  rw [e]
  omega
structure Byts (w : World) (X : Option Addr) (bs : List Int) : Prop where
  le : bs.length ≤ 9223372036854775807
  ptr : 0 < bs.length → X = some (ad X)
  cell : ∀ j, j < bs.length → w.cell? ((ad X).add j) = some (.int .u8 (bs.getD j 0))
  small : ∀ j, j < bs.length → 0 ≤ bs.getD j 0 ∧ bs.getD j 0 ≤ 255
theorem Byts.gr {w w' : World} {X : Option Addr} {bs : List Int} (h : Byts w X bs) (g : Gr w w') : Byts w' X bs := ⟨h.le, h.ptr, fun j hj => g.cell (h.cell j hj), h.small⟩
section
variable {H : Type} {enc : TypeId × Value → H} {P : Program} {w : World} {base : Nat} {spare : Nat → Bool} {held : Bool}
theorem wf8 {n : Int} (h : (Lit.int .u8 n).wf = true) : 0 ≤ n ∧ n ≤ 255 := by
  simp [Lit.wf, show IntKind.u8.min = 0 from rfl, show IntKind.u8.max = 255 from rfl] at h
  exact h
theorem read_bytes {t e : TypeId} (ht : P.underlying t = some (.slice e)) (he : P.underlying e = some (.int .u8)) (hc : P.cellsOf e = 1) {fuel : Nat} {cs : List Value} {x : DataW H × List MemPlace}
    (h : DataW.trod enc P w base spare held fuel t cs = some x) : ∃ X n c bs, cs = [.slice X n c] ∧ n = bs.length ∧ n ≤ c ∧ Byts w X bs := by
  rcases open_ints ht he hc h with ⟨hcs, _⟩ | ⟨a, l, c, zs, hcs, _, hl, hm, hz, _, hcell, hwz⟩
  · exact ⟨none, 0, 0, [], hcs, rfl, Nat.le_refl _, by simp, fun h => by simp at h, fun j hj => by simp at hj, fun j hj => by simp at hj⟩
  · have hzl : l ≤ zs.length := by rw [hz]; split <;> omega
    have hget : ∀ j, j < (zs.take l).length → j < zs.length ∧ (zs.take l).getD j 0 = zs.getD j 0 := fun j hj => by
      have hj' : j < l ∧ j < zs.length := by simp at hj; omega
      exact ⟨hj'.2, by simp [List.getD_eq_getElem?_getD, List.getElem?_take, hj'.1]⟩
    refine ⟨some a, l, c, zs.take l, hcs, by simp; omega, hl, ?_, fun _ => rfl, fun j hj => ?_, fun j hj => ?_⟩
    · unfold maxLen at hm
      simp
      omega
    · obtain ⟨h1, h2⟩ := hget j hj
      rw [show (ad (some a)).add j = a.add j from rfl, hcell j h1, h2]
    · obtain ⟨h1, h2⟩ := hget j hj
      rw [h2]
      refine wf8 (hwz _ ?_)
      rw [List.getD_eq_getElem?_getD, List.getElem?_eq_getElem h1]
      exact List.getElem_mem h1
theorem zit_ {t e : TypeId} {v : Value} {d : DataW H} {p : List MemPlace} (ht : P.underlying t = some (.slice e)) (he : P.underlying e = some (.int .u8)) (hc : P.cellsOf e = 1)
    (h : DataW.Trod enc P w base spare held t v d p) : ∃ X n c bs, v.cells.toList = [.slice X n c] ∧ n = bs.length ∧ n ≤ c ∧ Byts w X bs := by
  obtain ⟨fuel, hf⟩ := h
  exact read_bytes ht he hc hf
end
def curi (tc bc : Nat) (cv : Value) (N : Nat) : Thing := ⟨fun w => ∃ a s : Int, 0 ≤ a ∧ a ≤ N ∧ Box w bc [cv, .int .i64 a, .int .u64 s] tc, fun q => q = bc⟩
section
variable {w0 w : World} {L : List Thing} {tc bc N : Nat} {cv : Value}
theorem Apt.openCur (H : Apt w0 w L) (i : Nat) (hi : L[i]? = some (curi tc bc cv N)) : ∃ a s : Int, 0 ≤ a ∧ a ≤ N ∧ Apt w0 w (L.set i (bx bc [cv, .int .i64 a, .int .u64 s] tc)) := by
  obtain ⟨a, s, h1, h2, h3⟩ := H.get i hi
  exact ⟨a, s, h1, h2, H.set hi (it' := bx bc [cv, .int .i64 a, .int .u64 s] tc) (Gx.refl _ w) (fun q hq => .inl hq) (fun q hq => (H.ok i _ hi).hi q hq) (zkm_ h3)⟩
theorem Apt.shutCur (H : Apt w0 w L) (i : Nat) {a s : Int} (hi : L[i]? = some (bx bc [cv, .int .i64 a, .int .u64 s] tc)) (h1 : 0 ≤ a) (h2 : a ≤ N) : Apt w0 w (L.set i (curi tc bc cv N)) :=
  H.weaken i hi (fun q hq => hq) (fun w' _ hb => ⟨a, s, h1, h2, hb⟩) fun w' w'' hs ⟨a, s, h1, h2, h3⟩ => ⟨a, s, h1, h2, zkm_ h3 w'' hs⟩
end
end Go.Sh

namespace Go.Proofs.Ytegcjkhebecgbaa
open Go Go.Sh

def pl247 : Plans := fun i => match i with
  | 2 => ⟨false, [], .step 0 .any (.step 1 .any (.step 2 .any (.step 3 .held (.step 4 .any (.step 5 .any (.step 6 .any (.step 7 .held (.step 8 .any (.step 9 .any (.nil))))))))))⟩
  | 3 => ⟨false, [10], .step 0 .any (.step 1 .any (.step 2 .any (.step 3 .held (.step 4 .any (.step 5 .any (.step 6 .any (.step 7 .held (.step 8 .any (.step 9 .held (.step 10 .last (.step 11 .any (.nil))))))))))))⟩
  | 6 => ⟨false, [], .step 0 .any (.step 1 .any (.step 2 .any (.step 3 .held (.step 4 .any (.step 5 .any (.step 6 .any (.step 7 .held (.step 8 .any (.step 9 .any (.nil))))))))))⟩
  | _ => ⟨false, [], .nil⟩
def S247 (v0 : Value) (k : Value → World → Prop) (w : World) : Prop :=
 Join (fun K1 =>
 Rd Try.prog WS.any (zu_ v0) fun t4 =>
 Rd Try.prog WS.any (zb_ 114 t4 1) fun t5 =>
 Rd Try.prog (WS.at w.drew) (zc_ 3 t5) fun t6 =>
 Rd Try.prog WS.any (zu_ v0) fun t7 =>
 Rd Try.prog WS.any (zb_ 114 t7 0) fun t8 =>
 Rd Try.prog (WS.at w.drew) (zc_ 22 t8) fun t9 =>
 Rd Try.prog WS.any (ze_ .len #[22] 3 [false] [t9]) fun t10 =>
 Rd Try.prog WS.any (sBin .lss 3 false t6 t10) fun t11 =>
 zi_ t11
  (Rd Try.prog WS.any (zu_ v0) fun t12 =>
  Rd Try.prog WS.any (zb_ 114 t12 0) fun t13 =>
  Rd Try.prog (WS.at w.drew.drew) (zc_ 22 t13) fun t14 =>
  Rd Try.prog WS.any (zu_ v0) fun t15 =>
  Rd Try.prog WS.any (zb_ 114 t15 1) fun t16 =>
  Rd Try.prog (WS.at w.drew.drew) (zc_ 3 t16) fun t17 =>
  Rd Try.prog WS.any (zd_ 22 t14 t17) fun t18 =>
  Rd Try.prog (WS.at w.drew.drew) (zc_ 5 t18) fun t19 =>
  Do Try.prog (zxg_ 5 3 t19) (fun t20 w21 =>
  K1 (F.upd (F.upd (F.upd (F.upd (F.upd (F.upd (F.upd (F.upd (F.upd (F.upd (F.upd (F.upd (F.upd (F.upd (F.upd (F.upd (F.upd (F.upd (F.upd (F.upd (F.upd (F.upd (F.upd (F.upd (zm_ [v0]) 2 (.int .i64 0)) 3 (.int .i64 0)) 4 v0) 5 t4) 6 t5) 7 t6) 8 v0) 9 t7) 10 t8) 11 t9) 12 t10) 13 t11) 14 v0) 15 t12) 16 t13) 17 t14) 18 v0) 19 t15) 20 t16) 21 t17) 22 t18) 23 t19) 24 t20) 3 t20) w21) w.drew.drew)
  (K1 (F.upd (F.upd (F.upd (F.upd (F.upd (F.upd (F.upd (F.upd (F.upd (F.upd (F.upd (F.upd (zm_ [v0]) 2 (.int .i64 0)) 3 (.int .i64 0)) 4 v0) 5 t4) 6 t5) 7 t6) 8 v0) 9 t7) 10 t8) 11 t9) 12 t10) 13 t11) w.drew)) (fun f2 w3 =>
 Rd Try.prog (WS.at w3) (zu_ (f2 0)) fun t22 =>
 Rd Try.prog (WS.at w3) (zb_ 114 t22 1) fun t23 =>
 Rd Try.prog (WS.at w3) (zc_ 3 t23) fun t24 =>
 Rd Try.prog (WS.at w3) (sBin .add 3 true t24 (.int .i64 1)) fun t25 =>
 Rd Try.prog (WS.at w3) (zu_ (f2 0)) fun t26 =>
 Rd Try.prog (WS.at w3) (zb_ 114 t26 1) fun t27 =>
 Do Try.prog (zx_ 3 t27 t25) (fun _ w28 =>
 Rd Try.prog (WS.at w28) (zu_ (f2 0)) fun t29 =>
 Rd Try.prog (WS.at w28) (zb_ 114 t29 2) fun t30 =>
 Rd Try.prog (WS.at w28) (zc_ 112 t30) fun t31 =>
 Rd Try.prog (WS.at w28) (sBin .mul 112 true t31 (.int .u64 6364136223846793005)) fun t32 =>
 Do Try.prog (zxg_ 3 112 (f2 3)) (fun t33 w34 =>
 Rd Try.prog (WS.at w34) (sBin .add 112 false t32 t33) fun t35 =>
 Rd Try.prog (WS.at w34) (sBin .add 112 true t35 (.int .u64 1442695040888963407)) fun t36 =>
 Rd Try.prog (WS.at w34) (zu_ (f2 0)) fun t37 =>
 Rd Try.prog (WS.at w34) (zb_ 114 t37 2) fun t38 =>
 Do Try.prog (zx_ 112 t38 t36) (fun _ w39 =>
 Rd Try.prog WS.any (zu_ (f2 0)) fun t40 =>
 Rd Try.prog WS.any (zb_ 114 t40 1) fun t41 =>
 Rd Try.prog (WS.at w39.drew) (zc_ 3 t41) fun t42 =>
 Rd Try.prog WS.any (zu_ (f2 0)) fun t43 =>
 Rd Try.prog WS.any (zb_ 114 t43 0) fun t44 =>
 Rd Try.prog (WS.at w39.drew) (zc_ 22 t44) fun t45 =>
 Rd Try.prog WS.any (ze_ .len #[22] 3 [false] [t45]) fun t46 =>
 Rd Try.prog WS.any (sBin .leq 3 false t42 t46) fun t47 =>
 zi_ t47
  (k (f2 3) w39.drew)
  (Rd Try.prog (WS.at w39.drew) (zu_ (f2 0)) fun t48 =>
  Rd Try.prog (WS.at w39.drew) (zb_ 114 t48 2) fun t49 =>
  Rd Try.prog (WS.at w39.drew) (zc_ 112 t49) fun t50 =>
  Rd Try.prog (WS.at w39.drew) (sBin .shr 112 true t50 (.int .u64 40)) fun t51 =>
  Rd Try.prog (WS.at w39.drew) (sBin .and 112 true t51 (.int .u64 255)) fun t52 =>
  Do Try.prog (zxg_ 112 3 t52) (fun t53 w54 =>
  k t53 w54) w39.drew)) w34) w28) w3)
theorem body247 : Try.f247.body = some (zg_ Try.f247) := by kernel_rfl
theorem same247 (v0 : Value) (k : Value → World → Prop) (w : World) : wpF Try.prog pl247 (zg_ Try.f247) (zr_ Try.prog Try.f247.results.toList k) (zm_ [v0]) w = S247 v0 k w := by kernel_rfl
theorem enter247 {v0 : Value} {k : Value → World → Prop} {w : World} (h : S247 v0 k w) : CallK Try.prog 247 [v0] k w :=
  call_of_wpF (pl := pl247) zab_ Try.func247 body247 (by kernel_rfl) (of_decide_eq_true (by kernel_rfl)) (by kernel_rfl) (by kernel_rfl) (Eq.mpr (same247 v0 k w) h)

def pl146 : Plans := fun _ => ⟨false, [], .nil⟩
def S146 (v0 v1 : Value) (k : Value → World → Prop) (w : World) : Prop :=
 Rd Try.prog (WS.at w) (sBin .leq 3 true v1 (.int .i64 1)) fun t1 =>
 zi_ t1
  (k (.int .i64 0) w)
  (CallK Try.prog 247 [v0] (fun t2 w3 =>
  Join (fun K4 =>
  Rd Try.prog (WS.at w3) (sBin .gtr 3 true v1 (.int .i64 200)) fun t7 =>
  zi_ t7
   (Rd Try.prog (WS.at w3) (sBin .mul 3 true t2 (.int .i64 256)) fun t8 =>
   CallK Try.prog 247 [v0] (fun t9 w10 =>
   Rd Try.prog (WS.at w10) (sBin .add 3 false t8 t9) fun t11 =>
   K4 (F.upd (F.upd (F.upd (F.upd (F.upd (F.upd (F.upd (F.upd (F.upd (F.upd (F.upd (F.upd (F.upd (F.upd (zm_ [v0, v1]) 4 (.int .i64 0)) 6 v1) 7 t1) 8 v0) 9 t2) 5 t2) 10 v1) 11 t7) 12 t2) 13 t8) 14 v0) 15 t9) 16 t11) 5 t11) w10) w3)
   (K4 (F.upd (F.upd (F.upd (F.upd (F.upd (F.upd (F.upd (F.upd (zm_ [v0, v1]) 4 (.int .i64 0)) 6 v1) 7 t1) 8 v0) 9 t2) 5 t2) 10 v1) 11 t7) w3)) (fun f5 w6 =>
  Rd Try.prog (WS.at w6) (sBin .rem 3 false (f5 5) (f5 1)) fun t12 =>
  k t12 w6)) w)
theorem body146 : Try.f146.body = some (zg_ Try.f146) := by kernel_rfl
theorem same146 (v0 v1 : Value) (k : Value → World → Prop) (w : World) : wpF Try.prog pl146 (zg_ Try.f146) (zr_ Try.prog Try.f146.results.toList k) (zm_ [v0, v1]) w = S146 v0 v1 k w := by kernel_rfl
theorem enter146 {v0 v1 : Value} {k : Value → World → Prop} {w : World} (h : S146 v0 v1 k w) : CallK Try.prog 146 [v0, v1] k w :=
  call_of_wpF (pl := pl146) zab_ Try.func146 body146 (by kernel_rfl) (of_decide_eq_true (by kernel_rfl)) (by kernel_rfl) (by kernel_rfl) (Eq.mpr (same146 v0 v1 k w) h)

def pl176 : Plans := fun _ => ⟨false, [], .nil⟩
def S176 (v0 v1 : Value) (k : Value → World → Prop) (w : World) : Prop :=
 CallK Try.prog 146 [v0, v1] (fun t1 w2 =>
 Rd Try.prog (WS.at w2) (sBin .eql 3 true t1 (.int .i64 0)) fun t3 =>
 k t3 w2) w
theorem body176 : Try.f176.body = some (zg_ Try.f176) := by kernel_rfl
theorem same176 (v0 v1 : Value) (k : Value → World → Prop) (w : World) : wpF Try.prog pl176 (zg_ Try.f176) (zr_ Try.prog Try.f176.results.toList k) (zm_ [v0, v1]) w = S176 v0 v1 k w := by kernel_rfl
theorem enter176 {v0 v1 : Value} {k : Value → World → Prop} {w : World} (h : S176 v0 v1 k w) : CallK Try.prog 176 [v0, v1] k w :=
  call_of_wpF (pl := pl176) zab_ Try.func176 body176 (by kernel_rfl) (of_decide_eq_true (by kernel_rfl)) (by kernel_rfl) (by kernel_rfl) (Eq.mpr (same176 v0 v1 k w) h)

def pl156 : Plans := fun _ => ⟨false, [], .nil⟩
def S156 (v0 v1 : Value) (k : Value → World → Prop) (w : World) : Prop :=
 Rd Try.prog (WS.at w) (ze_ .len #[27] 3 [false] [v1]) fun t1 =>
 CallK Try.prog 146 [v0, t1] (fun t2 w3 =>
 Rd Try.prog (WS.at w3) (zd_ 27 v1 t2) fun t4 =>
 Rd Try.prog (WS.at w3) (zc_ 3 t4) fun t5 =>
 k t5 w3) w
theorem body156 : Try.f156.body = some (zg_ Try.f156) := by kernel_rfl
theorem same156 (v0 v1 : Value) (k : Value → World → Prop) (w : World) : wpF Try.prog pl156 (zg_ Try.f156) (zr_ Try.prog Try.f156.results.toList k) (zm_ [v0, v1]) w = S156 v0 v1 k w := by kernel_rfl
theorem enter156 {v0 v1 : Value} {k : Value → World → Prop} {w : World} (h : S156 v0 v1 k w) : CallK Try.prog 156 [v0, v1] k w :=
  call_of_wpF (pl := pl156) zab_ Try.func156 body156 (by kernel_rfl) (of_decide_eq_true (by kernel_rfl)) (by kernel_rfl) (by kernel_rfl) (Eq.mpr (same156 v0 v1 k w) h)

def pl303 : Plans := fun _ => ⟨false, [], .nil⟩
def S303 (v0 : Value) (k : Value → World → Prop) (w : World) : Prop :=
 Do Try.prog (zvb_ 26) (fun t1 w2 =>
 CallK Try.prog 146 [v0, (.int .i64 8)] (fun t3 w4 =>
 Rd Try.prog (WS.at w4) (sBin .eql 3 true t3 (.int .i64 0)) fun t5 =>
 zi_ t5
  (Do Try.prog (zh_ 27 3 [(0, (.int .i64 (-1))), (1, (.int .i64 0)), (2, (.int .i64 (-2)))]) (fun t6 w7 =>
  Rd Try.prog (WS.at w7) (zeb_ 33 [(1, t6)]) fun t8 =>
  Rd Try.prog (WS.at w7) (zeb_ 33 []) fun t9 =>
  Do Try.prog (zh_ 24 2 [(0, t8), (1, t9)]) (fun t10 w11 =>
  Rd Try.prog (WS.at w11) (zeb_ 26 [(0, (.int .i64 1)), (1, (.int .i64 2)), (2, t10)]) fun t12 =>
  Do Try.prog (zx_ 26 t1 t12) (fun _ w13 =>
  Rd Try.prog (WS.at w13) (zac_ 26 t1) fun t14 => k t14 w13) w11) w7) w4)
  (Rd Try.prog (WS.at w4) (sBin .eql 3 true t3 (.int .i64 1)) fun t15 =>
  zi_ t15
   (Do Try.prog (zh_ 27 2 [(0, (.int .i64 0)), (1, (.int .i64 0))]) (fun t16 w17 =>
   Rd Try.prog (WS.at w17) (zeb_ 33 [(1, t16)]) fun t18 =>
   Do Try.prog (zh_ 27 3 [(0, (.int .i64 (-1))), (1, (.int .i64 0)), (2, (.int .i64 (-2)))]) (fun t19 w20 =>
   Rd Try.prog (WS.at w20) (zeb_ 33 [(1, t19)]) fun t21 =>
   Do Try.prog (zh_ 27 2 [(0, (.int .i64 (-1))), (1, (.int .i64 (-2)))]) (fun t22 w23 =>
   Rd Try.prog (WS.at w23) (zeb_ 33 [(1, t22)]) fun t24 =>
   Do Try.prog (zh_ 24 3 [(0, t18), (1, t21), (2, t24)]) (fun t25 w26 =>
   Rd Try.prog (WS.at w26) (zeb_ 26 [(0, (.int .i64 1)), (1, (.int .i64 2)), (2, t25)]) fun t27 =>
   Do Try.prog (zx_ 26 t1 t27) (fun _ w28 =>
   Rd Try.prog (WS.at w28) (zac_ 26 t1) fun t29 => k t29 w28) w26) w23) w20) w17) w4)
   (Rd Try.prog (WS.at w4) (sBin .eql 3 true t3 (.int .i64 2)) fun t30 =>
   zi_ t30
    (Do Try.prog (zh_ 27 3 [(0, (.int .i64 0)), (1, (.int .i64 (-3))), (2, (.int .i64 1))]) (fun t31 w32 =>
    Rd Try.prog (WS.at w32) (zeb_ 33 [(1, t31)]) fun t33 =>
    Do Try.prog (zh_ 27 1 [(0, (.int .i64 1))]) (fun t34 w35 =>
    Rd Try.prog (WS.at w35) (zeb_ 33 [(1, t34)]) fun t36 =>
    Do Try.prog (zh_ 27 1 [(0, (.int .i64 (-1)))]) (fun t37 w38 =>
    Rd Try.prog (WS.at w38) (zeb_ 33 [(0, (.int .i64 1)), (1, t37)]) fun t39 =>
    Do Try.prog (zh_ 27 3 [(0, (.int .i64 (-2))), (1, (.int .i64 0)), (2, (.int .i64 (-2)))]) (fun t40 w41 =>
    Rd Try.prog (WS.at w41) (zeb_ 33 [(0, (.int .i64 1)), (1, t40)]) fun t42 =>
    Do Try.prog (zh_ 24 4 [(0, t33), (1, t36), (2, t39), (3, t42)]) (fun t43 w44 =>
    Rd Try.prog (WS.at w44) (zeb_ 26 [(0, (.int .i64 2)), (1, (.int .i64 3)), (2, t43)]) fun t45 =>
    Do Try.prog (zx_ 26 t1 t45) (fun _ w46 =>
    Rd Try.prog (WS.at w46) (zac_ 26 t1) fun t47 => k t47 w46) w44) w41) w38) w35) w32) w4)
    (Rd Try.prog (WS.at w4) (sBin .eql 3 true t3 (.int .i64 3)) fun t48 =>
    zi_ t48
     (Do Try.prog (zh_ 27 2 [(0, (.int .i64 (-1))), (1, (.int .i64 1))]) (fun t49 w50 =>
     Rd Try.prog (WS.at w50) (zeb_ 33 [(1, t49)]) fun t51 =>
     Do Try.prog (zh_ 27 2 [(0, (.int .i64 (-2))), (1, (.int .i64 1))]) (fun t52 w53 =>
     Rd Try.prog (WS.at w53) (zeb_ 33 [(0, (.int .i64 1)), (1, t52)]) fun t54 =>
     Do Try.prog (zh_ 27 1 [(0, (.int .i64 (-2)))]) (fun t55 w56 =>
     Rd Try.prog (WS.at w56) (zeb_ 33 [(0, (.int .i64 1)), (1, t55)]) fun t57 =>
     Rd Try.prog (WS.at w56) (zeb_ 33 [(0, (.int .i64 1))]) fun t58 =>
     Do Try.prog (zh_ 24 4 [(0, t51), (1, t54), (2, t57), (3, t58)]) (fun t59 w60 =>
     Rd Try.prog (WS.at w60) (zeb_ 26 [(0, (.int .i64 2)), (1, (.int .i64 2)), (2, t59)]) fun t61 =>
     Do Try.prog (zx_ 26 t1 t61) (fun _ w62 =>
     Rd Try.prog (WS.at w62) (zac_ 26 t1) fun t63 => k t63 w62) w60) w56) w53) w50) w4)
     (Rd Try.prog (WS.at w4) (sBin .eql 3 true t3 (.int .i64 4)) fun t64 =>
     zi_ t64
      (Do Try.prog (zh_ 27 1 [(0, (.int .i64 0))]) (fun t65 w66 =>
      Rd Try.prog (WS.at w66) (zeb_ 33 [(1, t65)]) fun t67 =>
      Do Try.prog (zh_ 27 1 [(0, (.int .i64 1))]) (fun t68 w69 =>
      Rd Try.prog (WS.at w69) (zeb_ 33 [(1, t68)]) fun t70 =>
      Do Try.prog (zh_ 27 2 [(0, (.int .i64 0)), (1, (.int .i64 1))]) (fun t71 w72 =>
      Rd Try.prog (WS.at w72) (zeb_ 33 [(0, (.int .i64 1)), (1, t71)]) fun t73 =>
      Do Try.prog (zh_ 27 1 [(0, (.int .i64 (-1)))]) (fun t74 w75 =>
      Rd Try.prog (WS.at w75) (zeb_ 33 [(0, (.int .i64 1)), (1, t74)]) fun t76 =>
      Rd Try.prog (WS.at w75) (zeb_ 33 [(0, (.int .i64 1))]) fun t77 =>
      Do Try.prog (zh_ 24 5 [(0, t67), (1, t70), (2, t73), (3, t76), (4, t77)]) (fun t78 w79 =>
      Rd Try.prog (WS.at w79) (zeb_ 26 [(0, (.int .i64 2)), (1, (.int .i64 1)), (2, t78)]) fun t80 =>
      Do Try.prog (zx_ 26 t1 t80) (fun _ w81 =>
      Rd Try.prog (WS.at w81) (zac_ 26 t1) fun t82 => k t82 w81) w79) w75) w72) w69) w66) w4)
      (Rd Try.prog (WS.at w4) (sBin .eql 3 true t3 (.int .i64 5)) fun t83 =>
      zi_ t83
       (Do Try.prog (zh_ 27 3 [(0, (.int .i64 (-1))), (1, (.int .i64 0)), (2, (.int .i64 (-1)))]) (fun t84 w85 =>
       Rd Try.prog (WS.at w85) (zeb_ 33 [(1, t84)]) fun t86 =>
       Do Try.prog (zh_ 27 3 [(0, (.int .i64 (-2))), (1, (.int .i64 0)), (2, (.int .i64 (-2)))]) (fun t87 w88 =>
       Rd Try.prog (WS.at w88) (zeb_ 33 [(1, t87)]) fun t89 =>
       Do Try.prog (zh_ 27 1 [(0, (.int .i64 (-1)))]) (fun t90 w91 =>
       Rd Try.prog (WS.at w91) (zeb_ 33 [(1, t90)]) fun t92 =>
       Do Try.prog (zh_ 27 1 [(0, (.int .i64 (-2)))]) (fun t93 w94 =>
       Rd Try.prog (WS.at w94) (zeb_ 33 [(1, t93)]) fun t95 =>
       Rd Try.prog (WS.at w94) (zeb_ 33 []) fun t96 =>
       Do Try.prog (zh_ 24 5 [(0, t86), (1, t89), (2, t92), (3, t95), (4, t96)]) (fun t97 w98 =>
       Rd Try.prog (WS.at w98) (zeb_ 26 [(0, (.int .i64 1)), (1, (.int .i64 2)), (2, t97)]) fun t99 =>
       Do Try.prog (zx_ 26 t1 t99) (fun _ w100 =>
       Rd Try.prog (WS.at w100) (zac_ 26 t1) fun t101 => k t101 w100) w98) w94) w91) w88) w85) w4)
       (Rd Try.prog (WS.at w4) (sBin .eql 3 true t3 (.int .i64 6)) fun t102 =>
       zi_ t102
        (Do Try.prog (zh_ 27 2 [(0, (.int .i64 1)), (1, (.int .i64 2))]) (fun t103 w104 =>
        Rd Try.prog (WS.at w104) (zeb_ 33 [(1, t103)]) fun t105 =>
        Do Try.prog (zh_ 27 2 [(0, (.int .i64 (-1))), (1, (.int .i64 1))]) (fun t106 w107 =>
        Rd Try.prog (WS.at w107) (zeb_ 33 [(0, (.int .i64 1)), (1, t106)]) fun t108 =>
        Rd Try.prog (WS.at w107) (zeb_ 33 [(0, (.int .i64 1))]) fun t109 =>
        Do Try.prog (zh_ 27 2 [(0, (.int .i64 (-2))), (1, (.int .i64 2))]) (fun t110 w111 =>
        Rd Try.prog (WS.at w111) (zeb_ 33 [(0, (.int .i64 2)), (1, t110)]) fun t112 =>
        Rd Try.prog (WS.at w111) (zeb_ 33 [(0, (.int .i64 2))]) fun t113 =>
        Do Try.prog (zh_ 24 5 [(0, t105), (1, t108), (2, t109), (3, t112), (4, t113)]) (fun t114 w115 =>
        Rd Try.prog (WS.at w115) (zeb_ 26 [(0, (.int .i64 3)), (1, (.int .i64 2)), (2, t114)]) fun t116 =>
        Do Try.prog (zx_ 26 t1 t116) (fun _ w117 =>
        Rd Try.prog (WS.at w117) (zac_ 26 t1) fun t118 => k t118 w117) w115) w111) w107) w104) w4)
        (Do Try.prog (zh_ 27 2 [(0, (.int .i64 0)), (1, (.int .i64 0))]) (fun t119 w120 =>
        Rd Try.prog (WS.at w120) (zeb_ 33 [(1, t119)]) fun t121 =>
        Do Try.prog (zh_ 27 1 [(0, (.int .i64 (-1)))]) (fun t122 w123 =>
        Rd Try.prog (WS.at w123) (zeb_ 33 [(1, t122)]) fun t124 =>
        Do Try.prog (zh_ 27 2 [(0, (.int .i64 (-2))), (1, (.int .i64 1))]) (fun t125 w126 =>
        Rd Try.prog (WS.at w126) (zeb_ 33 [(0, (.int .i64 1)), (1, t125)]) fun t127 =>
        Do Try.prog (zh_ 24 3 [(0, t121), (1, t124), (2, t127)]) (fun t128 w129 =>
        Rd Try.prog (WS.at w129) (zeb_ 26 [(0, (.int .i64 2)), (1, (.int .i64 2)), (2, t128)]) fun t130 =>
        Do Try.prog (zx_ 26 t1 t130) (fun _ w131 =>
        Rd Try.prog (WS.at w131) (zac_ 26 t1) fun t132 => k t132 w131) w129) w126) w123) w120) w4)))))))) w2) w
theorem body303 : Try.f303.body = some (zg_ Try.f303) := by kernel_rfl
theorem same303 (v0 : Value) (k : Value → World → Prop) (w : World) : wpF Try.prog pl303 (zg_ Try.f303) (zr_ Try.prog Try.f303.results.toList k) (zm_ [v0]) w = S303 v0 k w := by kernel_rfl
theorem enter303 {v0 : Value} {k : Value → World → Prop} {w : World} (h : S303 v0 k w) : CallK Try.prog 303 [v0] k w :=
  call_of_wpF (pl := pl303) zab_ Try.func303 body303 (by kernel_rfl) (of_decide_eq_true (by kernel_rfl)) (by kernel_rfl) (by kernel_rfl) (Eq.mpr (same303 v0 k w) h)

def pl304 : Plans := fun _ => ⟨false, [], .nil⟩
def S304 (v0 v1 : Value) (k : Value → World → Prop) (w : World) : Prop :=
 Do Try.prog (sBox 33 v1) (fun t1 w2 =>
 Rd Try.prog (WS.at w2) (ze_ .len #[24] 3 [false] [v0]) fun t3 =>
 zfb_ [10, 11, 12, 6, 13, 14, 15, 16, 4, 17, 9] (fun Q4 f5 w6 =>
  Rd Try.prog (WS.at w6) (sBin .lss 3 false (f5 9) (f5 8)) fun t7 =>
  zi_ t7
   (Rd Try.prog (WS.at w6) (zd_ 24 (f5 7) (f5 9)) fun t8 =>
   Rd Try.prog (WS.at w6) (zc_ 33 t8) fun t9 =>
   Do Try.prog (zvb_ 33) (fun t10 w11 =>
   Do Try.prog (zx_ 33 t10 t9) (fun _ w12 =>
   Rd Try.prog (WS.at w12) (zc_ 33 (f5 3)) fun t13 =>
   Rd Try.prog (WS.at w12) (zc_ 33 t10) fun t14 =>
   CallK Try.prog 239 [t13, t14] (fun t15 w16 =>
   zi_ t15
    (Q4 .ret (F.upd (F.upd (F.upd (F.upd (F.upd (F.upd (F.upd (F.upd (F.upd f5 10 t7) 11 t8) 12 t9) 6 t10) 13 t13) 14 t14) 15 t15) 16 (f5 0)) 4 (f5 0)) w16)
    (Rd Try.prog (WS.at w16) (sBin .add 3 true (f5 9) (.int .i64 1)) fun t17 =>
    Q4 .normal (F.upd (F.upd (F.upd (F.upd (F.upd (F.upd (F.upd (F.upd (F.upd f5 10 t7) 11 t8) 12 t9) 6 t10) 13 t13) 14 t14) 15 t15) 17 t17) 9 t17) w16)) w12) w11) w6)
   (Q4 (.exit 0) (F.upd f5 10 t7) w6))
  (zt_ 0 (seqQ (fun f18 w19 =>
 Rd Try.prog (WS.at w19) (zc_ 33 (f18 3)) fun t20 =>
 Do Try.prog (zh_ 24 1 [(0, t20)]) (fun t21 w22 =>
 Do Try.prog (ze_ .append #[24, 24] 24 [false, false] [(f18 0), t21]) (fun t23 w24 =>
 k t23 w24) w22) w19) (zr_ Try.prog [.tmp 4] k)))
  (F.upd (F.upd (F.upd (F.upd (F.upd (zm_ [v0, v1]) 3 t1) 4 (.slice none 0 0)) 7 v0) 8 t3) 9 (.int .i64 0)) w2) w
theorem body304 : Try.f304.body = some (zg_ Try.f304) := by kernel_rfl
theorem same304 (v0 v1 : Value) (k : Value → World → Prop) (w : World) : wpF Try.prog pl304 (zg_ Try.f304) (zr_ Try.prog Try.f304.results.toList k) (zm_ [v0, v1]) w = S304 v0 v1 k w := by kernel_rfl
theorem enter304 {v0 v1 : Value} {k : Value → World → Prop} {w : World} (h : S304 v0 v1 k w) : CallK Try.prog 304 [v0, v1] k w :=
  call_of_wpF (pl := pl304) zab_ Try.func304 body304 (by kernel_rfl) (of_decide_eq_true (by kernel_rfl)) (by kernel_rfl) (by kernel_rfl) (Eq.mpr (same304 v0 v1 k w) h)

def pl246 : Plans := fun _ => ⟨false, [], .nil⟩
def S246 (v0 : Value) (k : Value → World → Prop) (w : World) : Prop :=
 Do Try.prog (zvb_ 26) (fun t1 w2 =>
 CallK Try.prog 176 [v0, (.int .i64 2)] (fun t3 w4 =>
 zi_ t3
  (CallK Try.prog 303 [v0] (fun t5 w6 =>
  Do Try.prog (zx_ 26 t1 t5) (fun _ w7 =>
  Rd Try.prog (WS.at w7) (zac_ 26 t1) fun t8 => k t8 w7) w6) w4)
  (CallK Try.prog 146 [v0, (.int .i64 3)] (fun t9 w10 =>
  Rd Try.prog (WS.at w10) (sBin .add 3 true (.int .i64 1) t9) fun t11 =>
  CallK Try.prog 146 [v0, (.int .i64 2)] (fun t12 w13 =>
  Rd Try.prog (WS.at w13) (sBin .add 3 true (.int .i64 1) t12) fun t14 =>
  Rd Try.prog (WS.at w13) (zeb_ 26 [(0, t11), (1, t14)]) fun t15 =>
  Do Try.prog (zvb_ 26) (fun t16 w17 =>
  Do Try.prog (zx_ 26 t16 t15) (fun _ w18 =>
  CallK Try.prog 146 [v0, (.int .i64 6)] (fun t19 w20 =>
  Rd Try.prog (WS.at w20) (sBin .add 3 true (.int .i64 1) t19) fun t21 =>
  zfb_ [22, 23, 26, 27, 28, 29, 30, 5, 31, 32, 6, 33, 34, 37, 38, 39, 40, 7, 41, 42, 43, 44, 45, 46, 47, 7, 48, 49, 50, 51, 52, 53, 35, 36, 6, 54, 55, 56, 57, 58, 24, 25, 4] (fun Q22 f23 w24 =>
   Rd Try.prog (WS.at w24) (sBin .gtr 3 true (f23 4) (.int .i64 0)) fun t25 =>
   zi_ t25
    (Rd Try.prog (WS.at w24) (zb_ 26 (f23 3) 0) fun t26 =>
    Rd Try.prog (WS.at w24) (zc_ 3 t26) fun t27 =>
    CallK Try.prog 146 [(f23 0), t27] (fun t28 w29 =>
    Rd Try.prog (WS.at w29) (zeb_ 33 [(0, t28)]) fun t30 =>
    Do Try.prog (zvb_ 33) (fun t31 w32 =>
    Do Try.prog (zx_ 33 t31 t30) (fun _ w33 =>
    CallK Try.prog 146 [(f23 0), (.int .i64 4)] (fun t34 w35 =>
    zfb_ [33, 34, 37, 38, 39, 40, 7, 41, 42, 43, 44, 45, 46, 47, 7, 48, 49, 50, 51, 52, 53, 35, 36, 6] (fun Q36 f37 w38 =>
     Rd Try.prog (WS.at w38) (sBin .gtr 3 true (f37 6) (.int .i64 0)) fun t39 =>
     zi_ t39
      (Join (fun K40 =>
      Rd Try.prog (WS.at w38) (zb_ 26 (f37 3) 0) fun t43 =>
      Rd Try.prog (WS.at w38) (zc_ 3 t43) fun t44 =>
      CallK Try.prog 146 [(f37 0), t44] (fun t45 w46 =>
      Join (fun K47 =>
      CallK Try.prog 176 [(f37 0), (.int .i64 2)] (fun t50 w51 =>
      zi_ t50
       (Rd Try.prog (WS.at w51) (zb_ 26 (f37 3) 1) fun t52 =>
       Rd Try.prog (WS.at w51) (zc_ 3 t52) fun t53 =>
       CallK Try.prog 146 [(f37 0), t53] (fun t54 w55 =>
       Rd Try.prog (WS.at w55) (sBin .sub 3 true (.int .i64 (-1)) t54) fun t56 =>
       K47 (F.upd (F.upd (F.upd (F.upd (F.upd (F.upd (F.upd (F.upd (F.upd (F.upd (F.upd (F.upd (F.upd (F.upd (F.upd f37 33 (f37 6)) 34 t39) 37 (f37 0)) 38 t43) 39 t44) 40 t45) 7 t45) 41 (f37 0)) 42 t50) 43 (f37 0)) 44 t52) 45 t53) 46 t54) 47 t56) 7 t56) w55) w51)
       (K47 (F.upd (F.upd (F.upd (F.upd (F.upd (F.upd (F.upd (F.upd (F.upd f37 33 (f37 6)) 34 t39) 37 (f37 0)) 38 t43) 39 t44) 40 t45) 7 t45) 41 (f37 0)) 42 t50) w51)) w46) (fun f48 w49 =>
      Rd Try.prog (WS.at w49) (zb_ 33 (f48 5) 1) fun t57 =>
      Rd Try.prog (WS.at w49) (zc_ 27 t57) fun t58 =>
      Do Try.prog (zh_ 27 1 [(0, (f48 7))]) (fun t59 w60 =>
      Do Try.prog (ze_ .append #[27, 27] 27 [false, false] [t58, t59]) (fun t61 w62 =>
      Rd Try.prog (WS.at w62) (zb_ 33 (f48 5) 1) fun t63 =>
      Do Try.prog (zx_ 27 t63 t61) (fun _ w64 =>
      K40 (F.upd (F.upd (F.upd (F.upd (F.upd (F.upd f48 48 t57) 49 t58) 50 (f48 7)) 51 t59) 52 t61) 53 t63) w64) w62) w60) w49)) w38) (fun f41 w42 =>
      Rd Try.prog (WS.at w42) (sBin .sub 3 true (f41 6) (.int .i64 1)) fun t65 =>
      Q36 .normal (F.upd (F.upd (F.upd f41 35 (f41 6)) 36 t65) 6 t65) w42))
      (Q36 (.exit 2) (F.upd (F.upd f37 33 (f37 6)) 34 t39) w38))
     (zt_ 2 (seqQ (fun f66 w67 =>
    Rd Try.prog (WS.at w67) (zb_ 26 (f66 3) 2) fun t68 =>
    Rd Try.prog (WS.at w67) (zc_ 24 t68) fun t69 =>
    Rd Try.prog (WS.at w67) (zc_ 33 (f66 5)) fun t70 =>
    CallK Try.prog 304 [t69, t70] (fun t71 w72 =>
    Rd Try.prog (WS.at w72) (zb_ 26 (f66 3) 2) fun t73 =>
    Do Try.prog (zx_ 24 t73 t71) (fun _ w74 =>
    Rd Try.prog (WS.at w74) (sBin .sub 3 true (f66 4) (.int .i64 1)) fun t75 =>
    Q22 .normal (F.upd (F.upd (F.upd (F.upd (F.upd (F.upd (F.upd (F.upd f66 54 t68) 55 t69) 56 t70) 57 t71) 58 t73) 24 (f66 4)) 25 t75) 4 t75) w74) w72) w67) (zt_ 1 (seqQ (fun f76 w77 =>
    Rd Try.prog (WS.at w77) (sBin .sub 3 true (f76 4) (.int .i64 1)) fun t78 =>
    Q22 .normal (F.upd (F.upd (F.upd f76 24 (f76 4)) 25 t78) 4 t78) w77) Q22))))
     (F.upd (F.upd (F.upd (F.upd (F.upd (F.upd (F.upd (F.upd (F.upd (F.upd (F.upd f23 22 (f23 4)) 23 t25) 26 (f23 0)) 27 t26) 28 t27) 29 t28) 30 t30) 5 t31) 31 (f23 0)) 32 t34) 6 t34) w35) w33) w32) w29) w24)
    (Q22 (.exit 0) (F.upd (F.upd f23 22 (f23 4)) 23 t25) w24))
   (zt_ 0 (seqQ (fun f79 w80 =>
  Rd Try.prog (WS.at w80) (zc_ 26 (f79 3)) fun t81 =>
  Do Try.prog (zx_ 26 (f79 2) t81) (fun _ w82 =>
  Rd Try.prog (WS.at w82) (zac_ 26 (f79 2)) fun t83 => k t83 w82) w80) (zr_ Try.prog [.cell 2 26] k)))
   (F.upd (F.upd (F.upd (F.upd (F.upd (F.upd (F.upd (F.upd (F.upd (F.upd (F.upd (F.upd (F.upd (F.upd (F.upd (zm_ [v0]) 2 t1) 8 v0) 9 t3) 12 v0) 13 t9) 14 t11) 15 v0) 16 t12) 17 t14) 18 t15) 3 t16) 19 v0) 20 t19) 21 t21) 4 t21) w20) w18) w17) w13) w10) w4)) w2) w
theorem body246 : Try.f246.body = some (zg_ Try.f246) := by kernel_rfl
theorem same246 (v0 : Value) (k : Value → World → Prop) (w : World) : wpF Try.prog pl246 (zg_ Try.f246) (zr_ Try.prog Try.f246.results.toList k) (zm_ [v0]) w = S246 v0 k w := by kernel_rfl
theorem enter246 {v0 : Value} {k : Value → World → Prop} {w : World} (h : S246 v0 k w) : CallK Try.prog 246 [v0] k w :=
  call_of_wpF (pl := pl246) zab_ Try.func246 body246 (by kernel_rfl) (of_decide_eq_true (by kernel_rfl)) (by kernel_rfl) (by kernel_rfl) (Eq.mpr (same246 v0 k w) h)

def pl145 : Plans := fun i => match i with
  | 8 => ⟨true, [7, 9], .step 0 .any (.step 1 .held (.step 2 .any (.step 3 .held (.step 4 .any (.step 5 .held (.step 6 .one (.step 7 .last (.step 8 .any (.step 9 .last (.nil))))))))))⟩
  | 10 => ⟨true, [7], .step 0 .any (.step 1 .held (.step 2 .any (.step 3 .one (.step 4 .any (.step 5 .any (.step 6 .any (.step 7 .last (.nil))))))))⟩
  | _ => ⟨false, [], .nil⟩
def S145 (v0 : Value) (k : Value → World → Prop) (w : World) : Prop :=
 Do Try.prog (zvb_ 26) (fun t1 w2 =>
 CallK Try.prog 246 [v0] (fun t3 w4 =>
 Do Try.prog (zvb_ 26) (fun t5 w6 =>
 Do Try.prog (zx_ 26 t5 t3) (fun _ w7 =>
 Join (fun K8 =>
 CallK Try.prog 146 [v0, (.int .i64 40)] (fun t11 w12 =>
 Rd Try.prog (WS.at w12) (sBin .eql 3 true t11 (.int .i64 0)) fun t13 =>
 zi_ t13
  (Do Try.prog (zh_ 27 3 [(0, (.int .i64 0)), (1, (.int .i64 6)), (2, (.int .i64 7))]) (fun t14 w15 =>
  CallK Try.prog 156 [v0, t14] (fun t16 w17 =>
  Rd Try.prog (WS.at w17) (zb_ 26 t5 0) fun t18 =>
  Do Try.prog (zx_ 3 t18 t16) (fun _ w19 =>
  K8 (F.upd (F.upd (F.upd (F.upd (F.upd (F.upd (F.upd (F.upd (F.upd (F.upd (F.upd (F.upd (zm_ [v0]) 2 t1) 4 v0) 5 t3) 3 t5) 6 v0) 7 t11) 9 t13) 8 t13) 10 v0) 11 t14) 12 t16) 13 t18) w19) w17) w15) w12)
  (Rd Try.prog (WS.at w12) (sBin .eql 3 true t11 (.int .i64 1)) fun t20 =>
  zi_ t20
   (Do Try.prog (zh_ 27 3 [(0, (.int .i64 0)), (1, (.int .i64 4)), (2, (.int .i64 5))]) (fun t21 w22 =>
   CallK Try.prog 156 [v0, t21] (fun t23 w24 =>
   Rd Try.prog (WS.at w24) (zb_ 26 t5 1) fun t25 =>
   Do Try.prog (zx_ 3 t25 t23) (fun _ w26 =>
   K8 (F.upd (F.upd (F.upd (F.upd (F.upd (F.upd (F.upd (F.upd (F.upd (F.upd (F.upd (F.upd (F.upd (F.upd (zm_ [v0]) 2 t1) 4 v0) 5 t3) 3 t5) 6 v0) 7 t11) 9 t13) 8 t13) 15 t20) 14 t20) 16 v0) 17 t21) 18 t23) 19 t25) w26) w24) w22) w12)
   (Rd Try.prog (WS.at w12) (sBin .eql 3 true t11 (.int .i64 2)) fun t27 =>
   zi_ t27
    (∃ U28 : World → Prop, ∃ h29 : U28 w12.drew,
    Rd Try.prog WS.any (zb_ 26 t5 2) fun t30 =>
    Rd Try.prog ⟨U28, w12.drew, h29⟩ (zc_ 24 t30) fun t31 =>
    Rd Try.prog WS.any (zb_ 26 t5 2) fun t32 =>
    Rd Try.prog ⟨U28, w12.drew, h29⟩ (zc_ 24 t32) fun t33 =>
    Rd Try.prog WS.any (zd_ 24 t33 (.int .i64 0)) fun t34 =>
    Rd Try.prog ⟨U28, w12.drew, h29⟩ (zc_ 33 t34) fun t35 =>
    Do Try.prog (zh_ 24 1 [(0, t35)]) (fun t36 w37 =>
    U28 w37 ∧ Do Try.prog (ze_ .append #[24, 24] 24 [false, false] [t31, t36]) (fun t38 w39 =>
    Rd Try.prog WS.any (zb_ 26 t5 2) fun t40 =>
    Do Try.prog (zx_ 24 t40 t38) (fun _ w41 =>
    K8 (F.upd (F.upd (F.upd (F.upd (F.upd (F.upd (F.upd (F.upd (F.upd (F.upd (F.upd (F.upd (F.upd (F.upd (F.upd (F.upd (F.upd (F.upd (F.upd (F.upd (F.upd (zm_ [v0]) 2 t1) 4 v0) 5 t3) 3 t5) 6 v0) 7 t11) 9 t13) 8 t13) 15 t20) 14 t20) 21 t27) 20 t27) 22 t30) 23 t31) 24 t32) 25 t33) 26 t34) 27 t35) 28 t36) 29 t38) 30 t40) w41) w39) w37) w12.drew)
    (Rd Try.prog (WS.at w12) (sBin .eql 3 true t11 (.int .i64 3)) fun t42 =>
    zi_ t42
     (∃ U43 : World → Prop, ∃ h44 : U43 w12.drew,
     Rd Try.prog WS.any (zb_ 26 t5 2) fun t45 =>
     Rd Try.prog ⟨U43, w12.drew, h44⟩ (zc_ 24 t45) fun t46 =>
     CallK Try.prog 146 [v0, (.int .i64 8)] (fun t47 w48 =>
     U43 w48 ∧ Rd Try.prog WS.any (sBin .sub 3 true t47 (.int .i64 1)) fun t49 =>
     Rd Try.prog WS.any (zd_ 24 t46 (.int .i64 0)) fun t50 =>
     Rd Try.prog WS.any (zb_ 33 t50 0) fun t51 =>
     Do Try.prog (zx_ 3 t51 t49) (fun _ w52 =>
     K8 (F.upd (F.upd (F.upd (F.upd (F.upd (F.upd (F.upd (F.upd (F.upd (F.upd (F.upd (F.upd (F.upd (F.upd (F.upd (F.upd (F.upd (F.upd (F.upd (F.upd (F.upd (zm_ [v0]) 2 t1) 4 v0) 5 t3) 3 t5) 6 v0) 7 t11) 9 t13) 8 t13) 15 t20) 14 t20) 21 t27) 20 t27) 32 t42) 31 t42) 33 t45) 34 t46) 35 v0) 36 t47) 37 t49) 38 t50) 39 t51) w52) w48) w12.drew)
     (K8 (F.upd (F.upd (F.upd (F.upd (F.upd (F.upd (F.upd (F.upd (F.upd (F.upd (F.upd (F.upd (F.upd (F.upd (zm_ [v0]) 2 t1) 4 v0) 5 t3) 3 t5) 6 v0) 7 t11) 9 t13) 8 t13) 15 t20) 14 t20) 21 t27) 20 t27) 32 t42) 31 t42) w12))))) w7) (fun f9 w10 =>
 Rd Try.prog (WS.at w10) (zc_ 26 (f9 3)) fun t53 =>
 Do Try.prog (zx_ 26 (f9 2) t53) (fun _ w54 =>
 Rd Try.prog (WS.at w54) (zac_ 26 (f9 2)) fun t55 => k t55 w54) w10)) w6) w4) w2) w
theorem body145 : Try.f145.body = some (zg_ Try.f145) := by kernel_rfl
theorem same145 (v0 : Value) (k : Value → World → Prop) (w : World) : wpF Try.prog pl145 (zg_ Try.f145) (zr_ Try.prog Try.f145.results.toList k) (zm_ [v0]) w = S145 v0 k w := by kernel_rfl
theorem enter145 {v0 : Value} {k : Value → World → Prop} {w : World} (h : S145 v0 k w) : CallK Try.prog 145 [v0] k w :=
  call_of_wpF (pl := pl145) zab_ Try.func145 body145 (by kernel_rfl) (of_decide_eq_true (by kernel_rfl)) (by kernel_rfl) (by kernel_rfl) (Eq.mpr (same145 v0 k w) h)

def pl218 : Plans := fun _ => ⟨false, [], .nil⟩
def S218 (v0 v1 v2 : Value) (k : Value → World → Prop) (w : World) : Prop :=
 Do Try.prog (sBox 26 v1) (fun t1 w2 =>
 Rd Try.prog (WS.at w2) (sBin .add 3 true v2 (.int .i64 1)) fun t3 =>
 CallK Try.prog 146 [v0, t3] (fun t4 w5 =>
 zfb_ [13, 14, 17, 18, 19, 20, 21, 22, 23, 24, 7, 15, 16, 8] (fun Q6 f7 w8 =>
  Rd Try.prog (WS.at w8) (sBin .gtr 3 true (f7 8) (.int .i64 0)) fun t9 =>
  zi_ t9
   (Rd Try.prog (WS.at w8) (zb_ 26 (f7 4) 1) fun t10 =>
   Rd Try.prog (WS.at w8) (zc_ 3 t10) fun t11 =>
   CallK Try.prog 159 [(.int .i64 1), t11] (fun t12 w13 =>
   CallK Try.prog 146 [(f7 0), t12] (fun t14 w15 =>
   Do Try.prog (zh_ 27 1 [(0, t14)]) (fun t16 w17 =>
   Do Try.prog (ze_ .append #[27, 27] 27 [false, false] [(f7 7), t16]) (fun t18 w19 =>
   Rd Try.prog (WS.at w19) (sBin .sub 3 true (f7 8) (.int .i64 1)) fun t20 =>
   Q6 .normal (F.upd (F.upd (F.upd (F.upd (F.upd (F.upd (F.upd (F.upd (F.upd (F.upd (F.upd (F.upd (F.upd (F.upd f7 13 (f7 8)) 14 t9) 17 (f7 7)) 18 (f7 0)) 19 t10) 20 t11) 21 t12) 22 t14) 23 t16) 24 t18) 7 t18) 15 (f7 8)) 16 t20) 8 t20) w19) w17) w15) w13) w8)
   (Q6 (.exit 0) (F.upd (F.upd f7 13 (f7 8)) 14 t9) w8))
  (zt_ 0 (seqQ (fun f21 w22 =>
 Join (fun K23 =>
 Rd Try.prog (WS.at w22) (ze_ .len #[27] 3 [false] [(f21 7)]) fun t26 =>
 Rd Try.prog (WS.at w22) (sBin .gtr 3 true t26 (.int .i64 0)) fun t27 =>
 za_ t27 true (fun k w' => k (f21 0) w') (fun t28 w29 =>
 za_ t27 true (fun k w' => CallK Try.prog 176 [t28, (.int .i64 60)] k w') (fun t30 w31 =>
 Rd Try.prog (WS.at w31) (zw_ t27 t30 (.bool false)) fun t32 =>
 zi_ t32
  (Do Try.prog (zh_ 27 2 [(0, (.int .i64 (-1))), (1, (.int .i64 4))]) (fun t33 w34 =>
  CallK Try.prog 156 [(f21 0), t33] (fun t35 w36 =>
  Rd Try.prog (WS.at w36) (zd_ 27 (f21 7) (.int .i64 0)) fun t37 =>
  Do Try.prog (zx_ 3 t37 t35) (fun _ w38 =>
  K23 (F.upd (F.upd (F.upd (F.upd (F.upd (F.upd (F.upd (F.upd (F.upd (F.upd (F.upd (F.upd f21 25 (f21 7)) 26 t26) 27 t27) 28 t27) 29 t28) 30 t30) 31 t32) 32 (f21 7)) 33 (f21 0)) 34 t33) 35 t35) 36 t37) w38) w36) w34) w31)
  (K23 (F.upd (F.upd (F.upd (F.upd (F.upd (F.upd (F.upd f21 25 (f21 7)) 26 t26) 27 t27) 28 t27) 29 t28) 30 t30) 31 t32) w31)) w29) w22) (fun f24 w25 =>
 k (f24 7) w25)) (zr_ Try.prog [.tmp 6] k)))
  (F.upd (F.upd (F.upd (F.upd (F.upd (F.upd (F.upd (F.upd (zm_ [v0, v1, v2]) 4 t1) 6 (.slice none 0 0)) 7 (.slice none 0 0)) 9 v0) 10 v2) 11 t3) 12 t4) 8 t4) w5) w2) w
theorem body218 : Try.f218.body = some (zg_ Try.f218) := by kernel_rfl
theorem same218 (v0 v1 v2 : Value) (k : Value → World → Prop) (w : World) : wpF Try.prog pl218 (zg_ Try.f218) (zr_ Try.prog Try.f218.results.toList k) (zm_ [v0, v1, v2]) w = S218 v0 v1 v2 k w := by kernel_rfl
theorem enter218 {v0 v1 v2 : Value} {k : Value → World → Prop} {w : World} (h : S218 v0 v1 v2 k w) : CallK Try.prog 218 [v0, v1, v2] k w :=
  call_of_wpF (pl := pl218) zab_ Try.func218 body218 (by kernel_rfl) (of_decide_eq_true (by kernel_rfl)) (by kernel_rfl) (by kernel_rfl) (Eq.mpr (same218 v0 v1 v2 k w) h)

def pl147 : Plans := fun _ => ⟨false, [], .nil⟩
def S147 (v0 v1 : Value) (k : Value → World → Prop) (w : World) : Prop :=
 Do Try.prog (sBox 26 v1) (fun t1 w2 =>
 Rd Try.prog (WS.at w2) (zc_ 26 t1) fun t3 =>
 CallK Try.prog 24 [t3, (.int .i64 3)] (fun t4 w5 =>
 Rd Try.prog (WS.at w5) (zk_ t4 0) fun t6 =>
 Rd Try.prog (WS.at w5) (zk_ t4 1) fun t7 =>
 za_ t7 true (fun k w' => k t6 w') (fun t8 w9 =>
 za_ t7 true (fun k w' => Rd Try.prog (WS.at w9) (ze_ .len #[35] 3 [false] [t8]) fun v => k v w') (fun t10 w11 =>
 za_ t7 true (fun k w' => Rd Try.prog (WS.at w11) (sBin .gtr 3 true t10 (.int .i64 0)) fun v => k v w') (fun t12 w13 =>
 Rd Try.prog (WS.at w13) (zw_ t7 t12 (.bool false)) fun t14 =>
 za_ t14 true (fun k w' => k v0 w') (fun t15 w16 =>
 za_ t14 true (fun k w' => CallK Try.prog 176 [t15, (.int .i64 2)] k w') (fun t17 w18 =>
 Rd Try.prog (WS.at w18) (zw_ t14 t17 (.bool false)) fun t19 =>
 zi_ t19
  (Rd Try.prog (WS.at w18) (ze_ .len #[35] 3 [false] [t6]) fun t20 =>
  CallK Try.prog 146 [v0, t20] (fun t21 w22 =>
  Rd Try.prog (WS.at w22) (zd_ 35 t6 t21) fun t23 =>
  Rd Try.prog (WS.at w22) (zc_ 27 t23) fun t24 =>
  CallK Try.prog 158 [t24] (fun t25 w26 =>
  Join (fun K27 =>
  CallK Try.prog 176 [v0, (.int .i64 3)] (fun t30 w31 =>
  zi_ t30
   (Do Try.prog (ze_ .append #[27, 27] 27 [false, false] [t25, t25]) (fun t32 w33 =>
   K27 (F.upd (F.upd (F.upd (F.upd (F.upd (F.upd (F.upd (F.upd (F.upd (F.upd (F.upd (F.upd (F.upd (F.upd (F.upd (F.upd (F.upd (F.upd (F.upd (F.upd (F.upd (F.upd (F.upd (F.upd (F.upd (F.upd (F.upd (F.upd (F.upd (F.upd (F.upd (F.upd (F.upd (F.upd (zm_ [v0, v1]) 3 t1) 4 (.slice none 0 0)) 9 t3) 10 t4) 8 t4) 11 t6) 12 t7) 5 t6) 6 t7) 13 t7) 14 t7) 15 t8) 16 t10) 17 t12) 18 t14) 19 t14) 20 t15) 21 t17) 22 t19) 23 t6) 24 v0) 25 t6) 26 t20) 27 t21) 28 t23) 29 t24) 30 t25) 7 t25) 31 v0) 32 t30) 33 t25) 34 t25) 35 t32) 7 t32) w33) w31)
   (K27 (F.upd (F.upd (F.upd (F.upd (F.upd (F.upd (F.upd (F.upd (F.upd (F.upd (F.upd (F.upd (F.upd (F.upd (F.upd (F.upd (F.upd (F.upd (F.upd (F.upd (F.upd (F.upd (F.upd (F.upd (F.upd (F.upd (F.upd (F.upd (F.upd (F.upd (zm_ [v0, v1]) 3 t1) 4 (.slice none 0 0)) 9 t3) 10 t4) 8 t4) 11 t6) 12 t7) 5 t6) 6 t7) 13 t7) 14 t7) 15 t8) 16 t10) 17 t12) 18 t14) 19 t14) 20 t15) 21 t17) 22 t19) 23 t6) 24 v0) 25 t6) 26 t20) 27 t21) 28 t23) 29 t24) 30 t25) 7 t25) 31 v0) 32 t30) w31)) w26) (fun f28 w29 =>
  k (f28 7) w29)) w22) w18)
  (Rd Try.prog (WS.at w18) (zc_ 26 t1) fun t34 =>
  CallK Try.prog 218 [v0, t34, (.int .i64 5)] (fun t35 w36 =>
  k t35 w36) w18)) w16) w13) w11) w9) w5) w2) w
theorem body147 : Try.f147.body = some (zg_ Try.f147) := by kernel_rfl
theorem same147 (v0 v1 : Value) (k : Value → World → Prop) (w : World) : wpF Try.prog pl147 (zg_ Try.f147) (zr_ Try.prog Try.f147.results.toList k) (zm_ [v0, v1]) w = S147 v0 v1 k w := by kernel_rfl
theorem enter147 {v0 v1 : Value} {k : Value → World → Prop} {w : World} (h : S147 v0 v1 k w) : CallK Try.prog 147 [v0, v1] k w :=
  call_of_wpF (pl := pl147) zab_ Try.func147 body147 (by kernel_rfl) (of_decide_eq_true (by kernel_rfl)) (by kernel_rfl) (by kernel_rfl) (Eq.mpr (same147 v0 v1 k w) h)

open Go Go.Sh Go.RowKit
abbrev TC : Nat := 114
abbrev cur (bc : Nat) (cv : Value) (N : Nat) : Thing := curi TC bc cv N
section
variable {w0 w : World} {L : List Thing} {bc N : Nat} {C : Option Addr} {cap : Nat} {bs : List Int} {k : Value → World → Prop}
theorem zbi_ {i : Nat} {a b : Thing} : (L.set i a).set i b = L.set i b := List.set_set ..
theorem zci_ {i : Nat} {a it : Thing} (hi : L[i]? = some it) : (L.set i a)[i]? = some a := by
  rw [List.getElem?_set, if_pos rfl, if_pos (get_lt hi)]
set_option maxHeartbeats 1600000 in
theorem next_c (H : Apt w0 w L) (i : Nat) (hi : L[i]? = some (cur bc (.slice C bs.length cap) N)) (hC : Byts w0 C bs) (hN : N ≤ 1000000000) (hk : ∀ w' (b : Int), 0 ≤ b → b ≤ 255 → Apt w0 w' (L.set i (cur bc (.slice C bs.length cap) (N + 1))) → k (.int .i64 b) w') :
    CallK Try.prog 247 [ptrv bc] k w := by
  refine enter247 ?_
  unfold S247
  obtain ⟨a, s, h0, h1, H⟩ := H.openCur i hi
  have hi1 := zci_ (a := bx bc [.slice C bs.length cap, .int .i64 a, .int .u64 s] TC) hi
  have hle := hC.le
  refine zmd_ (fun f w' => f 0 = ptrv bc ∧ (∃ b : Int, 0 ≤ b ∧ b ≤ 255 ∧ f 3 = .int .i64 b) ∧ Apt w0 w' (L.set i (bx bc [.slice C bs.length cap, .int .i64 a, .int .u64 s] TC))) (fun K hK => ?_) ?_
  · have H := H.drew
    simp only [zq18, zq19, zq20, zq21, zq22, zq23, zq24, zq25, zq26, zq27, zq28, zq4, zq3, zq1, zq2, zq0, zq29, zq30, zq14, zq15, zq16, zq17, zq13, zq10, zq12, zq11, zq7, zq5, zq6, zq9, zq8, zq31, zq32, ite_T, ite_F, zq33, zq34, zq35, Nat.reduceEqDiff, len22, len24, fa26_0, fa26_1, fa26_2, len27, fa33_0, fa33_1, len35, fa114_0, fa114_1, fa114_2, fa124_0, fa124_1, len134, len154, fa156_0, fa156_1, fa156_2, fa156_3, fa156_4, fa156_5, fa156_6, len271, fa274_0, fa274_1, fa274_2]
    rw [ldB3 (H.box i hi1) rfl]
    rw [ldB22 (H.box i hi1) rfl]
    simp only [zq18, zq19, zq20, zq21, zq22, zq23, zq24, zq25, zq26, zq27, zq28, zq4, zq3, zq1, zq2, zq0, zq29, zq30, zq14, zq15, zq16, zq17, zq13, zq10, zq12, zq11, zq7, zq5, zq6, zq9, zq8, zq31, zq32, ite_T, ite_F, zq33, zq34, zq35, Nat.reduceEqDiff, len22, len24, fa26_0, fa26_1, fa26_2, len27, fa33_0, fa33_1, len35, fa114_0, fa114_1, fa114_2, fa124_0, fa124_1, len134, len154, fa156_0, fa156_1, fa156_2, fa156_3, fa156_4, fa156_5, fa156_6, len271, fa274_0, fa274_1, fa274_2]
    by_cases hlt : a < bs.length
    · simp only [hlt, decide_true, zq18, zq19, zq20, zq21, zq22, zq23, zq24, zq25, zq26, zq27, zq28, zq4, zq3, zq1, zq2, zq0, zq29, zq30, zq14, zq15, zq16, zq17, zq13, zq10, zq12, zq11, zq7, zq5, zq6, zq9, zq8, zq31, zq32, ite_T, ite_F, zq33, zq34, zq35, Nat.reduceEqDiff, len22, len24, fa26_0, fa26_1, fa26_2, len27, fa33_0, fa33_1, len35, fa114_0, fa114_1, fa114_2, fa124_0, fa124_1, len134, len154, fa156_0, fa156_1, fa156_2, fa156_3, fa156_4, fa156_5, fa156_6, len271, fa274_0, fa274_1, fa274_2]
      have H := H.drew
      rw [ldB22 (H.box i hi1) rfl]
      rw [ldB3 (H.box i hi1) rfl]
      obtain ⟨m, rfl⟩ : ∃ m : Nat, a = m := ⟨a.toNat, by omega⟩
      have hm : m < bs.length := by omega
      refine rdi (ixn22 hC.ptr hm) (rdi (ld5 ((hC.gr H.gr).cell m hm)) ?_)
      refine zhk_ Try.underlying5 Try.underlying3 ?_
      have hs := hC.small m hm
      rw [zj_ (by omega) (by omega)]
      exact hK _ _ ⟨rfl, ⟨_, hs.1, hs.2, rfl⟩, H⟩
    · simp only [hlt, decide_false, zq18, zq19, zq20, zq21, zq22, zq23, zq24, zq25, zq26, zq27, zq28, zq4, zq3, zq1, zq2, zq0, zq29, zq30, zq14, zq15, zq16, zq17, zq13, zq10, zq12, zq11, zq7, zq5, zq6, zq9, zq8, zq31, zq32, ite_T, ite_F, zq33, zq34, zq35, Nat.reduceEqDiff, len22, len24, fa26_0, fa26_1, fa26_2, len27, fa33_0, fa33_1, len35, fa114_0, fa114_1, fa114_2, fa124_0, fa124_1, len134, len154, fa156_0, fa156_1, fa156_2, fa156_3, fa156_4, fa156_5, fa156_6, len271, fa274_0, fa274_1, fa274_2]
      exact hK _ _ ⟨rfl, ⟨0, by omega, by omega, rfl⟩, H⟩
  · clear H
    rintro f w1 ⟨f0, ⟨b, hb0, hb1, f3⟩, H⟩
    simp only [f0, f3, zq18, zq19, zq20, zq21, zq22, zq23, zq24, zq25, zq26, zq27, zq28, zq4, zq3, zq1, zq2, zq0, zq29, zq30, zq14, zq15, zq16, zq17, zq13, zq10, zq12, zq11, zq7, zq5, zq6, zq9, zq8, zq31, zq32, ite_T, ite_F, zq33, zq34, zq35, Nat.reduceEqDiff, len22, len24, fa26_0, fa26_1, fa26_2, len27, fa33_0, fa33_1, len35, fa114_0, fa114_1, fa114_2, fa124_0, fa124_1, len134, len154, fa156_0, fa156_1, fa156_2, fa156_3, fa156_4, fa156_5, fa156_6, len271, fa274_0, fa274_1, fa274_2]
    rw [ldB3 (H.box i hi1) rfl]
    simp only [zq18, zq19, zq20, zq21, zq22, zq23, zq24, zq25, zq26, zq27, zq28, zq4, zq3, zq1, zq2, zq0, zq29, zq30, zq14, zq15, zq16, zq17, zq13, zq10, zq12, zq11, zq7, zq5, zq6, zq9, zq8, zq31, zq32, ite_T, ite_F, zq33, zq34, zq35, Nat.reduceEqDiff, len22, len24, fa26_0, fa26_1, fa26_2, len27, fa33_0, fa33_1, len35, fa114_0, fa114_1, fa114_2, fa124_0, fa124_1, len134, len154, fa156_0, fa156_1, fa156_2, fa156_3, fa156_4, fa156_5, fa156_6, len271, fa274_0, fa274_1, fa274_2]
    rw [zj_ (by omega) (by omega)]
    refine zyb_ H i hi1 sz3 rfl rfl rfl fun w2 H => ?_
    simp only [List.take_succ_cons, List.take_zero, List.drop_succ_cons, List.drop_zero, List.nil_append, List.cons_append, Value.cells, zbi_] at H
    have hi2 := zci_ (a := bx bc [.slice C bs.length cap, .int .i64 (a + 1), .int .u64 s] TC) hi
    rw [ldB112 (H.box i hi2) rfl]
    simp only [zq18, zq19, zq20, zq21, zq22, zq23, zq24, zq25, zq26, zq27, zq28, zq4, zq3, zq1, zq2, zq0, zq29, zq30, zq14, zq15, zq16, zq17, zq13, zq10, zq12, zq11, zq7, zq5, zq6, zq9, zq8, zq31, zq32, ite_T, ite_F, zq33, zq34, zq35, Nat.reduceEqDiff, len22, len24, fa26_0, fa26_1, fa26_2, len27, fa33_0, fa33_1, len35, fa114_0, fa114_1, fa114_2, fa124_0, fa124_1, len134, len154, fa156_0, fa156_1, fa156_2, fa156_3, fa156_4, fa156_5, fa156_6, len271, fa274_0, fa274_1, fa274_2]
    refine zhk_ Try.underlying3 Try.underlying112 ?_
    simp only [zq18, zq19, zq20, zq21, zq22, zq23, zq24, zq25, zq26, zq27, zq28, zq4, zq3, zq1, zq2, zq0, zq29, zq30, zq14, zq15, zq16, zq17, zq13, zq10, zq12, zq11, zq7, zq5, zq6, zq9, zq8, zq31, zq32, ite_T, ite_F, zq33, zq34, zq35, Nat.reduceEqDiff, len22, len24, fa26_0, fa26_1, fa26_2, len27, fa33_0, fa33_1, len35, fa114_0, fa114_1, fa114_2, fa124_0, fa124_1, len134, len154, fa156_0, fa156_1, fa156_2, fa156_3, fa156_4, fa156_5, fa156_6, len271, fa274_0, fa274_1, fa274_2]
    refine zyb_ H i hi2 sz112 rfl rfl rfl fun w3 H => ?_
    simp only [List.take_succ_cons, List.take_zero, List.drop_succ_cons, List.drop_zero, List.nil_append, List.cons_append, Value.cells, zbi_] at H
    generalize IntKind.u64.wrap _ = z at H
    have hi3 := zci_ (a := bx bc [.slice C bs.length cap, .int .i64 (a + 1), .int .u64 z] TC) hi
    have H := H.drew
    rw [ldB3 (H.box i hi3) rfl]
    rw [ldB22 (H.box i hi3) rfl]
    simp only [zq18, zq19, zq20, zq21, zq22, zq23, zq24, zq25, zq26, zq27, zq28, zq4, zq3, zq1, zq2, zq0, zq29, zq30, zq14, zq15, zq16, zq17, zq13, zq10, zq12, zq11, zq7, zq5, zq6, zq9, zq8, zq31, zq32, ite_T, ite_F, zq33, zq34, zq35, Nat.reduceEqDiff, len22, len24, fa26_0, fa26_1, fa26_2, len27, fa33_0, fa33_1, len35, fa114_0, fa114_1, fa114_2, fa124_0, fa124_1, len134, len154, fa156_0, fa156_1, fa156_2, fa156_3, fa156_4, fa156_5, fa156_6, len271, fa274_0, fa274_1, fa274_2]
    have fin : ∀ w' (b : Int), 0 ≤ b → b ≤ 255 → Apt w0 w' (L.set i (bx bc [.slice C bs.length cap, .int .i64 (a + 1), .int .u64 z] TC)) → k (.int .i64 b) w' := fun w' b hb hb' H => by
      have H := H.shutCur (N := N + 1) i hi3 (by omega) (by omega)
      rw [zbi_] at H
      exact hk w' b hb hb' H
    by_cases hle2 : a + 1 ≤ bs.length
    · simp only [hle2, decide_true, zq18, zq19, zq20, zq21, zq22, zq23, zq24, zq25, zq26, zq27, zq28, zq4, zq3, zq1, zq2, zq0, zq29, zq30, zq14, zq15, zq16, zq17, zq13, zq10, zq12, zq11, zq7, zq5, zq6, zq9, zq8, zq31, zq32, ite_T, ite_F, zq33, zq34, zq35, Nat.reduceEqDiff, len22, len24, fa26_0, fa26_1, fa26_2, len27, fa33_0, fa33_1, len35, fa114_0, fa114_1, fa114_2, fa124_0, fa124_1, len134, len154, fa156_0, fa156_1, fa156_2, fa156_3, fa156_4, fa156_5, fa156_6, len271, fa274_0, fa274_1, fa274_2]
      exact fin _ b hb0 hb1 H
    · simp only [hle2, decide_false, zq18, zq19, zq20, zq21, zq22, zq23, zq24, zq25, zq26, zq27, zq28, zq4, zq3, zq1, zq2, zq0, zq29, zq30, zq14, zq15, zq16, zq17, zq13, zq10, zq12, zq11, zq7, zq5, zq6, zq9, zq8, zq31, zq32, ite_T, ite_F, zq33, zq34, zq35, Nat.reduceEqDiff, len22, len24, fa26_0, fa26_1, fa26_2, len27, fa33_0, fa33_1, len35, fa114_0, fa114_1, fa114_2, fa124_0, fa124_1, len134, len154, fa156_0, fa156_1, fa156_2, fa156_3, fa156_4, fa156_5, fa156_6, len271, fa274_0, fa274_1, fa274_2]
      rw [ldB112 (H.box i hi3) rfl]
      refine rdi (bin_shr (by omega)) (rdi bin_and ?_)
      have h255 := and255 (z.fdiv (2 ^ (min (40 : Int).toNat IntKind.u64.bits)))
      generalize IntKind.u64.wrap _ = y at *
      refine zhk_ Try.underlying112 Try.underlying3 ?_
      rw [zj_ (by omega) (by omega)]
      exact fin _ y h255.1 h255.2 H
theorem zfc_ (H : Apt w0 w L) (i : Nat) (hi : L[i]? = some (cur bc (.slice C bs.length cap) N)) (hC : Byts w0 C bs) (hN : N ≤ 100000000) {n : Int} (hn : n ≤ 60000) (hk : ∀ w' (b : Nat), (n ≤ 1 → b = 0) → (1 < n → (b : Int) < n) → Apt w0 w' (L.set i (cur bc (.slice C bs.length cap) (N + 2))) → k (.int .i64 (b : Int)) w') :
    CallK Try.prog 146 [ptrv bc, .int .i64 n] k w := by
  refine enter146 ?_
  unfold S146
  have more : ∀ {w : World} {m : Nat}, m ≤ N + 2 → Apt w0 w (L.set i (cur bc (.slice C bs.length cap) m)) → Apt w0 w (L.set i (cur bc (.slice C bs.length cap) (N + 2))) := fun {w m} hm H => by
    have hj := zci_ (a := cur bc (.slice C bs.length cap) m) hi
    obtain ⟨a, s, h0, h1, H⟩ := H.openCur i hj
    rw [zbi_] at H
    have hj2 := zci_ (a := bx bc [.slice C bs.length cap, .int .i64 a, .int .u64 s] TC) hi
    have H := H.shutCur (N := N + 2) i hj2 h0 (by omega)
    rw [zbi_] at H
    exact H
  simp only [zq18, zq19, zq20, zq21, zq22, zq23, zq24, zq25, zq26, zq27, zq28, zq4, zq3, zq1, zq2, zq0, zq29, zq30, zq14, zq15, zq16, zq17, zq13, zq10, zq12, zq11, zq7, zq5, zq6, zq9, zq8, zq31, zq32, ite_T, ite_F, zq33, zq34, zq35, Nat.reduceEqDiff, len22, len24, fa26_0, fa26_1, fa26_2, len27, fa33_0, fa33_1, len35, fa114_0, fa114_1, fa114_2, fa124_0, fa124_1, len134, len154, fa156_0, fa156_1, fa156_2, fa156_3, fa156_4, fa156_5, fa156_6, len271, fa274_0, fa274_1, fa274_2]
  by_cases h1 : n ≤ 1
  · simp only [h1, decide_true, zq18, zq19, zq20, zq21, zq22, zq23, zq24, zq25, zq26, zq27, zq28, zq4, zq3, zq1, zq2, zq0, zq29, zq30, zq14, zq15, zq16, zq17, zq13, zq10, zq12, zq11, zq7, zq5, zq6, zq9, zq8, zq31, zq32, ite_T, ite_F, zq33, zq34, zq35, Nat.reduceEqDiff, len22, len24, fa26_0, fa26_1, fa26_2, len27, fa33_0, fa33_1, len35, fa114_0, fa114_1, fa114_2, fa124_0, fa124_1, len134, len154, fa156_0, fa156_1, fa156_2, fa156_3, fa156_4, fa156_5, fa156_6, len271, fa274_0, fa274_1, fa274_2]
    have e : L = L.set i (cur bc (.slice C bs.length cap) N) := by
      obtain ⟨h, e⟩ := List.getElem?_eq_some_iff.1 hi
      rw [← e, List.set_getElem_self]
    rw [e] at H
    exact hk w 0 (fun _ => rfl) (fun h => by omega) (more (by omega) H)
  simp only [h1, decide_false, zq18, zq19, zq20, zq21, zq22, zq23, zq24, zq25, zq26, zq27, zq28, zq4, zq3, zq1, zq2, zq0, zq29, zq30, zq14, zq15, zq16, zq17, zq13, zq10, zq12, zq11, zq7, zq5, zq6, zq9, zq8, zq31, zq32, ite_T, ite_F, zq33, zq34, zq35, Nat.reduceEqDiff, len22, len24, fa26_0, fa26_1, fa26_2, len27, fa33_0, fa33_1, len35, fa114_0, fa114_1, fa114_2, fa124_0, fa124_1, len134, len154, fa156_0, fa156_1, fa156_2, fa156_3, fa156_4, fa156_5, fa156_6, len271, fa274_0, fa274_1, fa274_2]
  refine next_c H i hi hC (by omega) fun w1 b hb0 hb1 H => ?_
  have hj := zci_ (a := cur bc (.slice C bs.length cap) (N + 1)) hi
  have fin : ∀ (x : Int) (w' : World), 0 ≤ x → Apt w0 w' (L.set i (cur bc (.slice C bs.length cap) (N + 2))) → k (.int .i64 (x.tmod n)) w' := fun x w' hx H => by
    have e1 : x.tmod n = x % n := Int.tmod_eq_emod_of_nonneg hx
    have e2 := Int.emod_nonneg x (show n ≠ 0 by omega)
    have e3 := Int.emod_lt_of_pos x (show 0 < n by omega)
    have := hk w' (x % n).toNat (fun h => absurd h h1) (fun _ => by omega) H
    rw [Int.toNat_of_nonneg e2] at this
    rw [e1]
    exact this
  refine zmd_ (fun f w' => f 1 = .int .i64 n ∧ ∃ x : Int, 0 ≤ x ∧ f 5 = .int .i64 x ∧ Apt w0 w' (L.set i (cur bc (.slice C bs.length cap) (N + 2)))) (fun K hK => ?_) ?_
  · simp only [zq18, zq19, zq20, zq21, zq22, zq23, zq24, zq25, zq26, zq27, zq28, zq4, zq3, zq1, zq2, zq0, zq29, zq30, zq14, zq15, zq16, zq17, zq13, zq10, zq12, zq11, zq7, zq5, zq6, zq9, zq8, zq31, zq32, ite_T, ite_F, zq33, zq34, zq35, Nat.reduceEqDiff, len22, len24, fa26_0, fa26_1, fa26_2, len27, fa33_0, fa33_1, len35, fa114_0, fa114_1, fa114_2, fa124_0, fa124_1, len134, len154, fa156_0, fa156_1, fa156_2, fa156_3, fa156_4, fa156_5, fa156_6, len271, fa274_0, fa274_1, fa274_2]
    by_cases h2 : 200 < n
    · simp only [h2, decide_true, zq18, zq19, zq20, zq21, zq22, zq23, zq24, zq25, zq26, zq27, zq28, zq4, zq3, zq1, zq2, zq0, zq29, zq30, zq14, zq15, zq16, zq17, zq13, zq10, zq12, zq11, zq7, zq5, zq6, zq9, zq8, zq31, zq32, ite_T, ite_F, zq33, zq34, zq35, Nat.reduceEqDiff, len22, len24, fa26_0, fa26_1, fa26_2, len27, fa33_0, fa33_1, len35, fa114_0, fa114_1, fa114_2, fa124_0, fa124_1, len134, len154, fa156_0, fa156_1, fa156_2, fa156_3, fa156_4, fa156_5, fa156_6, len271, fa274_0, fa274_1, fa274_2]
      rw [zj_ (by omega) (by omega)]
      refine next_c H i hj hC (by omega) fun w2 b2 hc0 hc1 H => ?_
      rw [zbi_] at H
      simp only [zq18, zq19, zq20, zq21, zq22, zq23, zq24, zq25, zq26, zq27, zq28, zq4, zq3, zq1, zq2, zq0, zq29, zq30, zq14, zq15, zq16, zq17, zq13, zq10, zq12, zq11, zq7, zq5, zq6, zq9, zq8, zq31, zq32, ite_T, ite_F, zq33, zq34, zq35, Nat.reduceEqDiff, len22, len24, fa26_0, fa26_1, fa26_2, len27, fa33_0, fa33_1, len35, fa114_0, fa114_1, fa114_2, fa124_0, fa124_1, len134, len154, fa156_0, fa156_1, fa156_2, fa156_3, fa156_4, fa156_5, fa156_6, len271, fa274_0, fa274_1, fa274_2]
      rw [zj_ (by omega) (by omega)]
      exact hK _ _ ⟨rfl, _, by omega, rfl, H⟩
    · simp only [h2, decide_false, zq18, zq19, zq20, zq21, zq22, zq23, zq24, zq25, zq26, zq27, zq28, zq4, zq3, zq1, zq2, zq0, zq29, zq30, zq14, zq15, zq16, zq17, zq13, zq10, zq12, zq11, zq7, zq5, zq6, zq9, zq8, zq31, zq32, ite_T, ite_F, zq33, zq34, zq35, Nat.reduceEqDiff, len22, len24, fa26_0, fa26_1, fa26_2, len27, fa33_0, fa33_1, len35, fa114_0, fa114_1, fa114_2, fa124_0, fa124_1, len134, len154, fa156_0, fa156_1, fa156_2, fa156_3, fa156_4, fa156_5, fa156_6, len271, fa274_0, fa274_1, fa274_2]
      exact hK _ _ ⟨rfl, b, hb0, rfl, more (by omega) H⟩
  · rintro f w2 ⟨f1, x, hx, f5, H⟩
    simp only [f1, f5]
    refine rdi (bin_rem (by omega)) ?_
    exact fin x w2 hx H
theorem one_c (H : Apt w0 w L) (i : Nat) (hi : L[i]? = some (cur bc (.slice C bs.length cap) N)) (hC : Byts w0 C bs) (hN : N ≤ 100000000) {n : Int} (hn : n ≤ 60000) (hk : ∀ w' (b : Bool), Apt w0 w' (L.set i (cur bc (.slice C bs.length cap) (N + 2))) → k (.bool b) w') :
    CallK Try.prog 176 [ptrv bc, .int .i64 n] k w := by
  refine enter176 ?_
  unfold S176
  refine zfc_ H i hi hC hN hn fun w1 b _ _ H => ?_
  simp only [zq18, zq19, zq20, zq21, zq22, zq23, zq24, zq25, zq26, zq27, zq28, zq4, zq3, zq1, zq2, zq0, zq29, zq30, zq14, zq15, zq16, zq17, zq13, zq10, zq12, zq11, zq7, zq5, zq6, zq9, zq8, zq31, zq32, ite_T, ite_F, zq33, zq34, zq35, Nat.reduceEqDiff, len22, len24, fa26_0, fa26_1, fa26_2, len27, fa33_0, fa33_1, len35, fa114_0, fa114_1, fa114_2, fa124_0, fa124_1, len134, len154, fa156_0, fa156_1, fa156_2, fa156_3, fa156_4, fa156_5, fa156_6, len271, fa274_0, fa274_1, fa274_2]
  exact hk _ _ H
theorem among_c (H : Apt w0 w L) (i : Nat) (hi : L[i]? = some (cur bc (.slice C bs.length cap) N)) (hC : Byts w0 C bs) (hN : N ≤ 100000000) {Z : Option Addr} {n cz : Nat} {xs : List Int} (hZ : ∀ w', Apt w0 w' (L.set i (cur bc (.slice C bs.length cap) (N + 2))) → Ints w' Z xs) (hn : n = xs.length) (h0 : 0 < xs.length) (hl : xs.length ≤ 60000) (hk : ∀ w' (j : Nat), j < xs.length → Apt w0 w' (L.set i (cur bc (.slice C bs.length cap) (N + 2))) → k (.int .i64 (xs.getD j 0)) w') :
    CallK Try.prog 156 [ptrv bc, .slice Z n cz] k w := by
  subst hn
  refine enter156 ?_
  unfold S156
  simp only [zq18, zq19, zq20, zq21, zq22, zq23, zq24, zq25, zq26, zq27, zq28, zq4, zq3, zq1, zq2, zq0, zq29, zq30, zq14, zq15, zq16, zq17, zq13, zq10, zq12, zq11, zq7, zq5, zq6, zq9, zq8, zq31, zq32, ite_T, ite_F, zq33, zq34, zq35, Nat.reduceEqDiff, len22, len24, fa26_0, fa26_1, fa26_2, len27, fa33_0, fa33_1, len35, fa114_0, fa114_1, fa114_2, fa124_0, fa124_1, len134, len154, fa156_0, fa156_1, fa156_2, fa156_3, fa156_4, fa156_5, fa156_6, len271, fa274_0, fa274_1, fa274_2]
  refine zfc_ H i hi hC hN (by omega) fun w1 b h1 h2 H => ?_
  have hb : b < xs.length := by
    by_cases h : (xs.length : Int) ≤ 1
    · have := h1 h; omega
    · have := h2 (by omega); omega
  have hz := hZ w1 H
  refine rdi (zub_ hz.ptr hb) (rdi (ld3 (hz.cell b hb)) ?_)
  exact hk w1 b hb H
end
end Go.Proofs.Ytegcjkhebecgbaa

namespace Go.Sh
open Go
inductive RuleCells (F : Nat → Prop) (w : World) : List RuleL → List Value → Prop
  | nil : RuleCells F w [] []
  | cons {r : RuleL} {rs : List RuleL} {Y : Option Addr} {c : Nat} {cells : List Value} : r.2.length ≤ c → IntsF F w Y r.2 → RuleCells F w rs cells → RuleCells F w (r :: rs) (.int .i64 r.1 :: .slice Y r.2.length c :: cells)
section
variable {F E : Nat → Prop} {w w' : World} {rs qs : List RuleL} {cells news : List Value}
theorem RuleCells.len (h : RuleCells F w rs cells) : cells.length = rs.length * 2 := by
  induction h with
  | nil => rfl
  | cons _ _ _ ih => simp only [List.length_cons, ih]; omega
theorem RuleCells.mono (h : RuleCells F w rs cells) (he : ∀ b, F b → E b) : RuleCells E w rs cells := by
  induction h with
  | nil => exact .nil
  | cons h1 h2 _ ih => exact .cons h1 (h2.mono he) ih
theorem RuleCells.gr (h : RuleCells F w rs cells) (g : Gr w w') : RuleCells F w' rs cells := by
  induction h with
  | nil => exact .nil
  | cons h1 h2 _ ih => exact .cons h1 (h2.gr g) ih
theorem IntsF.same' {X : Option Addr} {xs : List Int} (h : IntsF F w X xs) (hs : ∀ q, F q → w'.heap[q]? = w.heap[q]?) : IntsF F w' X xs :=
  ⟨⟨h.is.le, h.is.ptr, fun j hj => by
    have h1 := h.is.cell j hj
    have h2 : w'.heap[((ad X).add j).block]? = w.heap[((ad X).add j).block]? := hs _ (by rw [zkc_]; exact h.foot (by omega))
    unfold World.cell? at h1 ⊢
    rw [h2]
    exact h1⟩, h.foot⟩
theorem RuleCells.same (h : RuleCells F w rs cells) (hs : ∀ q, F q → w'.heap[q]? = w.heap[q]?) : RuleCells F w' rs cells := by
  induction h with
  | nil => exact .nil
  | cons h1 h2 _ ih => exact .cons h1 (h2.same' hs) ih
theorem RuleCells.append (h : RuleCells F w rs cells) (h' : RuleCells F w qs news) : RuleCells F w (rs ++ qs) (cells ++ news) := by
  induction h with
  | nil => exact h'
  | cons h1 h2 _ ih => exact .cons h1 h2 ih
theorem RuleCells.one (h : RuleCells F w rs cells) : ∀ v ∈ cells, v.oneCell' = true := by
  induction h with
  | nil => intro v hv; simp at hv
  | cons h1 h2 _ ih =>
    intro v hv
    rcases List.mem_cons.1 hv with rfl | hv
    · rfl
    · rcases List.mem_cons.1 hv with rfl | hv
      · rfl
      · exact ih v hv
theorem RuleCells.lt (h : RuleCells F w rs cells) : RuleCells (fun b => F b ∧ b < w.heap.size) w rs cells := by
  induction h with
  | nil => exact .nil
  | @cons r rs Y c cells h1 h2 _ ih =>
    refine .cons h1 ⟨h2.is, fun hp => ⟨h2.foot hp, ?_⟩⟩ ih
    have h3 := h2.is.cell 0 hp
    have : ((ad Y).add 0).block < w.heap.size := by
      unfold World.cell? at h3
      cases hb : w.heap[((ad Y).add 0).block]? with
      | none => rw [hb] at h3; cases h3
      | some _ => exact (Array.getElem?_eq_some_iff.1 hb).1
    rwa [zkc_] at this
theorem RuleCells.cell (h : RuleCells F w rs cells) : ∀ j, j < rs.length → ∃ Y c, cells[j * 2]? = some (.int .i64 (rul rs j).1) ∧ cells[j * 2 + 1]? = some (.slice Y (rul rs j).2.length c) ∧ (rul rs j).2.length ≤ c ∧ IntsF F w Y (rul rs j).2 := by
  induction h with
  | nil => intro j hj; simp at hj
  | cons h1 h2 _ ih =>
    intro j hj
    cases j with
    | zero => exact ⟨_, _, rfl, rfl, h1, h2⟩
    | succ j =>
      obtain ⟨Y, c, a1, a2, a3, a4⟩ := ih j (by simpa using hj)
      have e : ∀ (r : RuleL) (rs : List RuleL), rul (r :: rs) (j + 1) = rul rs j := fun r rs => by simp [rul]
      rw [e]
      refine ⟨Y, c, ?_, ?_, a3, a4⟩
      · rw [show (j + 1) * 2 = j * 2 + 1 + 1 from by omega]
        simpa using a1
      · rw [show (j + 1) * 2 + 1 = j * 2 + 1 + 1 + 1 from by omega]
        simpa using a2
def OwnG (e : Nat) (F : Nat → Prop) (w : World) (B : Nat) (X : Option Addr) (c : Nat) (rs : List RuleL) : Prop := ∃ cells, Row w B e 2 X rs.length c cells ∧ RuleCells (fun q => F q ∧ blk X ≠ some q) w rs cells
def gow (e : Nat) (ft : Nat → Prop) (X : Option Addr) (c : Nat) (rs : List RuleL) : Thing := ⟨fun w => OwnG e ft w 0 X c rs, fun q => blk X = some q ∨ ft q⟩
theorem zdj_ {e : Nat} {ft : Nat → Prop} {B c : Nat} {X : Option Addr} (h : OwnG e ft w B X c rs) : ∀ w', (∀ q, (gow e ft X c rs).ft q → w'.heap[q]? = w.heap[q]?) → (gow e ft X c rs).P w' := fun w' hs => by
  obtain ⟨cells, h1, h2⟩ := h
  exact ⟨cells, (Row.mono h1 (Nat.zero_le B)).same fun q hq => hs q (.inl hq), h2.same fun q hq => hs q (.inr hq.1)⟩
theorem OwnG.read {e : Nat} {B c : Nat} {X : Option Addr} (h : OwnG e F w B X c rs) : RulesF (fun _ => True) w X rs := by
  obtain ⟨cells, h1, h2⟩ := h
  have hcap := Row.cap h1
  refine ⟨by omega, fun hp => h1.ptr hp, fun _ => trivial, fun j hj => ?_⟩
  obtain ⟨Y, d, a1, a2, a3, a4⟩ := h2.cell j hj
  exact ⟨Y, d, h1.src.cell _ _ a1, h1.src.cell _ _ a2, a3, a4.mono fun _ _ => trivial⟩
theorem Apt.gow {w0 : World} {L : List Thing} (H : Apt w0 w L) (i : Nat) {e : Nat} {ft : Nat → Prop} {c : Nat} {X : Option Addr} (hi : L[i]? = some (Sh.gow e ft X c rs)) : OwnG e ft w 0 X c rs := H.get i hi
theorem Apt.addGow {w0 : World} {L : List Thing} {e c : Nat} {X : Option Addr} (H : Apt w0 w L) (g : Gr w w') (hr : Row w' w.heap.size e 2 X rs.length c cells) (hc : RuleCells (fun q => w.heap.size ≤ q ∧ blk X ≠ some q) w' rs cells) : Apt w0 w' (L ++ [Sh.gow e (fun q => w.heap.size ≤ q ∧ q < w'.heap.size) X c rs]) := by
  refine H.add g _ (fun q hq => ?_) (fun q hq => ?_) (zdj_ ⟨cells, hr, hc.lt.mono fun b hb => ⟨⟨hb.1.1, hb.2⟩, hb.1.2⟩⟩)
  · rcases hq with hq | hq
    · exact (hr.ge hq).1
    · exact hq.1
  · rcases hq with hq | hq
    · exact (hr.ge hq).2
    · exact hq.2
end
structure Drawn (m : Nat) (gm : Gram) : Prop where
  nons : 0 ≤ gm.nons ∧ gm.nons ≤ 1000
  toks : 0 ≤ gm.toks ∧ gm.toks ≤ 1000
  some : 0 < gm.rules.length
  few : gm.rules.length ≤ m
end Go.Sh

namespace Go.Proofs.Ytegcjkhebecgbaa
open Go Go.Sh Go.RowKit
abbrev gth (ft : Nat → Prop) (X : Option Addr) (c : Nat) (rs : List RuleL) : Thing := gow 33 ft X c rs
theorem rng8 : Array.range 8 = #[0, 1, 2, 3, 4, 5, 6, 7] := by decide
theorem rng10 : Array.range 10 = #[0, 1, 2, 3, 4, 5, 6, 7, 8, 9] := by decide
section
variable {w0 w : World} {L : List Thing} {bc N : Nat} {C : Option Addr} {cap : Nat} {bs : List Int} {k : Value → World → Prop}
theorem nilF (F : Nat → Prop) (w : World) : IntsF F w none [] := ⟨⟨by simp, fun h => by simp at h, fun j hj => by simp at hj⟩, fun h => by simp at h⟩
theorem ltF {F : Nat → Prop} {w : World} {X : Option Addr} {xs : List Int} (h : IntsF F w X xs) : IntsF (fun b => F b ∧ b < w.heap.size) w X xs := ⟨h.is, fun hp => ⟨h.foot hp, (IntsF.of_ints h.is).foot hp⟩⟩
set_option maxHeartbeats 6400000 in
theorem known_c {E : List Thing} (H : Apt w0 w (cur bc (.slice C bs.length cap) N :: E)) (hC : Byts w0 C bs) (hN : N ≤ 10000000) (hk : ∀ w' gm ft X c, Drawn 100 gm → Apt w0 w' (cur bc (.slice C bs.length cap) (N + 2) :: gth ft X c gm.rules :: E) → k (.agg #[.int .i64 gm.nons, .int .i64 gm.toks, .slice X gm.rules.length c]) w') :
    CallK Try.prog 303 [ptrv bc] k w := by
  refine enter303 ?_
  unfold S303
  refine zid_ H inf26 fun b1 w1 H => ?_
  have H := H.insert 1
  simp only [List.take_succ_cons, List.take_zero, List.drop_succ_cons, List.drop_zero, List.nil_append, List.cons_append] at H
  refine zfc_ H 0 rfl hC (by omega) (by omega) fun wA b _ hb8 H => ?_
  have hb8 := hb8 (by omega)
  simp only [List.set_cons_zero] at H
  have fin : ∀ (wB : World) (bX c : Nat) (gm : Gram) (cells : List Value), Drawn 100 gm → Gr wA wB → Row wB wA.heap.size 33 2 (some ⟨bX, 0, none⟩) gm.rules.length c cells → RuleCells (fun q => wA.heap.size ≤ q ∧ blk (some (⟨bX, 0, none⟩ : Addr)) ≠ some q) wB gm.rules cells → Do Try.prog (zx_ 26 (ptrv b1) (.agg #[.int .i64 gm.nons, .int .i64 gm.toks, .slice (some ⟨bX, 0, none⟩) gm.rules.length c])) (fun _ w' => Rd Try.prog (WS.at w') (zac_ 26 (ptrv b1)) fun v => k v w') wB := fun wB bX c gm cells hd g hr hc => by
    have H := H.addGow g hr hc
    have H := H.insert 1
    simp only [List.take_succ_cons, List.take_zero, List.drop_succ_cons, List.drop_zero, List.nil_append, List.cons_append] at H
    refine zyb_ H 2 rfl sz26 rfl rfl rfl fun w2 H => ?_
    simp only [List.set_cons_zero, List.set_cons_succ] at H
    rw [zve_, zv_ zdb_ sz26 rfl (H.box 2 rfl)]
    have H := H.erase 2
    simp only [List.eraseIdx_cons_zero, List.eraseIdx_cons_succ] at H
    exact hk w2 gm _ _ c hd H
  obtain rfl | rfl | rfl | rfl | rfl | rfl | rfl | rfl : b = 0 ∨ b = 1 ∨ b = 2 ∨ b = 3 ∨ b = 4 ∨ b = 5 ∨ b = 6 ∨ b = 7 := by omega
  · simp only [show (((0 : Nat) : Int) = 0) from by omega, decide_true, decide_false, zq18, zq19, zq20, zq21, zq22, zq23, zq24, zq25, zq26, zq27, zq28, zq4, zq3, zq1, zq2, zq0, zq29, zq30, zq14, zq15, zq16, zq17, zq13, zq10, zq12, zq11, zq7, zq5, zq6, zq9, zq8, zq31, zq32, ite_T, ite_F, zq33, zq34, zq35, Nat.reduceEqDiff, len22, len24, fa26_0, fa26_1, fa26_2, len27, fa33_0, fa33_1, len35, fa114_0, fa114_1, fa114_2, fa124_0, fa124_1, len134, len154, fa156_0, fa156_1, fa156_2, fa156_3, fa156_4, fa156_5, fa156_6, len271, fa274_0, fa274_1, fa274_2]
    refine zbb_ u27 inf3 (cells := ints [-1, 0, -2]) (by decide) (by decide) (by simp [Instr.fill, madeCells, Value.cells, rng3, ints]) rfl fun c0 v0 _ _ g0 _ r0 => ?_
    have i0 : IntsF (fun b => wA.heap.size ≤ b) v0 (some ⟨c0, 0, none⟩) [-1, 0, -2] := (IntsF.of_own (r0 _ (Nat.le_refl _))).mono fun b hb => Nat.le_trans (Gr.refl wA).size hb.1
    have G0 := g0
    rw [bd33 (cells := #[.int .i64 0, .slice (some ⟨c0, 0, none⟩) 3 3]) rfl]
    rw [bd33 (cells := #[.int .i64 0, .slice none 0 0]) rfl]
    refine zbb_ u24 zhd_ (cells := [.int .i64 0, .slice (some ⟨c0, 0, none⟩) 3 3, .int .i64 0, .slice none 0 0]) (by decide) (by decide) (by simp [Instr.fill, madeCells, Value.cells, rng4]) rfl fun bX wB hX1 _ gB _ rB => ?_
    rw [bd26 (cells := #[.int .i64 1, .int .i64 2, .slice (some ⟨bX, 0, none⟩) 2 2]) rfl]
    have j0 := ((ltF i0).gr gB).mono (E := fun q => wA.heap.size ≤ q ∧ blk (some (⟨bX, 0, none⟩ : Addr)) ≠ some q) fun q hq => ⟨hq.1, fun e => absurd hq.2 (by have := Option.some.inj (show some bX = some q from e); omega)⟩
    exact fin wB bX 2 ⟨1, 2, [(0, [-1, 0, -2]), (0, [])]⟩ _ ⟨⟨by decide, by decide⟩, ⟨by decide, by decide⟩, by decide, by decide⟩ (zf_ G0 gB) (rB _ G0.size) (.cons (r := (0, [-1, 0, -2])) (Nat.le_refl _) j0 (.cons (r := (0, [])) (Nat.le_refl _) (nilF _ _) .nil))
  · simp only [show ¬ (((1 : Nat) : Int) = 0) from by omega, show (((1 : Nat) : Int) = 1) from by omega, decide_true, decide_false, zq18, zq19, zq20, zq21, zq22, zq23, zq24, zq25, zq26, zq27, zq28, zq4, zq3, zq1, zq2, zq0, zq29, zq30, zq14, zq15, zq16, zq17, zq13, zq10, zq12, zq11, zq7, zq5, zq6, zq9, zq8, zq31, zq32, ite_T, ite_F, zq33, zq34, zq35, Nat.reduceEqDiff, len22, len24, fa26_0, fa26_1, fa26_2, len27, fa33_0, fa33_1, len35, fa114_0, fa114_1, fa114_2, fa124_0, fa124_1, len134, len154, fa156_0, fa156_1, fa156_2, fa156_3, fa156_4, fa156_5, fa156_6, len271, fa274_0, fa274_1, fa274_2]
    refine zbb_ u27 inf3 (cells := ints [0, 0]) (by decide) (by decide) (by simp [Instr.fill, madeCells, Value.cells, rng2, ints]) rfl fun c0 v0 _ _ g0 _ r0 => ?_
    have i0 : IntsF (fun b => wA.heap.size ≤ b) v0 (some ⟨c0, 0, none⟩) [0, 0] := (IntsF.of_own (r0 _ (Nat.le_refl _))).mono fun b hb => Nat.le_trans (Gr.refl wA).size hb.1
    have G0 := g0
    rw [bd33 (cells := #[.int .i64 0, .slice (some ⟨c0, 0, none⟩) 2 2]) rfl]
    refine zbb_ u27 inf3 (cells := ints [-1, 0, -2]) (by decide) (by decide) (by simp [Instr.fill, madeCells, Value.cells, rng3, ints]) rfl fun c1 v1 _ _ g1 _ r1 => ?_
    have i1 : IntsF (fun b => wA.heap.size ≤ b) v1 (some ⟨c1, 0, none⟩) [-1, 0, -2] := (IntsF.of_own (r1 _ (Nat.le_refl _))).mono fun b hb => Nat.le_trans G0.size hb.1
    have G1 := zf_ G0 g1
    rw [bd33 (cells := #[.int .i64 0, .slice (some ⟨c1, 0, none⟩) 3 3]) rfl]
    refine zbb_ u27 inf3 (cells := ints [-1, -2]) (by decide) (by decide) (by simp [Instr.fill, madeCells, Value.cells, rng2, ints]) rfl fun c2 v2 _ _ g2 _ r2 => ?_
    have i2 : IntsF (fun b => wA.heap.size ≤ b) v2 (some ⟨c2, 0, none⟩) [-1, -2] := (IntsF.of_own (r2 _ (Nat.le_refl _))).mono fun b hb => Nat.le_trans G1.size hb.1
    have G2 := zf_ G1 g2
    rw [bd33 (cells := #[.int .i64 0, .slice (some ⟨c2, 0, none⟩) 2 2]) rfl]
    refine zbb_ u24 zhd_ (cells := [.int .i64 0, .slice (some ⟨c0, 0, none⟩) 2 2, .int .i64 0, .slice (some ⟨c1, 0, none⟩) 3 3, .int .i64 0, .slice (some ⟨c2, 0, none⟩) 2 2]) (by decide) (by decide) (by simp [Instr.fill, madeCells, Value.cells, rng6]) rfl fun bX wB hX1 _ gB _ rB => ?_
    rw [bd26 (cells := #[.int .i64 1, .int .i64 2, .slice (some ⟨bX, 0, none⟩) 3 3]) rfl]
    have j0 := ((ltF ((i0.gr g1).gr g2)).gr gB).mono (E := fun q => wA.heap.size ≤ q ∧ blk (some (⟨bX, 0, none⟩ : Addr)) ≠ some q) fun q hq => ⟨hq.1, fun e => absurd hq.2 (by have := Option.some.inj (show some bX = some q from e); omega)⟩
    have j1 := ((ltF (i1.gr g2)).gr gB).mono (E := fun q => wA.heap.size ≤ q ∧ blk (some (⟨bX, 0, none⟩ : Addr)) ≠ some q) fun q hq => ⟨hq.1, fun e => absurd hq.2 (by have := Option.some.inj (show some bX = some q from e); omega)⟩
    have j2 := ((ltF i2).gr gB).mono (E := fun q => wA.heap.size ≤ q ∧ blk (some (⟨bX, 0, none⟩ : Addr)) ≠ some q) fun q hq => ⟨hq.1, fun e => absurd hq.2 (by have := Option.some.inj (show some bX = some q from e); omega)⟩
    exact fin wB bX 3 ⟨1, 2, [(0, [0, 0]), (0, [-1, 0, -2]), (0, [-1, -2])]⟩ _ ⟨⟨by decide, by decide⟩, ⟨by decide, by decide⟩, by decide, by decide⟩ (zf_ G2 gB) (rB _ G2.size) (.cons (r := (0, [0, 0])) (Nat.le_refl _) j0 (.cons (r := (0, [-1, 0, -2])) (Nat.le_refl _) j1 (.cons (r := (0, [-1, -2])) (Nat.le_refl _) j2 .nil)))
  · simp only [show ¬ (((2 : Nat) : Int) = 0) from by omega, show ¬ (((2 : Nat) : Int) = 1) from by omega, show (((2 : Nat) : Int) = 2) from by omega, decide_true, decide_false, zq18, zq19, zq20, zq21, zq22, zq23, zq24, zq25, zq26, zq27, zq28, zq4, zq3, zq1, zq2, zq0, zq29, zq30, zq14, zq15, zq16, zq17, zq13, zq10, zq12, zq11, zq7, zq5, zq6, zq9, zq8, zq31, zq32, ite_T, ite_F, zq33, zq34, zq35, Nat.reduceEqDiff, len22, len24, fa26_0, fa26_1, fa26_2, len27, fa33_0, fa33_1, len35, fa114_0, fa114_1, fa114_2, fa124_0, fa124_1, len134, len154, fa156_0, fa156_1, fa156_2, fa156_3, fa156_4, fa156_5, fa156_6, len271, fa274_0, fa274_1, fa274_2]
    refine zbb_ u27 inf3 (cells := ints [0, -3, 1]) (by decide) (by decide) (by simp [Instr.fill, madeCells, Value.cells, rng3, ints]) rfl fun c0 v0 _ _ g0 _ r0 => ?_
    have i0 : IntsF (fun b => wA.heap.size ≤ b) v0 (some ⟨c0, 0, none⟩) [0, -3, 1] := (IntsF.of_own (r0 _ (Nat.le_refl _))).mono fun b hb => Nat.le_trans (Gr.refl wA).size hb.1
    have G0 := g0
    rw [bd33 (cells := #[.int .i64 0, .slice (some ⟨c0, 0, none⟩) 3 3]) rfl]
    refine zbb_ u27 inf3 (cells := ints [1]) (by decide) (by decide) (by simp [Instr.fill, madeCells, Value.cells, rng1, ints]) rfl fun c1 v1 _ _ g1 _ r1 => ?_
    have i1 : IntsF (fun b => wA.heap.size ≤ b) v1 (some ⟨c1, 0, none⟩) [1] := (IntsF.of_own (r1 _ (Nat.le_refl _))).mono fun b hb => Nat.le_trans G0.size hb.1
    have G1 := zf_ G0 g1
    rw [bd33 (cells := #[.int .i64 0, .slice (some ⟨c1, 0, none⟩) 1 1]) rfl]
    refine zbb_ u27 inf3 (cells := ints [-1]) (by decide) (by decide) (by simp [Instr.fill, madeCells, Value.cells, rng1, ints]) rfl fun c2 v2 _ _ g2 _ r2 => ?_
    have i2 : IntsF (fun b => wA.heap.size ≤ b) v2 (some ⟨c2, 0, none⟩) [-1] := (IntsF.of_own (r2 _ (Nat.le_refl _))).mono fun b hb => Nat.le_trans G1.size hb.1
    have G2 := zf_ G1 g2
    rw [bd33 (cells := #[.int .i64 1, .slice (some ⟨c2, 0, none⟩) 1 1]) rfl]
    refine zbb_ u27 inf3 (cells := ints [-2, 0, -2]) (by decide) (by decide) (by simp [Instr.fill, madeCells, Value.cells, rng3, ints]) rfl fun c3 v3 _ _ g3 _ r3 => ?_
    have i3 : IntsF (fun b => wA.heap.size ≤ b) v3 (some ⟨c3, 0, none⟩) [-2, 0, -2] := (IntsF.of_own (r3 _ (Nat.le_refl _))).mono fun b hb => Nat.le_trans G2.size hb.1
    have G3 := zf_ G2 g3
    rw [bd33 (cells := #[.int .i64 1, .slice (some ⟨c3, 0, none⟩) 3 3]) rfl]
    refine zbb_ u24 zhd_ (cells := [.int .i64 0, .slice (some ⟨c0, 0, none⟩) 3 3, .int .i64 0, .slice (some ⟨c1, 0, none⟩) 1 1, .int .i64 1, .slice (some ⟨c2, 0, none⟩) 1 1, .int .i64 1, .slice (some ⟨c3, 0, none⟩) 3 3]) (by decide) (by decide) (by simp [Instr.fill, madeCells, Value.cells, rng8]) rfl fun bX wB hX1 _ gB _ rB => ?_
    rw [bd26 (cells := #[.int .i64 2, .int .i64 3, .slice (some ⟨bX, 0, none⟩) 4 4]) rfl]
    have j0 := ((ltF (((i0.gr g1).gr g2).gr g3)).gr gB).mono (E := fun q => wA.heap.size ≤ q ∧ blk (some (⟨bX, 0, none⟩ : Addr)) ≠ some q) fun q hq => ⟨hq.1, fun e => absurd hq.2 (by have := Option.some.inj (show some bX = some q from e); omega)⟩
    have j1 := ((ltF ((i1.gr g2).gr g3)).gr gB).mono (E := fun q => wA.heap.size ≤ q ∧ blk (some (⟨bX, 0, none⟩ : Addr)) ≠ some q) fun q hq => ⟨hq.1, fun e => absurd hq.2 (by have := Option.some.inj (show some bX = some q from e); omega)⟩
    have j2 := ((ltF (i2.gr g3)).gr gB).mono (E := fun q => wA.heap.size ≤ q ∧ blk (some (⟨bX, 0, none⟩ : Addr)) ≠ some q) fun q hq => ⟨hq.1, fun e => absurd hq.2 (by have := Option.some.inj (show some bX = some q from e); omega)⟩
    have j3 := ((ltF i3).gr gB).mono (E := fun q => wA.heap.size ≤ q ∧ blk (some (⟨bX, 0, none⟩ : Addr)) ≠ some q) fun q hq => ⟨hq.1, fun e => absurd hq.2 (by have := Option.some.inj (show some bX = some q from e); omega)⟩
    exact fin wB bX 4 ⟨2, 3, [(0, [0, -3, 1]), (0, [1]), (1, [-1]), (1, [-2, 0, -2])]⟩ _ ⟨⟨by decide, by decide⟩, ⟨by decide, by decide⟩, by decide, by decide⟩ (zf_ G3 gB) (rB _ G3.size) (.cons (r := (0, [0, -3, 1])) (Nat.le_refl _) j0 (.cons (r := (0, [1])) (Nat.le_refl _) j1 (.cons (r := (1, [-1])) (Nat.le_refl _) j2 (.cons (r := (1, [-2, 0, -2])) (Nat.le_refl _) j3 .nil))))
  · simp only [show ¬ (((3 : Nat) : Int) = 0) from by omega, show ¬ (((3 : Nat) : Int) = 1) from by omega, show ¬ (((3 : Nat) : Int) = 2) from by omega, show (((3 : Nat) : Int) = 3) from by omega, decide_true, decide_false, zq18, zq19, zq20, zq21, zq22, zq23, zq24, zq25, zq26, zq27, zq28, zq4, zq3, zq1, zq2, zq0, zq29, zq30, zq14, zq15, zq16, zq17, zq13, zq10, zq12, zq11, zq7, zq5, zq6, zq9, zq8, zq31, zq32, ite_T, ite_F, zq33, zq34, zq35, Nat.reduceEqDiff, len22, len24, fa26_0, fa26_1, fa26_2, len27, fa33_0, fa33_1, len35, fa114_0, fa114_1, fa114_2, fa124_0, fa124_1, len134, len154, fa156_0, fa156_1, fa156_2, fa156_3, fa156_4, fa156_5, fa156_6, len271, fa274_0, fa274_1, fa274_2]
    refine zbb_ u27 inf3 (cells := ints [-1, 1]) (by decide) (by decide) (by simp [Instr.fill, madeCells, Value.cells, rng2, ints]) rfl fun c0 v0 _ _ g0 _ r0 => ?_
    have i0 : IntsF (fun b => wA.heap.size ≤ b) v0 (some ⟨c0, 0, none⟩) [-1, 1] := (IntsF.of_own (r0 _ (Nat.le_refl _))).mono fun b hb => Nat.le_trans (Gr.refl wA).size hb.1
    have G0 := g0
    rw [bd33 (cells := #[.int .i64 0, .slice (some ⟨c0, 0, none⟩) 2 2]) rfl]
    refine zbb_ u27 inf3 (cells := ints [-2, 1]) (by decide) (by decide) (by simp [Instr.fill, madeCells, Value.cells, rng2, ints]) rfl fun c1 v1 _ _ g1 _ r1 => ?_
    have i1 : IntsF (fun b => wA.heap.size ≤ b) v1 (some ⟨c1, 0, none⟩) [-2, 1] := (IntsF.of_own (r1 _ (Nat.le_refl _))).mono fun b hb => Nat.le_trans G0.size hb.1
    have G1 := zf_ G0 g1
    rw [bd33 (cells := #[.int .i64 1, .slice (some ⟨c1, 0, none⟩) 2 2]) rfl]
    refine zbb_ u27 inf3 (cells := ints [-2]) (by decide) (by decide) (by simp [Instr.fill, madeCells, Value.cells, rng1, ints]) rfl fun c2 v2 _ _ g2 _ r2 => ?_
    have i2 : IntsF (fun b => wA.heap.size ≤ b) v2 (some ⟨c2, 0, none⟩) [-2] := (IntsF.of_own (r2 _ (Nat.le_refl _))).mono fun b hb => Nat.le_trans G1.size hb.1
    have G2 := zf_ G1 g2
    rw [bd33 (cells := #[.int .i64 1, .slice (some ⟨c2, 0, none⟩) 1 1]) rfl]
    rw [bd33 (cells := #[.int .i64 1, .slice none 0 0]) rfl]
    refine zbb_ u24 zhd_ (cells := [.int .i64 0, .slice (some ⟨c0, 0, none⟩) 2 2, .int .i64 1, .slice (some ⟨c1, 0, none⟩) 2 2, .int .i64 1, .slice (some ⟨c2, 0, none⟩) 1 1, .int .i64 1, .slice none 0 0]) (by decide) (by decide) (by simp [Instr.fill, madeCells, Value.cells, rng8]) rfl fun bX wB hX1 _ gB _ rB => ?_
    rw [bd26 (cells := #[.int .i64 2, .int .i64 2, .slice (some ⟨bX, 0, none⟩) 4 4]) rfl]
    have j0 := ((ltF ((i0.gr g1).gr g2)).gr gB).mono (E := fun q => wA.heap.size ≤ q ∧ blk (some (⟨bX, 0, none⟩ : Addr)) ≠ some q) fun q hq => ⟨hq.1, fun e => absurd hq.2 (by have := Option.some.inj (show some bX = some q from e); omega)⟩
    have j1 := ((ltF (i1.gr g2)).gr gB).mono (E := fun q => wA.heap.size ≤ q ∧ blk (some (⟨bX, 0, none⟩ : Addr)) ≠ some q) fun q hq => ⟨hq.1, fun e => absurd hq.2 (by have := Option.some.inj (show some bX = some q from e); omega)⟩
    have j2 := ((ltF i2).gr gB).mono (E := fun q => wA.heap.size ≤ q ∧ blk (some (⟨bX, 0, none⟩ : Addr)) ≠ some q) fun q hq => ⟨hq.1, fun e => absurd hq.2 (by have := Option.some.inj (show some bX = some q from e); omega)⟩
    exact fin wB bX 4 ⟨2, 2, [(0, [-1, 1]), (1, [-2, 1]), (1, [-2]), (1, [])]⟩ _ ⟨⟨by decide, by decide⟩, ⟨by decide, by decide⟩, by decide, by decide⟩ (zf_ G2 gB) (rB _ G2.size) (.cons (r := (0, [-1, 1])) (Nat.le_refl _) j0 (.cons (r := (1, [-2, 1])) (Nat.le_refl _) j1 (.cons (r := (1, [-2])) (Nat.le_refl _) j2 (.cons (r := (1, [])) (Nat.le_refl _) (nilF _ _) .nil))))
  · simp only [show ¬ (((4 : Nat) : Int) = 0) from by omega, show ¬ (((4 : Nat) : Int) = 1) from by omega, show ¬ (((4 : Nat) : Int) = 2) from by omega, show ¬ (((4 : Nat) : Int) = 3) from by omega, show (((4 : Nat) : Int) = 4) from by omega, decide_true, decide_false, zq18, zq19, zq20, zq21, zq22, zq23, zq24, zq25, zq26, zq27, zq28, zq4, zq3, zq1, zq2, zq0, zq29, zq30, zq14, zq15, zq16, zq17, zq13, zq10, zq12, zq11, zq7, zq5, zq6, zq9, zq8, zq31, zq32, ite_T, ite_F, zq33, zq34, zq35, Nat.reduceEqDiff, len22, len24, fa26_0, fa26_1, fa26_2, len27, fa33_0, fa33_1, len35, fa114_0, fa114_1, fa114_2, fa124_0, fa124_1, len134, len154, fa156_0, fa156_1, fa156_2, fa156_3, fa156_4, fa156_5, fa156_6, len271, fa274_0, fa274_1, fa274_2]
    refine zbb_ u27 inf3 (cells := ints [0]) (by decide) (by decide) (by simp [Instr.fill, madeCells, Value.cells, rng1, ints]) rfl fun c0 v0 _ _ g0 _ r0 => ?_
    have i0 : IntsF (fun b => wA.heap.size ≤ b) v0 (some ⟨c0, 0, none⟩) [0] := (IntsF.of_own (r0 _ (Nat.le_refl _))).mono fun b hb => Nat.le_trans (Gr.refl wA).size hb.1
    have G0 := g0
    rw [bd33 (cells := #[.int .i64 0, .slice (some ⟨c0, 0, none⟩) 1 1]) rfl]
    refine zbb_ u27 inf3 (cells := ints [1]) (by decide) (by decide) (by simp [Instr.fill, madeCells, Value.cells, rng1, ints]) rfl fun c1 v1 _ _ g1 _ r1 => ?_
    have i1 : IntsF (fun b => wA.heap.size ≤ b) v1 (some ⟨c1, 0, none⟩) [1] := (IntsF.of_own (r1 _ (Nat.le_refl _))).mono fun b hb => Nat.le_trans G0.size hb.1
    have G1 := zf_ G0 g1
    rw [bd33 (cells := #[.int .i64 0, .slice (some ⟨c1, 0, none⟩) 1 1]) rfl]
    refine zbb_ u27 inf3 (cells := ints [0, 1]) (by decide) (by decide) (by simp [Instr.fill, madeCells, Value.cells, rng2, ints]) rfl fun c2 v2 _ _ g2 _ r2 => ?_
    have i2 : IntsF (fun b => wA.heap.size ≤ b) v2 (some ⟨c2, 0, none⟩) [0, 1] := (IntsF.of_own (r2 _ (Nat.le_refl _))).mono fun b hb => Nat.le_trans G1.size hb.1
    have G2 := zf_ G1 g2
    rw [bd33 (cells := #[.int .i64 1, .slice (some ⟨c2, 0, none⟩) 2 2]) rfl]
    refine zbb_ u27 inf3 (cells := ints [-1]) (by decide) (by decide) (by simp [Instr.fill, madeCells, Value.cells, rng1, ints]) rfl fun c3 v3 _ _ g3 _ r3 => ?_
    have i3 : IntsF (fun b => wA.heap.size ≤ b) v3 (some ⟨c3, 0, none⟩) [-1] := (IntsF.of_own (r3 _ (Nat.le_refl _))).mono fun b hb => Nat.le_trans G2.size hb.1
    have G3 := zf_ G2 g3
    rw [bd33 (cells := #[.int .i64 1, .slice (some ⟨c3, 0, none⟩) 1 1]) rfl]
    rw [bd33 (cells := #[.int .i64 1, .slice none 0 0]) rfl]
    refine zbb_ u24 zhd_ (cells := [.int .i64 0, .slice (some ⟨c0, 0, none⟩) 1 1, .int .i64 0, .slice (some ⟨c1, 0, none⟩) 1 1, .int .i64 1, .slice (some ⟨c2, 0, none⟩) 2 2, .int .i64 1, .slice (some ⟨c3, 0, none⟩) 1 1, .int .i64 1, .slice none 0 0]) (by decide) (by decide) (by simp [Instr.fill, madeCells, Value.cells, rng10]) rfl fun bX wB hX1 _ gB _ rB => ?_
    rw [bd26 (cells := #[.int .i64 2, .int .i64 1, .slice (some ⟨bX, 0, none⟩) 5 5]) rfl]
    have j0 := ((ltF (((i0.gr g1).gr g2).gr g3)).gr gB).mono (E := fun q => wA.heap.size ≤ q ∧ blk (some (⟨bX, 0, none⟩ : Addr)) ≠ some q) fun q hq => ⟨hq.1, fun e => absurd hq.2 (by have := Option.some.inj (show some bX = some q from e); omega)⟩
    have j1 := ((ltF ((i1.gr g2).gr g3)).gr gB).mono (E := fun q => wA.heap.size ≤ q ∧ blk (some (⟨bX, 0, none⟩ : Addr)) ≠ some q) fun q hq => ⟨hq.1, fun e => absurd hq.2 (by have := Option.some.inj (show some bX = some q from e); omega)⟩
    have j2 := ((ltF (i2.gr g3)).gr gB).mono (E := fun q => wA.heap.size ≤ q ∧ blk (some (⟨bX, 0, none⟩ : Addr)) ≠ some q) fun q hq => ⟨hq.1, fun e => absurd hq.2 (by have := Option.some.inj (show some bX = some q from e); omega)⟩
    have j3 := ((ltF i3).gr gB).mono (E := fun q => wA.heap.size ≤ q ∧ blk (some (⟨bX, 0, none⟩ : Addr)) ≠ some q) fun q hq => ⟨hq.1, fun e => absurd hq.2 (by have := Option.some.inj (show some bX = some q from e); omega)⟩
    exact fin wB bX 5 ⟨2, 1, [(0, [0]), (0, [1]), (1, [0, 1]), (1, [-1]), (1, [])]⟩ _ ⟨⟨by decide, by decide⟩, ⟨by decide, by decide⟩, by decide, by decide⟩ (zf_ G3 gB) (rB _ G3.size) (.cons (r := (0, [0])) (Nat.le_refl _) j0 (.cons (r := (0, [1])) (Nat.le_refl _) j1 (.cons (r := (1, [0, 1])) (Nat.le_refl _) j2 (.cons (r := (1, [-1])) (Nat.le_refl _) j3 (.cons (r := (1, [])) (Nat.le_refl _) (nilF _ _) .nil)))))
  · simp only [show ¬ (((5 : Nat) : Int) = 0) from by omega, show ¬ (((5 : Nat) : Int) = 1) from by omega, show ¬ (((5 : Nat) : Int) = 2) from by omega, show ¬ (((5 : Nat) : Int) = 3) from by omega, show ¬ (((5 : Nat) : Int) = 4) from by omega, show (((5 : Nat) : Int) = 5) from by omega, decide_true, decide_false, zq18, zq19, zq20, zq21, zq22, zq23, zq24, zq25, zq26, zq27, zq28, zq4, zq3, zq1, zq2, zq0, zq29, zq30, zq14, zq15, zq16, zq17, zq13, zq10, zq12, zq11, zq7, zq5, zq6, zq9, zq8, zq31, zq32, ite_T, ite_F, zq33, zq34, zq35, Nat.reduceEqDiff, len22, len24, fa26_0, fa26_1, fa26_2, len27, fa33_0, fa33_1, len35, fa114_0, fa114_1, fa114_2, fa124_0, fa124_1, len134, len154, fa156_0, fa156_1, fa156_2, fa156_3, fa156_4, fa156_5, fa156_6, len271, fa274_0, fa274_1, fa274_2]
    refine zbb_ u27 inf3 (cells := ints [-1, 0, -1]) (by decide) (by decide) (by simp [Instr.fill, madeCells, Value.cells, rng3, ints]) rfl fun c0 v0 _ _ g0 _ r0 => ?_
    have i0 : IntsF (fun b => wA.heap.size ≤ b) v0 (some ⟨c0, 0, none⟩) [-1, 0, -1] := (IntsF.of_own (r0 _ (Nat.le_refl _))).mono fun b hb => Nat.le_trans (Gr.refl wA).size hb.1
    have G0 := g0
    rw [bd33 (cells := #[.int .i64 0, .slice (some ⟨c0, 0, none⟩) 3 3]) rfl]
    refine zbb_ u27 inf3 (cells := ints [-2, 0, -2]) (by decide) (by decide) (by simp [Instr.fill, madeCells, Value.cells, rng3, ints]) rfl fun c1 v1 _ _ g1 _ r1 => ?_
    have i1 : IntsF (fun b => wA.heap.size ≤ b) v1 (some ⟨c1, 0, none⟩) [-2, 0, -2] := (IntsF.of_own (r1 _ (Nat.le_refl _))).mono fun b hb => Nat.le_trans G0.size hb.1
    have G1 := zf_ G0 g1
    rw [bd33 (cells := #[.int .i64 0, .slice (some ⟨c1, 0, none⟩) 3 3]) rfl]
    refine zbb_ u27 inf3 (cells := ints [-1]) (by decide) (by decide) (by simp [Instr.fill, madeCells, Value.cells, rng1, ints]) rfl fun c2 v2 _ _ g2 _ r2 => ?_
    have i2 : IntsF (fun b => wA.heap.size ≤ b) v2 (some ⟨c2, 0, none⟩) [-1] := (IntsF.of_own (r2 _ (Nat.le_refl _))).mono fun b hb => Nat.le_trans G1.size hb.1
    have G2 := zf_ G1 g2
    rw [bd33 (cells := #[.int .i64 0, .slice (some ⟨c2, 0, none⟩) 1 1]) rfl]
    refine zbb_ u27 inf3 (cells := ints [-2]) (by decide) (by decide) (by simp [Instr.fill, madeCells, Value.cells, rng1, ints]) rfl fun c3 v3 _ _ g3 _ r3 => ?_
    have i3 : IntsF (fun b => wA.heap.size ≤ b) v3 (some ⟨c3, 0, none⟩) [-2] := (IntsF.of_own (r3 _ (Nat.le_refl _))).mono fun b hb => Nat.le_trans G2.size hb.1
    have G3 := zf_ G2 g3
    rw [bd33 (cells := #[.int .i64 0, .slice (some ⟨c3, 0, none⟩) 1 1]) rfl]
    rw [bd33 (cells := #[.int .i64 0, .slice none 0 0]) rfl]
    refine zbb_ u24 zhd_ (cells := [.int .i64 0, .slice (some ⟨c0, 0, none⟩) 3 3, .int .i64 0, .slice (some ⟨c1, 0, none⟩) 3 3, .int .i64 0, .slice (some ⟨c2, 0, none⟩) 1 1, .int .i64 0, .slice (some ⟨c3, 0, none⟩) 1 1, .int .i64 0, .slice none 0 0]) (by decide) (by decide) (by simp [Instr.fill, madeCells, Value.cells, rng10]) rfl fun bX wB hX1 _ gB _ rB => ?_
    rw [bd26 (cells := #[.int .i64 1, .int .i64 2, .slice (some ⟨bX, 0, none⟩) 5 5]) rfl]
    have j0 := ((ltF (((i0.gr g1).gr g2).gr g3)).gr gB).mono (E := fun q => wA.heap.size ≤ q ∧ blk (some (⟨bX, 0, none⟩ : Addr)) ≠ some q) fun q hq => ⟨hq.1, fun e => absurd hq.2 (by have := Option.some.inj (show some bX = some q from e); omega)⟩
    have j1 := ((ltF ((i1.gr g2).gr g3)).gr gB).mono (E := fun q => wA.heap.size ≤ q ∧ blk (some (⟨bX, 0, none⟩ : Addr)) ≠ some q) fun q hq => ⟨hq.1, fun e => absurd hq.2 (by have := Option.some.inj (show some bX = some q from e); omega)⟩
    have j2 := ((ltF (i2.gr g3)).gr gB).mono (E := fun q => wA.heap.size ≤ q ∧ blk (some (⟨bX, 0, none⟩ : Addr)) ≠ some q) fun q hq => ⟨hq.1, fun e => absurd hq.2 (by have := Option.some.inj (show some bX = some q from e); omega)⟩
    have j3 := ((ltF i3).gr gB).mono (E := fun q => wA.heap.size ≤ q ∧ blk (some (⟨bX, 0, none⟩ : Addr)) ≠ some q) fun q hq => ⟨hq.1, fun e => absurd hq.2 (by have := Option.some.inj (show some bX = some q from e); omega)⟩
    exact fin wB bX 5 ⟨1, 2, [(0, [-1, 0, -1]), (0, [-2, 0, -2]), (0, [-1]), (0, [-2]), (0, [])]⟩ _ ⟨⟨by decide, by decide⟩, ⟨by decide, by decide⟩, by decide, by decide⟩ (zf_ G3 gB) (rB _ G3.size) (.cons (r := (0, [-1, 0, -1])) (Nat.le_refl _) j0 (.cons (r := (0, [-2, 0, -2])) (Nat.le_refl _) j1 (.cons (r := (0, [-1])) (Nat.le_refl _) j2 (.cons (r := (0, [-2])) (Nat.le_refl _) j3 (.cons (r := (0, [])) (Nat.le_refl _) (nilF _ _) .nil)))))
  · simp only [show ¬ (((6 : Nat) : Int) = 0) from by omega, show ¬ (((6 : Nat) : Int) = 1) from by omega, show ¬ (((6 : Nat) : Int) = 2) from by omega, show ¬ (((6 : Nat) : Int) = 3) from by omega, show ¬ (((6 : Nat) : Int) = 4) from by omega, show ¬ (((6 : Nat) : Int) = 5) from by omega, show (((6 : Nat) : Int) = 6) from by omega, decide_true, decide_false, zq18, zq19, zq20, zq21, zq22, zq23, zq24, zq25, zq26, zq27, zq28, zq4, zq3, zq1, zq2, zq0, zq29, zq30, zq14, zq15, zq16, zq17, zq13, zq10, zq12, zq11, zq7, zq5, zq6, zq9, zq8, zq31, zq32, ite_T, ite_F, zq33, zq34, zq35, Nat.reduceEqDiff, len22, len24, fa26_0, fa26_1, fa26_2, len27, fa33_0, fa33_1, len35, fa114_0, fa114_1, fa114_2, fa124_0, fa124_1, len134, len154, fa156_0, fa156_1, fa156_2, fa156_3, fa156_4, fa156_5, fa156_6, len271, fa274_0, fa274_1, fa274_2]
    refine zbb_ u27 inf3 (cells := ints [1, 2]) (by decide) (by decide) (by simp [Instr.fill, madeCells, Value.cells, rng2, ints]) rfl fun c0 v0 _ _ g0 _ r0 => ?_
    have i0 : IntsF (fun b => wA.heap.size ≤ b) v0 (some ⟨c0, 0, none⟩) [1, 2] := (IntsF.of_own (r0 _ (Nat.le_refl _))).mono fun b hb => Nat.le_trans (Gr.refl wA).size hb.1
    have G0 := g0
    rw [bd33 (cells := #[.int .i64 0, .slice (some ⟨c0, 0, none⟩) 2 2]) rfl]
    refine zbb_ u27 inf3 (cells := ints [-1, 1]) (by decide) (by decide) (by simp [Instr.fill, madeCells, Value.cells, rng2, ints]) rfl fun c1 v1 _ _ g1 _ r1 => ?_
    have i1 : IntsF (fun b => wA.heap.size ≤ b) v1 (some ⟨c1, 0, none⟩) [-1, 1] := (IntsF.of_own (r1 _ (Nat.le_refl _))).mono fun b hb => Nat.le_trans G0.size hb.1
    have G1 := zf_ G0 g1
    rw [bd33 (cells := #[.int .i64 1, .slice (some ⟨c1, 0, none⟩) 2 2]) rfl]
    rw [bd33 (cells := #[.int .i64 1, .slice none 0 0]) rfl]
    refine zbb_ u27 inf3 (cells := ints [-2, 2]) (by decide) (by decide) (by simp [Instr.fill, madeCells, Value.cells, rng2, ints]) rfl fun c3 v3 _ _ g3 _ r3 => ?_
    have i3 : IntsF (fun b => wA.heap.size ≤ b) v3 (some ⟨c3, 0, none⟩) [-2, 2] := (IntsF.of_own (r3 _ (Nat.le_refl _))).mono fun b hb => Nat.le_trans G1.size hb.1
    have G3 := zf_ G1 g3
    rw [bd33 (cells := #[.int .i64 2, .slice (some ⟨c3, 0, none⟩) 2 2]) rfl]
    rw [bd33 (cells := #[.int .i64 2, .slice none 0 0]) rfl]
    refine zbb_ u24 zhd_ (cells := [.int .i64 0, .slice (some ⟨c0, 0, none⟩) 2 2, .int .i64 1, .slice (some ⟨c1, 0, none⟩) 2 2, .int .i64 1, .slice none 0 0, .int .i64 2, .slice (some ⟨c3, 0, none⟩) 2 2, .int .i64 2, .slice none 0 0]) (by decide) (by decide) (by simp [Instr.fill, madeCells, Value.cells, rng10]) rfl fun bX wB hX1 _ gB _ rB => ?_
    rw [bd26 (cells := #[.int .i64 3, .int .i64 2, .slice (some ⟨bX, 0, none⟩) 5 5]) rfl]
    have j0 := ((ltF ((i0.gr g1).gr g3)).gr gB).mono (E := fun q => wA.heap.size ≤ q ∧ blk (some (⟨bX, 0, none⟩ : Addr)) ≠ some q) fun q hq => ⟨hq.1, fun e => absurd hq.2 (by have := Option.some.inj (show some bX = some q from e); omega)⟩
    have j1 := ((ltF (i1.gr g3)).gr gB).mono (E := fun q => wA.heap.size ≤ q ∧ blk (some (⟨bX, 0, none⟩ : Addr)) ≠ some q) fun q hq => ⟨hq.1, fun e => absurd hq.2 (by have := Option.some.inj (show some bX = some q from e); omega)⟩
    have j3 := ((ltF i3).gr gB).mono (E := fun q => wA.heap.size ≤ q ∧ blk (some (⟨bX, 0, none⟩ : Addr)) ≠ some q) fun q hq => ⟨hq.1, fun e => absurd hq.2 (by have := Option.some.inj (show some bX = some q from e); omega)⟩
    exact fin wB bX 5 ⟨3, 2, [(0, [1, 2]), (1, [-1, 1]), (1, []), (2, [-2, 2]), (2, [])]⟩ _ ⟨⟨by decide, by decide⟩, ⟨by decide, by decide⟩, by decide, by decide⟩ (zf_ G3 gB) (rB _ G3.size) (.cons (r := (0, [1, 2])) (Nat.le_refl _) j0 (.cons (r := (1, [-1, 1])) (Nat.le_refl _) j1 (.cons (r := (1, [])) (Nat.le_refl _) (nilF _ _) (.cons (r := (2, [-2, 2])) (Nat.le_refl _) j3 (.cons (r := (2, [])) (Nat.le_refl _) (nilF _ _) .nil)))))
  · simp only [show ¬ (((7 : Nat) : Int) = 0) from by omega, show ¬ (((7 : Nat) : Int) = 1) from by omega, show ¬ (((7 : Nat) : Int) = 2) from by omega, show ¬ (((7 : Nat) : Int) = 3) from by omega, show ¬ (((7 : Nat) : Int) = 4) from by omega, show ¬ (((7 : Nat) : Int) = 5) from by omega, show ¬ (((7 : Nat) : Int) = 6) from by omega, decide_true, decide_false, zq18, zq19, zq20, zq21, zq22, zq23, zq24, zq25, zq26, zq27, zq28, zq4, zq3, zq1, zq2, zq0, zq29, zq30, zq14, zq15, zq16, zq17, zq13, zq10, zq12, zq11, zq7, zq5, zq6, zq9, zq8, zq31, zq32, ite_T, ite_F, zq33, zq34, zq35, Nat.reduceEqDiff, len22, len24, fa26_0, fa26_1, fa26_2, len27, fa33_0, fa33_1, len35, fa114_0, fa114_1, fa114_2, fa124_0, fa124_1, len134, len154, fa156_0, fa156_1, fa156_2, fa156_3, fa156_4, fa156_5, fa156_6, len271, fa274_0, fa274_1, fa274_2]
    refine zbb_ u27 inf3 (cells := ints [0, 0]) (by decide) (by decide) (by simp [Instr.fill, madeCells, Value.cells, rng2, ints]) rfl fun c0 v0 _ _ g0 _ r0 => ?_
    have i0 : IntsF (fun b => wA.heap.size ≤ b) v0 (some ⟨c0, 0, none⟩) [0, 0] := (IntsF.of_own (r0 _ (Nat.le_refl _))).mono fun b hb => Nat.le_trans (Gr.refl wA).size hb.1
    have G0 := g0
    rw [bd33 (cells := #[.int .i64 0, .slice (some ⟨c0, 0, none⟩) 2 2]) rfl]
    refine zbb_ u27 inf3 (cells := ints [-1]) (by decide) (by decide) (by simp [Instr.fill, madeCells, Value.cells, rng1, ints]) rfl fun c1 v1 _ _ g1 _ r1 => ?_
    have i1 : IntsF (fun b => wA.heap.size ≤ b) v1 (some ⟨c1, 0, none⟩) [-1] := (IntsF.of_own (r1 _ (Nat.le_refl _))).mono fun b hb => Nat.le_trans G0.size hb.1
    have G1 := zf_ G0 g1
    rw [bd33 (cells := #[.int .i64 0, .slice (some ⟨c1, 0, none⟩) 1 1]) rfl]
    refine zbb_ u27 inf3 (cells := ints [-2, 1]) (by decide) (by decide) (by simp [Instr.fill, madeCells, Value.cells, rng2, ints]) rfl fun c2 v2 _ _ g2 _ r2 => ?_
    have i2 : IntsF (fun b => wA.heap.size ≤ b) v2 (some ⟨c2, 0, none⟩) [-2, 1] := (IntsF.of_own (r2 _ (Nat.le_refl _))).mono fun b hb => Nat.le_trans G1.size hb.1
    have G2 := zf_ G1 g2
    rw [bd33 (cells := #[.int .i64 1, .slice (some ⟨c2, 0, none⟩) 2 2]) rfl]
    refine zbb_ u24 zhd_ (cells := [.int .i64 0, .slice (some ⟨c0, 0, none⟩) 2 2, .int .i64 0, .slice (some ⟨c1, 0, none⟩) 1 1, .int .i64 1, .slice (some ⟨c2, 0, none⟩) 2 2]) (by decide) (by decide) (by simp [Instr.fill, madeCells, Value.cells, rng6]) rfl fun bX wB hX1 _ gB _ rB => ?_
    rw [bd26 (cells := #[.int .i64 2, .int .i64 2, .slice (some ⟨bX, 0, none⟩) 3 3]) rfl]
    have j0 := ((ltF ((i0.gr g1).gr g2)).gr gB).mono (E := fun q => wA.heap.size ≤ q ∧ blk (some (⟨bX, 0, none⟩ : Addr)) ≠ some q) fun q hq => ⟨hq.1, fun e => absurd hq.2 (by have := Option.some.inj (show some bX = some q from e); omega)⟩
    have j1 := ((ltF (i1.gr g2)).gr gB).mono (E := fun q => wA.heap.size ≤ q ∧ blk (some (⟨bX, 0, none⟩ : Addr)) ≠ some q) fun q hq => ⟨hq.1, fun e => absurd hq.2 (by have := Option.some.inj (show some bX = some q from e); omega)⟩
    have j2 := ((ltF i2).gr gB).mono (E := fun q => wA.heap.size ≤ q ∧ blk (some (⟨bX, 0, none⟩ : Addr)) ≠ some q) fun q hq => ⟨hq.1, fun e => absurd hq.2 (by have := Option.some.inj (show some bX = some q from e); omega)⟩
    exact fin wB bX 3 ⟨2, 2, [(0, [0, 0]), (0, [-1]), (1, [-2, 1])]⟩ _ ⟨⟨by decide, by decide⟩, ⟨by decide, by decide⟩, by decide, by decide⟩ (zf_ G2 gB) (rB _ G2.size) (.cons (r := (0, [0, 0])) (Nat.le_refl _) j0 (.cons (r := (0, [-1])) (Nat.le_refl _) j1 (.cons (r := (1, [-2, 1])) (Nat.le_refl _) j2 .nil)))
end
section
variable {w0 w : World} {L E : List Thing} {bc N : Nat} {C : Option Addr} {cap : Nat} {bs : List Int} {k : Value → World → Prop}
theorem zte_ {n m : Nat} {cv : Value} (H : Apt w0 w (cur bc cv n :: E)) (h : n ≤ m) : Apt w0 w (cur bc cv m :: E) := by
  obtain ⟨a, s, h0, h1, H⟩ := H.openCur 0 rfl
  simp only [List.set_cons_zero] at H
  have H := H.shutCur (N := m) 0 rfl h0 (by omega)
  simpa only [List.set_cons_zero] using H
theorem nilGow {e : Nat} (H : Apt w0 w L) : Apt w0 w (L ++ [gow e (fun _ => False) none 0 []]) :=
  H.add (Gr.refl w) _ (fun q hq => by rcases hq with hq | hq; cases hq; exact hq.elim) (fun q hq => by rcases hq with hq | hq; cases hq; exact hq.elim) (zdj_ (B := 0) ⟨[], Row.nil _ _ _ _, .nil⟩)
theorem set_same {i : Nat} {a : Thing} (hi : L[i]? = some a) : L.set i a = L := by
  obtain ⟨h, e⟩ := List.getElem?_eq_some_iff.1 hi
  rw [← e, List.set_getElem_self]
theorem forget (H : Apt w0 w L) (j : Nat) {a : Thing} (hj : L[j]? = some a) : Apt w0 w (L.set j emp) :=
  H.weaken j hj (fun q hq => hq.elim) (fun _ _ _ => trivial) fun _ _ _ _ => trivial
theorem blk_ad {w : World} {B e sz n c : Nat} {X : Option Addr} {cells : List Value} (h : Row w B e sz X n c cells) (hn : 0 < n) : blk X = some (ad X).block := by
  have := h.ptr hn
  conv => lhs; rw [this]
  rfl
set_option maxHeartbeats 1600000 in
theorem put2_c (H : Apt w0 w L) (i j : Nat) (hij : i ≠ j) {X Y : Option Addr} {c d : Nat} {rs : List RuleL} {r : RuleL} {ft : Nat → Prop} (hi : L[i]? = some (gth ft X c rs)) (hj : L[j]? = some (ows Y d r.2)) (hl : rs.length ≤ 1000)
    (hk : ∀ w' ft' X' c' rs', (rs' = rs ∧ 0 < rs.length ∨ rs' = rs ++ [r]) → Apt w0 w' ((L.set i (gth ft' X' c' rs')).set j emp) → k (.slice X' (List.length rs') c') w') :
    CallK Try.prog 304 [.slice X rs.length c, .agg #[.int .i64 r.1, .slice Y r.2.length d]] k w := by
  refine enter304 ?_
  unfold S304
  refine zpd_ fun b1 w1 g1 hb1 hB1 => ?_
  have H := H.step g1
  have hR := (H.gow i hi).read
  have hY := H.own j hj
  simp only [zq18, zq19, zq20, zq21, zq22, zq23, zq24, zq25, zq26, zq27, zq28, zq4, zq3, zq1, zq2, zq0, zq29, zq30, zq14, zq15, zq16, zq17, zq13, zq10, zq12, zq11, zq7, zq5, zq6, zq9, zq8, zq31, zq32, ite_T, ite_F, zq33, zq34, zq35, Nat.reduceEqDiff, len22, len24, fa26_0, fa26_1, fa26_2, len27, fa33_0, fa33_1, len35, fa114_0, fa114_1, fa114_2, fa124_0, fa124_1, len134, len154, fa156_0, fa156_1, fa156_2, fa156_3, fa156_4, fa156_5, fa156_6, len271, fa274_0, fa274_1, fa274_2]
  refine zhb_ rs.length 0 (fun q f w' => q ≤ rs.length ∧ f 9 = .int .i64 q ∧ Gr w1 w') ⟨Nat.zero_le _, rfl, Gr.refl _⟩ ?_
  rintro q f w2 NN hag ⟨hq, h9, g2⟩ hN
  have f0 : f 0 = .slice X rs.length c := hag 0 (by decide)
  have f3 : f 3 = ptrv b1 := hag 3 (by decide)
  have f7 : f 7 = .slice X rs.length c := hag 7 (by decide)
  have f8 : f 8 = .int .i64 rs.length := hag 8 (by decide)
  simp only [f0, f3, f7, f8, h9, zq18, zq19, zq20, zq21, zq22, zq23, zq24, zq25, zq26, zq27, zq28, zq4, zq3, zq1, zq2, zq0, zq29, zq30, zq14, zq15, zq16, zq17, zq13, zq10, zq12, zq11, zq7, zq5, zq6, zq9, zq8, zq31, zq32, ite_T, ite_F, zq33, zq34, zq35, Nat.reduceEqDiff, len22, len24, fa26_0, fa26_1, fa26_2, len27, fa33_0, fa33_1, len35, fa114_0, fa114_1, fa114_2, fa124_0, fa124_1, len134, len154, fa156_0, fa156_1, fa156_2, fa156_3, fa156_4, fa156_5, fa156_6, len271, fa274_0, fa274_1, fa274_2]
  have H2 := H.step g2
  have hB2 := hB1.gr g2
  by_cases hlt : q < rs.length
  case neg =>
    simp only [show ¬ ((q : Int) < rs.length) from by omega, decide_false, zq18, zq19, zq20, zq21, zq22, zq23, zq24, zq25, zq26, zq27, zq28, zq4, zq3, zq1, zq2, zq0, zq29, zq30, zq14, zq15, zq16, zq17, zq13, zq10, zq12, zq11, zq7, zq5, zq6, zq9, zq8, zq31, zq32, ite_T, ite_F, zq33, zq34, zq35, Nat.reduceEqDiff, len22, len24, fa26_0, fa26_1, fa26_2, len27, fa33_0, fa33_1, len35, fa114_0, fa114_1, fa114_2, fa124_0, fa124_1, len134, len154, fa156_0, fa156_1, fa156_2, fa156_3, fa156_4, fa156_5, fa156_6, len271, fa274_0, fa274_1, fa274_2]
    rw [zv_ zbe_ sz33 rfl hB2]
    refine zbb_ u24 zhd_ (cells := [.int .i64 r.1, .slice Y r.2.length d]) (by decide) (by decide) (by simp [Instr.fill, madeCells, Value.cells, rng1, rng2]) rfl fun b5 w5 hb5 hb6 g5 _ r5 => ?_
    have H5 := H2.step g5
    obtain ⟨cells, hrow, hrc⟩ := H5.gow i hi
    have hY5 := H5.own j hj
    have hXY : ∀ q, blk Y = some q → blk X ≠ some q := fun q hq e => H5.two i j _ _ hij hi hj q (.inl e) hq
    refine zih_ u24 zhd_ rfl (by decide) hrow (Row.src (r5 _ (Nat.le_refl _))) rfl (by intro v hv; simp at hv; rcases hv with rfl | rfl <;> rfl) (by omega) (by omega) (Nat.zero_le _) fun X' c' w' hr' hg hmv => ?_
    have hnew : ∀ q, q < w5.heap.size → blk X ≠ some q → blk X' ≠ some q := fun q hq hn e => by
      rcases hmv with h1 | h1
      · exact hn (h1 ▸ e)
      · have := h1 q e
        omega
    have hrc2 : RuleCells (fun q => (ft q ∨ blk Y = some q) ∧ blk X' ≠ some q) w' (rs ++ [r]) (cells ++ [.int .i64 r.1, .slice Y r.2.length d]) := by
      refine RuleCells.append ((hrc.lt.same fun q hq => hg.block q hq.2 fun e => hq.1.2 e.symm).mono fun q hq => ⟨.inl hq.1.1, hnew q hq.2 hq.1.2⟩) (.cons (Row.cap hY5).1 ?_ .nil)
      have hf : IntsF (fun q => blk Y = some q ∧ q < w5.heap.size) w5 Y r.2 := ⟨Own.ints hY5, fun hp => ⟨blk_ad hY5 hp, ((IntsF.of_own hY5).foot hp).2⟩⟩
      exact (hf.same' fun q hq => hg.block q hq.2 fun e => hXY q hq.1 e.symm).mono fun q hq => ⟨.inr hq.1, hnew q hq.2 (hXY q hq.1)⟩
    have hlen : rs.length + 1 = (rs ++ [r]).length := by simp
    rw [hlen] at hr' ⊢
    refine hk w' (fun q => ft q ∨ blk Y = some q) X' c' (rs ++ [r]) (.inr rfl) (H5.join (it := gth (fun q => ft q ∨ blk Y = some q) X' c' (rs ++ [r])) hij hi hj (gx_of hg fun q hq => .inl (.inl hq)) (fun q hq => ?_) (fun q hq => ?_) (zdj_ ⟨_, hr', hrc2⟩))
    · rcases hq with hq | hq | hq
      · rcases hmv with e | e
        · exact .inl (.inl (e ▸ hq))
        · exact .inr (.inr (e q hq))
      · exact .inl (.inr hq)
      · exact .inr (.inl hq)
    · rcases hq with hq | hq | hq
      · exact (hr'.ge hq).2
      · exact Nat.lt_of_lt_of_le ((H5.ok i _ hi).hi q (.inr hq)) hg.size
      · exact Nat.lt_of_lt_of_le ((H5.ok j _ hj).hi q hq) hg.size
  simp only [show ((q : Int) < rs.length) from by omega, decide_true, zq18, zq19, zq20, zq21, zq22, zq23, zq24, zq25, zq26, zq27, zq28, zq4, zq3, zq1, zq2, zq0, zq29, zq30, zq14, zq15, zq16, zq17, zq13, zq10, zq12, zq11, zq7, zq5, zq6, zq9, zq8, zq31, zq32, ite_T, ite_F, zq33, zq34, zq35, Nat.reduceEqDiff, len22, len24, fa26_0, fa26_1, fa26_2, len27, fa33_0, fa33_1, len35, fa114_0, fa114_1, fa114_2, fa124_0, fa124_1, len134, len154, fa156_0, fa156_1, fa156_2, fa156_3, fa156_4, fa156_5, fa156_6, len271, fa274_0, fa274_1, fa274_2]
  obtain ⟨Z, cz, t1, t2, t3, t4⟩ := hR.row q hlt
  refine rdi (zwe_ hR.ptr hlt) ?_
  rw [zfi_ zbe_ sz33 (cs := [.int .i64 (rul rs q).1, .slice Z (rul rs q).2.length cz]) rfl (fun j hj => by
    match j, hj with
    | 0, _ => rw [zhc_, Nat.add_zero]; exact g2.cell t1
    | 1, _ => rw [zhc_]; exact g2.cell t2)]
  have G := Apt.nil w2
  refine zid_ G zhd_ fun b4 w4 G => ?_
  simp only [List.nil_append] at G
  refine zyb_ G 0 rfl sz33 rfl rfl rfl fun w5 G => ?_
  simp only [List.set_cons_zero] at G
  rw [zv_ zbe_ sz33 rfl (hB2.gr G.gr), zv_ zbe_ sz33 rfl (G.box 0 rfl)]
  refine zrk_ (F := fun _ => True) (E := fun _ => True) (r := r) (q := rul rs q) ⟨Y, d, rfl, (Row.cap hY).1, ⟨(Own.ints hY).gr (zf_ g2 G.gr), fun _ => trivial⟩⟩ ⟨Z, cz, rfl, t3, (t4.gr (zf_ g2 G.gr)).mono fun _ _ => trivial⟩ fun w6 g6 => ?_
  have g26 := zf_ g2 (zf_ G.gr g6)
  by_cases he : r = rul rs q
  · rw [decide_eq_true he]
    simp only [zq18, zq19, zq20, zq21, zq22, zq23, zq24, zq25, zq26, zq27, zq28, zq4, zq3, zq1, zq2, zq0, zq29, zq30, zq14, zq15, zq16, zq17, zq13, zq10, zq12, zq11, zq7, zq5, zq6, zq9, zq8, zq31, zq32, ite_T, ite_F, zq33, zq34, zq35, Nat.reduceEqDiff, len22, len24, fa26_0, fa26_1, fa26_2, len27, fa33_0, fa33_1, len35, fa114_0, fa114_1, fa114_2, fa124_0, fa124_1, len134, len154, fa156_0, fa156_1, fa156_2, fa156_3, fa156_4, fa156_5, fa156_6, len271, fa274_0, fa274_1, fa274_2]
    have H6 := forget (H.step g26) j hj
    have := hk w6 ft X c rs (.inl ⟨rfl, by omega⟩)
    rw [set_same hi] at this
    exact this H6
  · rw [decide_eq_false he]
    simp only [zq18, zq19, zq20, zq21, zq22, zq23, zq24, zq25, zq26, zq27, zq28, zq4, zq3, zq1, zq2, zq0, zq29, zq30, zq14, zq15, zq16, zq17, zq13, zq10, zq12, zq11, zq7, zq5, zq6, zq9, zq8, zq31, zq32, ite_T, ite_F, zq33, zq34, zq35, Nat.reduceEqDiff, len22, len24, fa26_0, fa26_1, fa26_2, len27, fa33_0, fa33_1, len35, fa114_0, fa114_1, fa114_2, fa124_0, fa124_1, len134, len154, fa156_0, fa156_1, fa156_2, fa156_3, fa156_4, fa156_5, fa156_6, len271, fa274_0, fa274_1, fa274_2]
    rw [zj_ (by omega) (by omega)]
    exact hN _ _ hlt ⟨hlt, rfl, g26⟩
end
section
variable {w0 w : World} {E : List Thing} {bc N : Nat} {C : Option Addr} {cap : Nat} {bs : List Int} {k : Value → World → Prop}
set_option maxHeartbeats 6400000 in
theorem grammar_c (H : Apt w0 w (cur bc (.slice C bs.length cap) N :: E)) (hC : Byts w0 C bs) (hN : N ≤ 1000000) (hk : ∀ w' gm ft X c, Drawn 100 gm → Apt w0 w' (cur bc (.slice C bs.length cap) (N + 500) :: gth ft X c gm.rules :: E) → k (.agg #[.int .i64 gm.nons, .int .i64 gm.toks, .slice X gm.rules.length c]) w') :
    CallK Try.prog 246 [ptrv bc] k w := by
  refine enter246 ?_
  unfold S246
  refine zid_ H inf26 fun b1 w1 H => ?_
  have H := H.insert 1
  simp only [List.take_succ_cons, List.take_zero, List.drop_succ_cons, List.drop_zero, List.nil_append, List.cons_append] at H
  refine one_c H 0 rfl hC (by omega) (by omega) fun w2 b H => ?_
  simp only [List.set_cons_zero] at H
  cases b
  case true =>
    simp only [zq18, zq19, zq20, zq21, zq22, zq23, zq24, zq25, zq26, zq27, zq28, zq4, zq3, zq1, zq2, zq0, zq29, zq30, zq14, zq15, zq16, zq17, zq13, zq10, zq12, zq11, zq7, zq5, zq6, zq9, zq8, zq31, zq32, ite_T, ite_F, zq33, zq34, zq35, Nat.reduceEqDiff, len22, len24, fa26_0, fa26_1, fa26_2, len27, fa33_0, fa33_1, len35, fa114_0, fa114_1, fa114_2, fa124_0, fa124_1, len134, len154, fa156_0, fa156_1, fa156_2, fa156_3, fa156_4, fa156_5, fa156_6, len271, fa274_0, fa274_1, fa274_2]
    refine known_c H hC (by omega) fun w3 gm ft X c hd H => ?_
    refine zyb_ H 2 rfl sz26 rfl rfl rfl fun w4 H => ?_
    simp only [List.set_cons_zero, List.set_cons_succ] at H
    rw [zve_, zv_ zdb_ sz26 rfl (H.box 2 rfl)]
    have H := H.erase 2
    simp only [List.eraseIdx_cons_zero, List.eraseIdx_cons_succ] at H
    exact hk w4 gm ft X c hd (zte_ H (by omega))
  simp only [zq18, zq19, zq20, zq21, zq22, zq23, zq24, zq25, zq26, zq27, zq28, zq4, zq3, zq1, zq2, zq0, zq29, zq30, zq14, zq15, zq16, zq17, zq13, zq10, zq12, zq11, zq7, zq5, zq6, zq9, zq8, zq31, zq32, ite_T, ite_F, zq33, zq34, zq35, Nat.reduceEqDiff, len22, len24, fa26_0, fa26_1, fa26_2, len27, fa33_0, fa33_1, len35, fa114_0, fa114_1, fa114_2, fa124_0, fa124_1, len134, len154, fa156_0, fa156_1, fa156_2, fa156_3, fa156_4, fa156_5, fa156_6, len271, fa274_0, fa274_1, fa274_2]
  refine zfc_ H 0 rfl hC (by omega) (by omega) fun w3 a _ ha H => ?_
  simp only [List.set_cons_zero, zq18, zq19, zq20, zq21, zq22, zq23, zq24, zq25, zq26, zq27, zq28, zq4, zq3, zq1, zq2, zq0, zq29, zq30, zq14, zq15, zq16, zq17, zq13, zq10, zq12, zq11, zq7, zq5, zq6, zq9, zq8, zq31, zq32, ite_T, ite_F, zq33, zq34, zq35, Nat.reduceEqDiff, len22, len24, fa26_0, fa26_1, fa26_2, len27, fa33_0, fa33_1, len35, fa114_0, fa114_1, fa114_2, fa124_0, fa124_1, len134, len154, fa156_0, fa156_1, fa156_2, fa156_3, fa156_4, fa156_5, fa156_6, len271, fa274_0, fa274_1, fa274_2] at H ⊢
  have ha := ha (by omega)
  refine zfc_ H 0 rfl hC (by omega) (by omega) fun w4 t _ ht H => ?_
  simp only [List.set_cons_zero, zq18, zq19, zq20, zq21, zq22, zq23, zq24, zq25, zq26, zq27, zq28, zq4, zq3, zq1, zq2, zq0, zq29, zq30, zq14, zq15, zq16, zq17, zq13, zq10, zq12, zq11, zq7, zq5, zq6, zq9, zq8, zq31, zq32, ite_T, ite_F, zq33, zq34, zq35, Nat.reduceEqDiff, len22, len24, fa26_0, fa26_1, fa26_2, len27, fa33_0, fa33_1, len35, fa114_0, fa114_1, fa114_2, fa124_0, fa124_1, len134, len154, fa156_0, fa156_1, fa156_2, fa156_3, fa156_4, fa156_5, fa156_6, len271, fa274_0, fa274_1, fa274_2] at H ⊢
  have ht := ht (by omega)
  rw [zj_ (n := 1 + (a : Int)) (by omega) (by omega), zj_ (n := 1 + (t : Int)) (by omega) (by omega)]
  rw [bd26 (cells := #[.int .i64 (1 + (a : Int)), .int .i64 (1 + (t : Int)), .slice none 0 0]) rfl]
  refine zid_ H inf26 fun b2 w5 H => ?_
  have H := H.insert 1
  simp only [List.take_succ_cons, List.take_zero, List.drop_succ_cons, List.drop_zero, List.nil_append, List.cons_append] at H
  refine zyb_ H 1 rfl sz26 rfl rfl rfl fun w6 H => ?_
  simp only [List.set_cons_zero, List.set_cons_succ] at H
  refine zfc_ H 0 rfl hC (by omega) (by omega) fun w7 n0 _ hn0 H => ?_
  simp only [List.set_cons_zero, zq18, zq19, zq20, zq21, zq22, zq23, zq24, zq25, zq26, zq27, zq28, zq4, zq3, zq1, zq2, zq0, zq29, zq30, zq14, zq15, zq16, zq17, zq13, zq10, zq12, zq11, zq7, zq5, zq6, zq9, zq8, zq31, zq32, ite_T, ite_F, zq33, zq34, zq35, Nat.reduceEqDiff, len22, len24, fa26_0, fa26_1, fa26_2, len27, fa33_0, fa33_1, len35, fa114_0, fa114_1, fa114_2, fa124_0, fa124_1, len134, len154, fa156_0, fa156_1, fa156_2, fa156_3, fa156_4, fa156_5, fa156_6, len271, fa274_0, fa274_1, fa274_2] at H ⊢
  have hn0 := hn0 (by omega)
  rw [zj_ (n := 1 + (n0 : Int)) (by omega) (by omega)]
  have H := (nilGow (e := 33) H).insert 1
  simp only [List.take_succ_cons, List.take_zero, List.drop_succ_cons, List.drop_zero, List.nil_append, List.cons_append] at H
  refine zbf_ (fun m f w' => m ≤ 1 + n0 ∧ f 4 = .int .i64 (m : Int) ∧ ∃ N' ft X c, ∃ rs : List RuleL, N' ≤ N + 20 + (1 + n0 - m) * 40 ∧ rs.length ≤ 1 + n0 - m ∧ (m < 1 + n0 → 0 < rs.length) ∧ Apt w0 w' (cur bc (.slice C bs.length cap) N' :: gth ft X c rs :: bx b2 [.int .i64 (1 + (a : Int)), .int .i64 (1 + (t : Int)), .slice X rs.length c] 26 :: bx b1 [.int .i64 0, .int .i64 0, .slice none 0 0] 26 :: E)) (fun m => m) (1 + n0)
    ⟨Nat.le_refl _, rfl, _, _, none, 0, [], by omega, by simp, fun h => by omega, H⟩ ?_
  clear H
  rintro m f w8 NN hag ⟨hm, f4, N', ft, X, c, rs, hN', hrs, hpos, H⟩ hN2
  have f0 : f 0 = ptrv bc := hag 0 (by decide)
  have f2 : f 2 = ptrv b1 := hag 2 (by decide)
  have f3 : f 3 = ptrv b2 := hag 3 (by decide)
  simp only [f0, f3, f4, zq18, zq19, zq20, zq21, zq22, zq23, zq24, zq25, zq26, zq27, zq28, zq4, zq3, zq1, zq2, zq0, zq29, zq30, zq14, zq15, zq16, zq17, zq13, zq10, zq12, zq11, zq7, zq5, zq6, zq9, zq8, zq31, zq32, ite_T, ite_F, zq33, zq34, zq35, Nat.reduceEqDiff, len22, len24, fa26_0, fa26_1, fa26_2, len27, fa33_0, fa33_1, len35, fa114_0, fa114_1, fa114_2, fa124_0, fa124_1, len134, len154, fa156_0, fa156_1, fa156_2, fa156_3, fa156_4, fa156_5, fa156_6, len271, fa274_0, fa274_1, fa274_2]
  by_cases hm0 : 0 < m
  case neg =>
    simp only [show ¬ ((0 : Int) < (m : Int)) from by omega, decide_false, zq18, zq19, zq20, zq21, zq22, zq23, zq24, zq25, zq26, zq27, zq28, zq4, zq3, zq1, zq2, zq0, zq29, zq30, zq14, zq15, zq16, zq17, zq13, zq10, zq12, zq11, zq7, zq5, zq6, zq9, zq8, zq31, zq32, ite_T, ite_F, zq33, zq34, zq35, Nat.reduceEqDiff, len22, len24, fa26_0, fa26_1, fa26_2, len27, fa33_0, fa33_1, len35, fa114_0, fa114_1, fa114_2, fa124_0, fa124_1, len134, len154, fa156_0, fa156_1, fa156_2, fa156_3, fa156_4, fa156_5, fa156_6, len271, fa274_0, fa274_1, fa274_2]
    simp only [f2, f3, zq18, zq19, zq20, zq21, zq22, zq23, zq24, zq25, zq26, zq27, zq28, zq4, zq3, zq1, zq2, zq0, zq29, zq30, zq14, zq15, zq16, zq17, zq13, zq10, zq12, zq11, zq7, zq5, zq6, zq9, zq8, zq31, zq32, ite_T, ite_F, zq33, zq34, zq35, Nat.reduceEqDiff, len22, len24, fa26_0, fa26_1, fa26_2, len27, fa33_0, fa33_1, len35, fa114_0, fa114_1, fa114_2, fa124_0, fa124_1, len134, len154, fa156_0, fa156_1, fa156_2, fa156_3, fa156_4, fa156_5, fa156_6, len271, fa274_0, fa274_1, fa274_2]
    rw [zv_ zdb_ sz26 rfl (H.box 2 rfl)]
    refine zyb_ H 3 rfl sz26 rfl rfl rfl fun w9 H => ?_
    simp only [List.set_cons_zero, List.set_cons_succ] at H
    rw [zve_, zv_ zdb_ sz26 rfl (H.box 3 rfl)]
    have H := (H.erase 3).erase 2
    simp only [List.eraseIdx_cons_zero, List.eraseIdx_cons_succ] at H
    exact hk w9 ⟨1 + (a : Int), 1 + (t : Int), rs⟩ ft X c ⟨⟨by show 0 ≤ 1 + (a : Int); omega, by show 1 + (a : Int) ≤ 1000; omega⟩, ⟨by show 0 ≤ 1 + (t : Int); omega, by show 1 + (t : Int) ≤ 1000; omega⟩, hpos (by omega), by show rs.length ≤ 100; omega⟩ (zte_ H (by omega))
  simp only [show ((0 : Int) < (m : Int)) from by omega, decide_true, zq18, zq19, zq20, zq21, zq22, zq23, zq24, zq25, zq26, zq27, zq28, zq4, zq3, zq1, zq2, zq0, zq29, zq30, zq14, zq15, zq16, zq17, zq13, zq10, zq12, zq11, zq7, zq5, zq6, zq9, zq8, zq31, zq32, ite_T, ite_F, zq33, zq34, zq35, Nat.reduceEqDiff, len22, len24, fa26_0, fa26_1, fa26_2, len27, fa33_0, fa33_1, len35, fa114_0, fa114_1, fa114_2, fa124_0, fa124_1, len134, len154, fa156_0, fa156_1, fa156_2, fa156_3, fa156_4, fa156_5, fa156_6, len271, fa274_0, fa274_1, fa274_2]
  rw [ldB3 (H.box 2 rfl) rfl]
  refine zfc_ H 0 rfl hC (by omega) (by omega) fun w9 l _ hl H => ?_
  simp only [List.set_cons_zero] at H
  rw [bd33 (cells := #[.int .i64 (l : Int), .slice none 0 0]) rfl]
  refine zid_ H zhd_ fun b3 w10 H => ?_
  have H := H.insert 2
  simp only [List.take_succ_cons, List.take_zero, List.drop_succ_cons, List.drop_zero, List.nil_append, List.cons_append] at H
  refine zyb_ H 2 rfl sz33 rfl rfl rfl fun w11 H => ?_
  simp only [List.set_cons_zero, List.set_cons_succ] at H
  refine zfc_ H 0 rfl hC (by omega) (by omega) fun w12 kk _ hkk H => ?_
  simp only [List.set_cons_zero] at H
  have hkk := hkk (by omega)
  have H := (H.addOwn (Gr.refl _) (show Own 3 w12 w12.heap.size none 0 [] from Row.nil _ _ _ _)).insert 3
  simp only [List.take_succ_cons, List.take_zero, List.drop_succ_cons, List.drop_zero, List.nil_append, List.cons_append] at H
  refine zbf_ (fun o f w' => o ≤ kk ∧ f 6 = .int .i64 (o : Int) ∧ f 4 = .int .i64 (m : Int) ∧ ∃ N2 Z d, ∃ xs : List Int, N2 ≤ N' + 4 + (kk - o) * 6 ∧ xs.length ≤ kk - o ∧ Apt w0 w' (cur bc (.slice C bs.length cap) N2 :: gth ft X c rs :: bx b3 [.int .i64 (l : Int), .slice Z xs.length d] 33 :: ows Z d xs :: bx b2 [.int .i64 (1 + (a : Int)), .int .i64 (1 + (t : Int)), .slice X rs.length c] 26 :: bx b1 [.int .i64 0, .int .i64 0, .slice none 0 0] 26 :: E)) (fun o => o) kk
    ⟨Nat.le_refl _, rfl, f4, _, none, 0, [], by omega, by simp, H⟩ ?_
  clear H
  rintro o g w13 N3 hag2 ⟨ho, g6, g4, N2, Z, d, xs, hN2', hxs, H⟩ hN4
  have g0 : g 0 = ptrv bc := (hag2 0 (by decide)).trans f0
  have g3 : g 3 = ptrv b2 := (hag2 3 (by decide)).trans f3
  have g5 : g 5 = ptrv b3 := hag2 5 (by decide)
  simp only [g0, g3, g6, zq18, zq19, zq20, zq21, zq22, zq23, zq24, zq25, zq26, zq27, zq28, zq4, zq3, zq1, zq2, zq0, zq29, zq30, zq14, zq15, zq16, zq17, zq13, zq10, zq12, zq11, zq7, zq5, zq6, zq9, zq8, zq31, zq32, ite_T, ite_F, zq33, zq34, zq35, Nat.reduceEqDiff, len22, len24, fa26_0, fa26_1, fa26_2, len27, fa33_0, fa33_1, len35, fa114_0, fa114_1, fa114_2, fa124_0, fa124_1, len134, len154, fa156_0, fa156_1, fa156_2, fa156_3, fa156_4, fa156_5, fa156_6, len271, fa274_0, fa274_1, fa274_2]
  by_cases ho0 : 0 < o
  case neg =>
    simp only [show ¬ ((0 : Int) < (o : Int)) from by omega, decide_false, zq18, zq19, zq20, zq21, zq22, zq23, zq24, zq25, zq26, zq27, zq28, zq4, zq3, zq1, zq2, zq0, zq29, zq30, zq14, zq15, zq16, zq17, zq13, zq10, zq12, zq11, zq7, zq5, zq6, zq9, zq8, zq31, zq32, ite_T, ite_F, zq33, zq34, zq35, Nat.reduceEqDiff, len22, len24, fa26_0, fa26_1, fa26_2, len27, fa33_0, fa33_1, len35, fa114_0, fa114_1, fa114_2, fa124_0, fa124_1, len134, len154, fa156_0, fa156_1, fa156_2, fa156_3, fa156_4, fa156_5, fa156_6, len271, fa274_0, fa274_1, fa274_2]
    simp only [g3, g4, g5, zq18, zq19, zq20, zq21, zq22, zq23, zq24, zq25, zq26, zq27, zq28, zq4, zq3, zq1, zq2, zq0, zq29, zq30, zq14, zq15, zq16, zq17, zq13, zq10, zq12, zq11, zq7, zq5, zq6, zq9, zq8, zq31, zq32, ite_T, ite_F, zq33, zq34, zq35, Nat.reduceEqDiff, len22, len24, fa26_0, fa26_1, fa26_2, len27, fa33_0, fa33_1, len35, fa114_0, fa114_1, fa114_2, fa124_0, fa124_1, len134, len154, fa156_0, fa156_1, fa156_2, fa156_3, fa156_4, fa156_5, fa156_6, len271, fa274_0, fa274_1, fa274_2]
    rw [zuf_ (H.box 4 rfl) rfl, zv_ zbe_ sz33 rfl (H.box 2 rfl)]
    refine put2_c (r := ((l : Int), xs)) H 1 3 (by decide) rfl rfl (by omega) fun w14 ft' X' c' rs' hrs' H => ?_
    simp only [List.set_cons_zero, List.set_cons_succ] at H
    refine zyb_ H 4 rfl sz24 rfl rfl rfl fun w15 H => ?_
    simp only [List.set_cons_zero, List.set_cons_succ] at H
    have H := (H.erase 3).erase 2
    simp only [List.eraseIdx_cons_zero, List.eraseIdx_cons_succ] at H
    rw [zj_ (by omega) (by omega), show (m : Int) - 1 = ((m - 1 : Nat) : Int) from by omega]
    have hl' : rs'.length ≤ rs.length + 1 ∧ 0 < rs'.length := by
      rcases hrs' with ⟨e, h0⟩ | e
      · rw [e]
        exact ⟨by omega, h0⟩
      · rw [e, List.length_append, List.length_singleton]
        omega
    exact hN2 (m - 1) _ _ ⟨by omega, rfl, N2, ft', X', c', rs', by omega, by omega, fun _ => hl'.2, H⟩ (by omega)
  simp only [show ((0 : Int) < (o : Int)) from by omega, decide_true, zq18, zq19, zq20, zq21, zq22, zq23, zq24, zq25, zq26, zq27, zq28, zq4, zq3, zq1, zq2, zq0, zq29, zq30, zq14, zq15, zq16, zq17, zq13, zq10, zq12, zq11, zq7, zq5, zq6, zq9, zq8, zq31, zq32, ite_T, ite_F, zq33, zq34, zq35, Nat.reduceEqDiff, len22, len24, fa26_0, fa26_1, fa26_2, len27, fa33_0, fa33_1, len35, fa114_0, fa114_1, fa114_2, fa124_0, fa124_1, len134, len154, fa156_0, fa156_1, fa156_2, fa156_3, fa156_4, fa156_5, fa156_6, len271, fa274_0, fa274_1, fa274_2]
  refine zmd_ (fun g w' => g 6 = .int .i64 (o : Int) ∧ g 4 = .int .i64 (m : Int) ∧ ∃ N2 Z d, ∃ xs : List Int, N2 ≤ N' + 4 + (kk - o) * 6 + 6 ∧ xs.length ≤ kk - o + 1 ∧ Apt w0 w' (cur bc (.slice C bs.length cap) N2 :: gth ft X c rs :: bx b3 [.int .i64 (l : Int), .slice Z xs.length d] 33 :: ows Z d xs :: bx b2 [.int .i64 (1 + (a : Int)), .int .i64 (1 + (t : Int)), .slice X rs.length c] 26 :: bx b1 [.int .i64 0, .int .i64 0, .slice none 0 0] 26 :: E)) (fun K1 hK1 => ?_) ?_
  case refine_2 =>
    rintro g w' ⟨g6, g4, N2, Z, d, xs, h1, h2, H⟩
    simp only [g6, zq18, zq19, zq20, zq21, zq22, zq23, zq24, zq25, zq26, zq27, zq28, zq4, zq3, zq1, zq2, zq0, zq29, zq30, zq14, zq15, zq16, zq17, zq13, zq10, zq12, zq11, zq7, zq5, zq6, zq9, zq8, zq31, zq32, ite_T, ite_F, zq33, zq34, zq35, Nat.reduceEqDiff, len22, len24, fa26_0, fa26_1, fa26_2, len27, fa33_0, fa33_1, len35, fa114_0, fa114_1, fa114_2, fa124_0, fa124_1, len134, len154, fa156_0, fa156_1, fa156_2, fa156_3, fa156_4, fa156_5, fa156_6, len271, fa274_0, fa274_1, fa274_2]
    rw [zj_ (by omega) (by omega), show (o : Int) - 1 = ((o - 1 : Nat) : Int) from by omega]
    exact hN4 (o - 1) _ _ ⟨by omega, rfl, g4, N2, Z, d, xs, by omega, by omega, H⟩ (by omega)
  rw [ldB3 (H.box 4 rfl) rfl]
  refine zfc_ H 0 rfl hC (by omega) (by omega) fun w14 x _ hx H => ?_
  simp only [List.set_cons_zero] at H
  refine zmd_ (fun g w' => g 6 = .int .i64 (o : Int) ∧ g 4 = .int .i64 (m : Int) ∧ g 5 = ptrv b3 ∧ (∃ x : Int, g 7 = .int .i64 x) ∧ ∃ N2, N2 ≤ N' + 4 + (kk - o) * 6 + 6 ∧ Apt w0 w' (cur bc (.slice C bs.length cap) N2 :: gth ft X c rs :: bx b3 [.int .i64 (l : Int), .slice Z xs.length d] 33 :: ows Z d xs :: bx b2 [.int .i64 (1 + (a : Int)), .int .i64 (1 + (t : Int)), .slice X rs.length c] 26 :: bx b1 [.int .i64 0, .int .i64 0, .slice none 0 0] 26 :: E)) (fun K2 hK2 => ?_) ?_
  · refine one_c H 0 rfl hC (by omega) (by omega) fun w15 b H => ?_
    simp only [List.set_cons_zero] at H
    cases b
    · simp only [zq18, zq19, zq20, zq21, zq22, zq23, zq24, zq25, zq26, zq27, zq28, zq4, zq3, zq1, zq2, zq0, zq29, zq30, zq14, zq15, zq16, zq17, zq13, zq10, zq12, zq11, zq7, zq5, zq6, zq9, zq8, zq31, zq32, ite_T, ite_F, zq33, zq34, zq35, Nat.reduceEqDiff, len22, len24, fa26_0, fa26_1, fa26_2, len27, fa33_0, fa33_1, len35, fa114_0, fa114_1, fa114_2, fa124_0, fa124_1, len134, len154, fa156_0, fa156_1, fa156_2, fa156_3, fa156_4, fa156_5, fa156_6, len271, fa274_0, fa274_1, fa274_2]
      exact hK2 _ _ ⟨g6, g4, g5, ⟨_, rfl⟩, _, by omega, H⟩
    · simp only [zq18, zq19, zq20, zq21, zq22, zq23, zq24, zq25, zq26, zq27, zq28, zq4, zq3, zq1, zq2, zq0, zq29, zq30, zq14, zq15, zq16, zq17, zq13, zq10, zq12, zq11, zq7, zq5, zq6, zq9, zq8, zq31, zq32, ite_T, ite_F, zq33, zq34, zq35, Nat.reduceEqDiff, len22, len24, fa26_0, fa26_1, fa26_2, len27, fa33_0, fa33_1, len35, fa114_0, fa114_1, fa114_2, fa124_0, fa124_1, len134, len154, fa156_0, fa156_1, fa156_2, fa156_3, fa156_4, fa156_5, fa156_6, len271, fa274_0, fa274_1, fa274_2]
      rw [ldB3 (H.box 4 rfl) rfl]
      refine zfc_ H 0 rfl hC (by omega) (by omega) fun w16 y _ hy H => ?_
      simp only [List.set_cons_zero, zq18, zq19, zq20, zq21, zq22, zq23, zq24, zq25, zq26, zq27, zq28, zq4, zq3, zq1, zq2, zq0, zq29, zq30, zq14, zq15, zq16, zq17, zq13, zq10, zq12, zq11, zq7, zq5, zq6, zq9, zq8, zq31, zq32, ite_T, ite_F, zq33, zq34, zq35, Nat.reduceEqDiff, len22, len24, fa26_0, fa26_1, fa26_2, len27, fa33_0, fa33_1, len35, fa114_0, fa114_1, fa114_2, fa124_0, fa124_1, len134, len154, fa156_0, fa156_1, fa156_2, fa156_3, fa156_4, fa156_5, fa156_6, len271, fa274_0, fa274_1, fa274_2] at H ⊢
      exact hK2 _ _ ⟨g6, g4, g5, ⟨_, rfl⟩, _, by omega, H⟩
  · clear H
    rintro g w15 ⟨g6, g4, g5, ⟨y, g7⟩, N5, hN5, H⟩
    simp only [g5, g7, zq18, zq19, zq20, zq21, zq22, zq23, zq24, zq25, zq26, zq27, zq28, zq4, zq3, zq1, zq2, zq0, zq29, zq30, zq14, zq15, zq16, zq17, zq13, zq10, zq12, zq11, zq7, zq5, zq6, zq9, zq8, zq31, zq32, ite_T, ite_F, zq33, zq34, zq35, Nat.reduceEqDiff, len22, len24, fa26_0, fa26_1, fa26_2, len27, fa33_0, fa33_1, len35, fa114_0, fa114_1, fa114_2, fa124_0, fa124_1, len134, len154, fa156_0, fa156_1, fa156_2, fa156_3, fa156_4, fa156_5, fa156_6, len271, fa274_0, fa274_1, fa274_2]
    rw [zrd_ (H.box 2 rfl) rfl]
    refine pushH H 3 rfl rfl (by omega) fun t1 Z2 d2 w16 H => ?_
    simp only [List.set_cons_zero, List.set_cons_succ, zq18, zq19, zq20, zq21, zq22, zq23, zq24, zq25, zq26, zq27, zq28, zq4, zq3, zq1, zq2, zq0, zq29, zq30, zq14, zq15, zq16, zq17, zq13, zq10, zq12, zq11, zq7, zq5, zq6, zq9, zq8, zq31, zq32, ite_T, ite_F, zq33, zq34, zq35, Nat.reduceEqDiff, len22, len24, fa26_0, fa26_1, fa26_2, len27, fa33_0, fa33_1, len35, fa114_0, fa114_1, fa114_2, fa124_0, fa124_1, len134, len154, fa156_0, fa156_1, fa156_2, fa156_3, fa156_4, fa156_5, fa156_6, len271, fa274_0, fa274_1, fa274_2] at H ⊢
    refine zyb_ H 2 rfl sz27 rfl rfl rfl fun w17 H => ?_
    simp only [List.set_cons_zero, List.set_cons_succ, List.take_succ_cons, List.take_zero, List.drop_succ_cons, List.drop_zero, List.nil_append, List.cons_append, List.drop_nil, Value.cells] at H
    exact hK1 _ _ ⟨g6, g4, N5, Z2, d2, xs ++ [y], hN5, by rw [List.length_append, List.length_singleton]; omega, H⟩
end
end Go.Proofs.Ytegcjkhebecgbaa

namespace Go.Sh
open Go
end Go.Sh
namespace Go.Proofs.Ytegcjkhebecgbaa
open Go Go.Sh Go.RowKit

theorem l1Most_c {x y : Int} {w : World} {k : Value → World → Prop} (hk : k (.int .i64 (if x < y then y else x)) w) : CallK Try.prog 159 [.int .i64 x, .int .i64 y] k w := by
  refine enter159 ?_
  unfold S159
  simp only [go_sem, Nat.reduceEqDiff]
  by_cases h : y < x
  · simp only [h, decide_true, go_sem, Nat.reduceEqDiff]
    rwa [if_neg (by omega)] at hk
  · simp only [h, decide_false, go_sem, Nat.reduceEqDiff]
    by_cases h2 : x < y
    · rwa [if_pos h2] at hk
    · rw [if_neg h2] at hk
      have : x = y := by omega
      rwa [this] at hk
end Go.Proofs.Ytegcjkhebecgbaa
