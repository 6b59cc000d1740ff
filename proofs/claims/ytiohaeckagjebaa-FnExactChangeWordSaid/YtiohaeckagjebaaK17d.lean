/- Texts of this repository put together: ShC2, ShG5, ShG6, ShH1, ShH2, ShH3, ShH4, ShH5, ShK2, ShP2, ShK3, ShV, ShP1. -/
import Derived.Test.YtiohaeckagjebaaK17c

/- Contracts of what PumpWord reaches, second part. -/
set_option linter.unusedVariables false
set_option linter.unusedSimpArgs false
set_option maxRecDepth 100000
namespace Go.Sh
open Go
theorem all4 {cs : List Int} {n : Int} (h4 : cs.length = 4) : allB cs 0 n = true ↔ ∀ j, j < 4 → 0 ≤ cs.getD j 0 ∧ cs.getD j 0 ≤ n := by
  constructor
  · intro h j hj
    have := List.all_eq_true.1 h _ (getD_mem (xs := cs) (i := j) (by omega))
    simpa [inB] using this
  · intro h
    refine all_of fun j hj => ?_
    have := h j (by omega)
    simp [inB]
    simpa using this
def pumpW (xs cs : List Int) (many : Int) : Option (List Int) :=
  if xs.length ≤ 60 ∧ allB xs 0 1000000 = true ∧ Cuts cs xs.length ∧ inB many 0 4 = true then
    (if (pumpL xs cs many.toNat).length ≤ 60 then some (pumpL xs cs many.toNat) else none)
  else none
end Go.Sh
namespace Go.Proofs.Ytiohaeckagjebaa
open Go Go.Sh Go.RowKit

theorem l18Cuts_c {w : World} {Y : Option Addr} {d n : Nat} {cs : List Int} (hy : Ints w Y cs) {k : Value → World → Prop} (hk : ∀ w', Gr w w' → k (.bool (decide (Cuts cs n))) w') :
    CallK Try.prog 76 [.slice Y cs.length d, .int .i64 n] k w := by
  refine enter76 ?_
  unfold S76
  simp only [go_sem, Nat.reduceEqDiff]
  by_cases h4 : cs.length = 4
  · simp only [h4, decide_true, Bool.not_true, go_sem, Nat.reduceEqDiff, show ((4 : Nat) : Int) = 4 from rfl]
    rw [← h4]
    refine l1All_c hy fun w1 g1 => ?_
    simp only [go_sem, Nat.reduceEqDiff]
    cases hb : allB cs 0 n
    · simp only [Bool.not_false, go_sem, Nat.reduceEqDiff]
      have := hk w1 g1
      rwa [decide_eq_false] at this
      intro hc
      have : allB cs 0 n = true := (all4 h4).2 fun j hj => by
        obtain ⟨_, c0, c1, c2, c3, c4⟩ := hc
        rcases (show j = 0 ∨ j = 1 ∨ j = 2 ∨ j = 3 by omega) with rfl | rfl | rfl | rfl <;> omega
      rw [this] at hb
      cases hb
    · simp only [Bool.not_true, go_sem, Nat.reduceEqDiff]
      have ha := (all4 h4).1 hb
      have gd := gr_trans g1 (gr_drew w1)
      have hy' := hy.gr gd
      rw [ix22_0 hy.ptr (by omega), ld3 (hy'.cell 0 (by omega)), ix22_1 hy.ptr (by omega), ld3 (hy'.cell 1 (by omega))]
      simp only [go_sem, Nat.reduceEqDiff]
      have hk' := hk _ gd
      by_cases h01 : cs.getD 0 0 ≤ cs.getD 1 0
      · simp only [h01, decide_true, go_sem, Nat.reduceEqDiff]
        rw [ix22_1 hy.ptr (by omega), ld3 (hy'.cell 1 (by omega)), ix22_2 hy.ptr (by omega), ld3 (hy'.cell 2 (by omega))]
        simp only [go_sem, Nat.reduceEqDiff]
        by_cases h12 : cs.getD 1 0 ≤ cs.getD 2 0
        · simp only [h12, decide_true, go_sem, Nat.reduceEqDiff]
          rw [ix22_2 hy.ptr (by omega), ld3 (hy'.cell 2 (by omega)), ix22_3 hy.ptr (by omega), ld3 (hy'.cell 3 (by omega))]
          simp only [go_sem, Nat.reduceEqDiff]
          have h0 := ha 0 (by omega)
          have h3 := ha 3 (by omega)
          rwa [show decide (Cuts cs n) = decide (cs.getD 2 0 ≤ cs.getD 3 0) from decide_eq_decide.2 ⟨fun h => h.h23, fun h => ⟨h4, h0.1, h01, h12, h, h3.2⟩⟩] at hk'
        · simp only [h12, decide_false, go_sem, Nat.reduceEqDiff]
          rwa [decide_eq_false (fun h => h12 h.h12)] at hk'
      · simp only [h01, decide_false, go_sem, Nat.reduceEqDiff]
        rwa [decide_eq_false (fun h => h01 h.h01)] at hk'
  · have h4' : ¬ ((cs.length : Int) = 4) := by omega
    simp only [h4', decide_false, Bool.not_false, go_sem, Nat.reduceEqDiff]
    have := hk w (Gr.refl w)
    rwa [decide_eq_false (fun h => h4 h.len)] at this

theorem specPumpWord_c {w : World} {X Y : Option Addr} {c d : Nat} {xs cs : List Int} {many : Int} (hx : Ints w X xs) (hc : xs.length ≤ c) (hy : Ints w Y cs) {k : Value → World → Prop}
    (hk : ∀ X' c' w', Gr w w' → match pumpW xs cs many with
      | some l => Own 3 w' w.heap.size X' c' l → k (.tuple #[.slice X' l.length c', .bool true]) w'
      | none => k (.tuple #[.slice none 0 0, .bool false]) w') :
    CallK Try.prog 23 [.slice X xs.length c, .slice Y cs.length d, .int .i64 many] k w := by
  refine enter23 ?_
  unfold S23
  simp only [go_sem, Nat.reduceEqDiff]
  by_cases h60 : (60 : Int) < xs.length
  · simp only [h60, decide_true, go_sem, Nat.reduceEqDiff]
    have := hk none 0 w (Gr.refl w)
    rwa [show pumpW xs cs many = none from if_neg (fun h => by omega)] at this
  simp only [h60, decide_false, go_sem, Nat.reduceEqDiff]
  refine l1All_c hx fun w1 g1 => ?_
  simp only [go_sem, Nat.reduceEqDiff]
  cases ha : allB xs 0 1000000
  · simp only [Bool.not_false, go_sem, Nat.reduceEqDiff]
    have := hk none 0 w1 g1
    rwa [show pumpW xs cs many = none from if_neg (fun h => by rw [ha] at h; exact absurd h.2.1 (by decide))] at this
  simp only [Bool.not_true, go_sem, Nat.reduceEqDiff]
  refine l18Cuts_c (hy.gr g1) fun w2 g2 => ?_
  have g2' := gr_trans g1 g2
  simp only [go_sem, Nat.reduceEqDiff]
  by_cases hcs : Cuts cs xs.length
  rotate_left
  · simp only [hcs, decide_false, Bool.not_false, go_sem, Nat.reduceEqDiff]
    have := hk none 0 w2 g2'
    rwa [show pumpW xs cs many = none from if_neg (fun h => hcs h.2.2.1)] at this
  simp only [hcs, decide_true, Bool.not_true, go_sem, Nat.reduceEqDiff]
  refine l1In_c ?_
  simp only [go_sem, Nat.reduceEqDiff]
  cases hm : inB many 0 4
  · simp only [Bool.not_false, go_sem, Nat.reduceEqDiff]
    have := hk none 0 w2 g2'
    rwa [show pumpW xs cs many = none from if_neg (fun h => by rw [hm] at h; exact absurd h.2.2.2 (by decide))] at this
  simp only [Bool.not_true, go_sem, Nat.reduceEqDiff]
  have hm' : 0 ≤ many ∧ many ≤ 4 := by simpa [inB] using hm
  obtain ⟨m, rfl⟩ := Int.eq_ofNat_of_zero_le hm'.1
  refine l18Word_c (hx.gr g2') hc (hy.gr g2') hcs (by omega) (by omega) fun X' c' w3 g3 o3 => ?_
  have e : pumpW xs cs m = if (pumpL xs cs m).length ≤ 60 then some (pumpL xs cs m) else none := if_pos ⟨by omega, ha, hcs, hm⟩
  have hk' := hk X' c' w3 (gr_trans g2' g3)
  rw [e] at hk'
  simp only [go_sem, Nat.reduceEqDiff]
  by_cases hl : (pumpL xs cs m).length ≤ 60
  · simp only [show ¬ (60 : Int) < (pumpL xs cs m).length by omega, decide_false, go_sem, Nat.reduceEqDiff]
    rw [if_pos hl] at hk'
    exact hk' (Row.mono o3 g2'.size)
  · simp only [show (60 : Int) < (pumpL xs cs m).length by omega, decide_true, go_sem, Nat.reduceEqDiff]
    rw [if_neg hl] at hk'
    exact hk'

/-- A function value that tells of a number, in whatever world has grown. -/
def Pred (t : Nat) (fv : Value) (p : Int → Bool) (w : World) : Prop := ∀ w1, Gr w w1 → ∀ (x : Int) (k : Value → World → Prop), (∀ w2, Gr w1 w2 → k (.bool (p x)) w2) → Do Try.prog (sCallV fv [.int .i64 x] t) k w1
theorem indexFunc_c {w : World} {X : Option Addr} {c : Nat} {xs : List Int} {fv : Value} {p : Int → Bool} (hx : Ints w X xs) (hp : Pred 4 fv p w) {k : Value → World → Prop}
    (hk : ∀ (r : Int) w', Gr w w' → decide (0 ≤ r) = xs.any p → (0 ≤ r → r < xs.length ∧ p (xs.getD r.toNat 0) = true ∧ ∀ j : Nat, j < r → p (xs.getD j 0) = false) → k (.int .i64 r) w') :
    CallK Try.prog 171 [.slice X xs.length c, fv] k w := by
  refine enter171 ?_
  unfold S171
  simp only [go_sem, Nat.reduceEqDiff]
  refine ⟨fun f w' => ∃ i : Nat, i ≤ xs.length ∧ f 8 = .int .i64 i ∧ Gr w w' ∧ ∀ j, j < i → p (xs.getD j 0) = false, fun f _ => xs.length - (intOf (f 8)).toNat, ⟨0, Nat.zero_le _, rfl, Gr.refl w, fun j hj => absurd hj (Nat.not_lt_zero j)⟩, ?_⟩
  rintro f w1 hag ⟨i, hi, h8, hg, hpre⟩
  have f0 : f 0 = .slice X xs.length c := hag 0 (by decide)
  have f1 : f 1 = fv := hag 1 (by decide)
  have f7 : f 7 = .int .i64 xs.length := hag 7 (by decide)
  simp only [f0, f1, f7, h8, go_sem, Nat.reduceEqDiff]
  by_cases hlt : i < xs.length
  · have hlt' : (i : Int) < xs.length := by omega
    have := hx.le
    simp only [hlt', decide_true, go_sem, Nat.reduceEqDiff]
    rw [ixn22 hx.ptr hlt, ld3 ((hx.gr hg).cell i hlt)]
    refine hp w1 hg _ _ fun w2 g2 => ?_
    have g2' := gr_trans hg g2
    cases hb : p (xs.getD i 0)
    · simp only [go_sem, Nat.reduceEqDiff]
      rw [i64_of (by omega) (by omega)]
      refine ⟨⟨i + 1, hlt, rfl, g2', fun j hj => ?_⟩, ?_⟩
      · rcases Nat.lt_succ_iff_lt_or_eq.1 hj with h | rfl
        · exact hpre j h
        · exact hb
      · simp only [intOf]
        omega
    · simp only [go_sem, Nat.reduceEqDiff]
      refine hk i w2 g2' ?_ fun _ => ⟨hlt', hb, fun j hj => hpre j (by omega)⟩
      rw [decide_eq_true (by omega), eq_comm, List.any_eq_true]
      exact ⟨_, getD_mem hlt, hb⟩
  · simp only [show ¬ (i : Int) < xs.length from by omega, decide_false, go_sem, Nat.reduceEqDiff]
    refine hk (-1) w1 hg ?_ fun h => absurd h (by decide)
    rw [decide_eq_false (by decide), eq_comm, List.any_eq_false]
    intro x hx'
    obtain ⟨j, hj, rfl⟩ := List.getElem_of_mem hx'
    have := hpre j (by omega)
    rw [List.getD_eq_getElem?_getD, List.getElem?_eq_getElem hj] at this
    simpa using this
theorem containsFunc_c {w : World} {X : Option Addr} {c : Nat} {xs : List Int} {fv : Value} {p : Int → Bool} (hx : Ints w X xs) (hp : Pred 4 fv p w) {k : Value → World → Prop}
    (hk : ∀ w', Gr w w' → k (.bool (xs.any p)) w') : CallK Try.prog 129 [.slice X xs.length c, fv] k w := by
  refine enter129 ?_
  unfold S129
  refine indexFunc_c hx hp fun r w' g h _ => ?_
  simp only [go_sem, Nat.reduceEqDiff]
  rw [h]
  exact hk w' g
theorem pumpWord1_c {x : Int} {w : World} {k : Value → World → Prop} (hk : k (.bool (!inB x 0 1000000)) w) : CallK Try.prog 130 [.int .i64 x] k w := by
  refine enter130 ?_
  unfold S130
  refine in_c ?_
  simp only [go_sem, Nat.reduceEqDiff]
  exact hk
end Go.Proofs.Ytiohaeckagjebaa

/- Contracts: what a good grammar is, by the reference and by the program. -/
set_option linter.unusedVariables false
set_option linter.unusedSimpArgs false
set_option maxRecDepth 100000
namespace Go.Sh
open Go
def symB (nons toks s : Int) : Bool := inB s (-toks) (nons - 1)
def goodR (nons toks : Int) (rs : List RuleL) (i : Nat) : Bool :=
  inB (rul rs i).1 0 (nons - 1) && decide ((rul rs i).2.length ≤ 4) && (rul rs i).2.all (symB nons toks) && !(rs.take i).any fun q => decide (rul rs i = q)
def goodG (g : Gram) : Bool := inB g.nons 1 6 && inB g.toks 1 4 && decide (g.rules.length ≤ 16) && (List.range g.rules.length).all (goodR g.nons g.toks g.rules)
theorem range_all {n : Nat} {p : Nat → Bool} (h : ∀ j, j < n → p j = true) : (List.range n).all p = true := by
  rw [List.all_eq_true]
  intro x hx
  exact h x (List.mem_range.1 hx)
theorem range_not {n i : Nat} {p : Nat → Bool} (hi : i < n) (h : p i = false) : (List.range n).all p = false := by
  rw [List.all_eq_false]
  exact ⟨i, List.mem_range.2 hi, by rw [h]; decide⟩
theorem any_of_rul {rs : List RuleL} {p : RuleL → Bool} {i : Nat} (hi : i < rs.length) (h : p (rul rs i) = true) : rs.any p = true := by
  rw [List.any_eq_true]
  exact ⟨_, by rw [rul_eq hi]; exact List.getElem_mem hi, h⟩
theorem any_none_rul {rs : List RuleL} {p : RuleL → Bool} (h : ∀ j, j < rs.length → p (rul rs j) = false) : rs.any p = false := by
  rw [List.any_eq_false]
  intro x hx
  obtain ⟨j, hj, rfl⟩ := List.getElem_of_mem hx
  have := h j hj
  rw [rul_eq hj] at this
  simp [this]
theorem sub_zero (Y : Option Addr) (c sz : Nat) : sub Y 0 c sz = Y := by
  unfold sub
  split
  · rfl
  · cases Y <;> simp [add_zero']
theorem RulesF.take {F : Nat → Prop} {w : World} {X : Option Addr} {rs : List RuleL} (h : RulesF F w X rs) (i : Nat) : RulesF F w X (rs.take i) := by
  have hl : (rs.take i).length ≤ rs.length := by simp; omega
  refine ⟨by have := h.le; omega, fun hp => h.ptr (by omega), fun hp => h.foot (by omega), fun j hj => ?_⟩
  have hji : j < i := by simp at hj; omega
  rw [rul_take hji]
  exact h.row j (by omega)
end Go.Sh
namespace Go.Proofs.Ytiohaeckagjebaa
open Go Go.Sh Go.RowKit

theorem l1Symbol_c {F : Nat → Prop} {w : World} {v : Value} {gm : Gram} {s : Int} (hv : GramV F w v gm) (hn : inB gm.nons 1 6 = true) (ht : inB gm.toks 1 4 = true) {k : Value → World → Prop} (hk : ∀ w', Gr w w' → k (.bool (symB gm.nons gm.toks s)) w') :
    CallK Try.prog 132 [v, .int .i64 s] k w := by
  obtain ⟨Y, c, rfl, hc, hy⟩ := hv
  have hn' : 1 ≤ gm.nons ∧ gm.nons ≤ 6 := by simpa [inB] using hn
  have ht' : 1 ≤ gm.toks ∧ gm.toks ≤ 4 := by simpa [inB] using ht
  refine enter132 ?_
  unfold S132
  refine do_box fun b w1 g1 hb1 hB => ?_
  simp only [go_sem, Nat.reduceEqDiff]
  rw [ldB3 hB rfl]
  simp only [go_sem, Nat.reduceEqDiff]
  rw [ldB3 hB rfl]
  simp only [go_sem, Nat.reduceEqDiff]
  rw [i64_of (by omega) (by omega), i64_of (by omega) (by omega)]
  exact l1In_c (hk _ g1)
theorem l1Same_c {w : World} {X Y : Option Addr} {c d : Nat} {xs ys : List Int} (hx : Ints w X xs) (hy : Ints w Y ys) {k : Value → World → Prop} (hk : ∀ w', Gr w w' → k (.bool (decide (xs = ys))) w') :
    CallK Try.prog 173 [.slice X xs.length c, .slice Y ys.length d] k w := by
  refine enter173 ?_
  unfold S173
  simp only [go_sem, Nat.reduceEqDiff]
  by_cases hl : xs.length = ys.length
  rotate_left
  · simp only [Int.ofNat_inj, hl, decide_false, Bool.not_false, go_sem, Nat.reduceEqDiff]
    have := hk _ (Gr.refl w)
    rwa [decide_eq_false (fun e => hl (by rw [e]))] at this
  simp only [Int.ofNat_inj, hl, decide_true, Bool.not_true, go_sem, Nat.reduceEqDiff]
  rw [← hl]
  refine ⟨fun f w' => ∃ i : Nat, i ≤ xs.length ∧ f 13 = .int .i64 i ∧ Gr w w' ∧ xs.take i = ys.take i, fun f _ => xs.length - (intOf (f 13)).toNat, ⟨0, Nat.zero_le _, rfl, Gr.refl w, rfl⟩, ?_⟩
  rintro f w1 hag ⟨i, hi, h13, hg, hpre⟩
  have h0 : f 0 = .slice X xs.length c := hag 0 (by decide)
  have h1 : f 1 = .slice Y xs.length d := hag 1 (by decide)
  have h12 : f 12 = .int .i64 xs.length := hag 12 (by decide)
  simp only [h0, h1, h12, h13, go_sem, Nat.reduceEqDiff]
  by_cases hlt : i < xs.length
  · have hlt' : (i : Int) < xs.length := by omega
    have := hx.le
    simp only [hlt', decide_true, go_sem, Nat.reduceEqDiff]
    rw [ixn22 hx.ptr hlt, ld3 ((hx.gr (gr_trans hg (gr_drew w1))).cell i hlt), ixn22 (hl ▸ hy.ptr) hlt, ld3 ((hy.gr (gr_trans hg (gr_drew w1))).cell i (by omega))]
    simp only [go_sem, Nat.reduceEqDiff]
    by_cases he : xs.getD i 0 = ys.getD i 0
    · simp only [he, decide_true, Bool.not_true, go_sem, Nat.reduceEqDiff]
      rw [i64_of (by omega) (by omega)]
      refine ⟨⟨i + 1, hlt, rfl, gr_trans hg (gr_drew w1), ?_⟩, ?_⟩
      · rw [take_snoc hlt, take_snoc (by omega), hpre, he]
      · simp only [intOf]
        omega
    · simp only [he, decide_false, Bool.not_false, go_sem, Nat.reduceEqDiff]
      have := hk _ (gr_trans hg (gr_drew w1))
      rwa [decide_eq_false (fun e => he (by rw [e]))] at this
  · simp only [show ¬ (i : Int) < xs.length from by omega, decide_false, go_sem, Nat.reduceEqDiff]
    have := hk _ hg
    rwa [decide_eq_true] at this
    rwa [List.take_of_length_le (by omega), List.take_of_length_le (by omega)] at hpre
theorem l1SameRule_c {F E : Nat → Prop} {w : World} {v u : Value} {r q : RuleL} (hv : RuleV F w v r) (hu : RuleV E w u q) {k : Value → World → Prop} (hk : ∀ w', Gr w w' → k (.bool (decide (r = q))) w') :
    CallK Try.prog 133 [v, u] k w := by
  obtain ⟨Y, c, rfl, hc, hy⟩ := hv
  obtain ⟨Z, d, rfl, hd, hz⟩ := hu
  refine enter133 ?_
  unfold S133
  refine do_box fun b w1 g1 hb1 hb => ?_
  refine do_box fun b' w2 g2 hb2 hb' => ?_
  have hb := hb.gr g2
  have g := gr_trans g1 g2
  simp only [go_sem, Nat.reduceEqDiff]
  rw [ldB3 hb rfl, ldB3 hb' rfl]
  simp only [go_sem, Nat.reduceEqDiff]
  by_cases h : r.1 = q.1
  · simp only [h, decide_true, go_sem, Nat.reduceEqDiff]
    rw [ldB22 hb rfl]
    rw [ldB22 hb' rfl]
    refine l1Same_c (hy.is.gr g) (hz.is.gr g) fun w3 g3 => ?_
    have := hk w3 (gr_trans g g3)
    by_cases h2 : r.2 = q.2
    · simp only [h2, decide_true, go_sem, Nat.reduceEqDiff]
      rwa [decide_eq_true (Prod.ext h h2)] at this
    · simp only [h2, decide_false, go_sem, Nat.reduceEqDiff]
      rwa [decide_eq_false (fun e => h2 (by rw [e]))] at this
  · simp only [h, decide_false, go_sem, Nat.reduceEqDiff]
    have := hk w2 g
    rwa [decide_eq_false (fun e => h (by rw [e]))] at this
theorem goodGrammar_c {F : Nat → Prop} {w : World} {v : Value} {gm : Gram} (hv : GramV F w v gm) {k : Value → World → Prop} (hk : ∀ w', Gr w w' → k (.bool (goodG gm)) w') :
    CallK Try.prog 81 [v] k w := by
  have hv0 := hv
  obtain ⟨Y, c, rfl, hc, hy⟩ := hv
  refine enter81 ?_
  unfold S81
  refine do_box fun b w1 g1 hb1 hB => ?_
  simp only [go_sem, Nat.reduceEqDiff]
  rw [ldB3 hB rfl]
  refine l1In_c ?_
  cases hn : inB gm.nons 1 6
  · simp only [Bool.not_false, go_sem, Nat.reduceEqDiff]
    have := hk _ g1
    rwa [show goodG gm = false from by simp [goodG, hn]] at this
  simp only [Bool.not_true, go_sem, Nat.reduceEqDiff]
  rw [ldB3 hB rfl]
  refine l1In_c ?_
  cases ht : inB gm.toks 1 4
  · simp only [Bool.not_false, go_sem, Nat.reduceEqDiff]
    have := hk _ g1
    rwa [show goodG gm = false from by simp [goodG, ht]] at this
  simp only [Bool.not_true, go_sem, Nat.reduceEqDiff]
  rw [ldB35 hB rfl]
  simp only [go_sem, Nat.reduceEqDiff]
  by_cases hl : gm.rules.length ≤ 16
  rotate_left
  · simp only [show (16 : Int) < gm.rules.length from by omega, decide_true, go_sem, Nat.reduceEqDiff]
    have := hk _ g1
    rwa [show goodG gm = false from by simp [goodG, hl]] at this
  simp only [show ¬ (16 : Int) < gm.rules.length from by omega, decide_false, go_sem, Nat.reduceEqDiff]
  rw [ldB35 hB rfl]
  simp only [go_sem, Nat.reduceEqDiff]
  have hn' : 1 ≤ gm.nons ∧ gm.nons ≤ 6 := by simpa [inB] using hn
  have ht' : 1 ≤ gm.toks ∧ gm.toks ≤ 4 := by simpa [inB] using ht
  refine ⟨fun f w' => ∃ i : Nat, i ≤ gm.rules.length ∧ f 28 = .int .i64 i ∧ Gr w1 w' ∧ ∀ j, j < i → goodR gm.nons gm.toks gm.rules j = true, fun f _ => gm.rules.length - (intOf (f 28)).toNat, ⟨0, Nat.zero_le _, rfl, Gr.refl w1, fun j hj => absurd hj (Nat.not_lt_zero j)⟩, ?_⟩
  rintro f w2 hag ⟨i, hi, h28, g2, hpre⟩
  have f1 : f 1 = .pointer (some ⟨b, 0, none⟩) := hag 1 (by decide)
  have f26 : f 26 = .slice Y gm.rules.length c := hag 26 (by decide)
  have f27 : f 27 = .int .i64 gm.rules.length := hag 27 (by decide)
  simp only [f1, f26, f27, h28, go_sem, Nat.reduceEqDiff]
  by_cases hlt : i < gm.rules.length
  · have hlt' : (i : Int) < gm.rules.length := by omega
    simp only [hlt', decide_true, go_sem, Nat.reduceEqDiff]
    have g := gr_trans g1 g2
    rw [ixn35 hy.ptr hlt]
    refine ld_rule agg77 sz77 (hy.gr g) hlt fun v hv => ?_
    obtain ⟨Z, d, rfl, hd, hz⟩ := hv
    refine do_alloc_of inf77 fun b3 w3 g3 hb3 h3 => ?_
    have n3 := (hB.gr g2).ne hb3
    refine do_store sz77 rfl (by intro u hu; simp [Value.cells] at hu; rcases hu with rfl | rfl <;> rfl) h3 (by simp [Value.cells]) fun w4 g4 s4 h4 => ?_
    have hB2 := (hB.gr (gr_trans g2 g3)).put g4 n3
    have g' := gr_put (gr_trans g g3) g4 (Nat.le_trans g.size hb3)
    have k0 : goodR gm.nons gm.toks gm.rules i = false → ∀ w', Gr w w' → k (.bool false) w' := fun h w' gw => by
      have := hk w' gw
      rwa [show goodG gm = false from by simp only [goodG, range_not hlt h, Bool.and_false]] at this
    simp only [go_sem, Nat.reduceEqDiff]
    rw [ldB3 h4 rfl, ldB3 hB2 rfl]
    simp only [go_sem, Nat.reduceEqDiff]
    rw [i64_of (by omega) (by omega)]
    refine l1In_c ?_
    cases hr : inB (rul gm.rules i).1 0 (gm.nons - 1)
    · simp only [Bool.not_false, go_sem, Nat.reduceEqDiff]
      exact k0 (by simp [goodR, hr]) _ g'
    simp only [Bool.not_true, go_sem, Nat.reduceEqDiff]
    rw [ldB22 h4 rfl]
    simp only [go_sem, Nat.reduceEqDiff]
    by_cases h5 : (rul gm.rules i).2.length ≤ 4
    rotate_left
    · simp only [show (4 : Int) < (rul gm.rules i).2.length from by omega, decide_true, go_sem, Nat.reduceEqDiff]
      exact k0 (by simp [goodR, h5]) _ g'
    simp only [show ¬ (4 : Int) < (rul gm.rules i).2.length from by omega, decide_false, go_sem, Nat.reduceEqDiff]
    rw [ldB22 h4 rfl]
    simp only [go_sem, Nat.reduceEqDiff]
    refine ⟨fun f' w' => ∃ j : Nat, j ≤ (rul gm.rules i).2.length ∧ f' 49 = .int .i64 j ∧ Gr w4 w' ∧ ∀ l, l < j → symB gm.nons gm.toks ((rul gm.rules i).2.getD l 0) = true, fun f' _ => (rul gm.rules i).2.length - (intOf (f' 49)).toNat, ⟨0, Nat.zero_le _, rfl, Gr.refl w4, fun j hj => absurd hj (Nat.not_lt_zero j)⟩, ?_⟩
    rintro f' w5 hag' ⟨j, hj, h49, g5, hpre'⟩
    have e1 : f' 1 = .pointer (some ⟨b, 0, none⟩) := (hag' 1 (by decide)).trans f1
    have e3 : f' 3 = .int .i64 i := hag' 3 (by decide)
    have e4 : f' 4 = .pointer (some ⟨b3, 0, none⟩) := hag' 4 (by decide)
    have e28 : f' 28 = .int .i64 i := (hag' 28 (by decide)).trans h28
    have e47 : f' 47 = .slice Z (rul gm.rules i).2.length d := hag' 47 (by decide)
    have e48 : f' 48 = .int .i64 (rul gm.rules i).2.length := hag' 48 (by decide)
    have gw5 := gr_trans g' g5
    have gw45 : Gr w2 w5 := gr_trans (gr_put g3 g4 hb3) g5
    simp only [e1, e47, e48, h49, go_sem, Nat.reduceEqDiff]
    by_cases hlt2 : j < (rul gm.rules i).2.length
    · have hlt2' : (j : Int) < (rul gm.rules i).2.length := by omega
      simp only [hlt2', decide_true, go_sem, Nat.reduceEqDiff]
      rw [ixn22 hz.is.ptr hlt2, ld3 ((hz.is.gr gw45).cell j hlt2), ldB_agg agg37 sz37 rfl (hB2.gr g5)]
      refine l1Symbol_c (gm := gm) ⟨Y, c, rfl, hc, hy.gr gw5⟩ hn ht fun w6 g6 => ?_
      simp only [go_sem, Nat.reduceEqDiff]
      cases hs : symB gm.nons gm.toks ((rul gm.rules i).2.getD j 0)
      · simp only [Bool.not_false, go_sem, Nat.reduceEqDiff]
        exact k0 (by simp only [goodR, not_all_of hlt2 hs, Bool.and_false, Bool.false_and]) _ (gr_trans gw5 g6)
      · simp only [Bool.not_true, go_sem, Nat.reduceEqDiff]
        rw [i64_of (by omega) (by omega)]
        refine ⟨⟨j + 1, hlt2, rfl, gr_trans g5 g6, fun l hl => ?_⟩, ?_⟩
        · rcases Nat.lt_succ_iff_lt_or_eq.1 hl with h | rfl
          · exact hpre' l h
          · exact hs
        · simp only [intOf]
          omega
    simp only [show ¬ (j : Int) < (rul gm.rules i).2.length from by omega, decide_false, go_sem, Nat.reduceEqDiff]
    have hall : (rul gm.rules i).2.all (symB gm.nons gm.toks) = true := all_of fun l hl => hpre' l (by omega)
    simp only [e1, e3, go_sem, Nat.reduceEqDiff]
    rw [ldB35 (hB2.gr g5) rfl]
    rw [slh35 (by omega) (by omega), sub_zero]
    simp only [Int.toNat_natCast, go_sem, Nat.reduceEqDiff]
    have hti : (gm.rules.take i).length = i := by simp; omega
    have hyt : RulesF F w5 Y (gm.rules.take i) := (hy.gr gw5).take i
    refine ⟨fun f' w' => ∃ j : Nat, j ≤ i ∧ f' 63 = .int .i64 j ∧ Gr w5 w' ∧ ∀ l, l < j → decide (rul gm.rules i = rul gm.rules l) = false, fun f' _ => i - (intOf (f' 63)).toNat, ⟨0, Nat.zero_le _, rfl, Gr.refl w5, fun j hj => absurd hj (Nat.not_lt_zero j)⟩, ?_⟩
    rintro f2 w6 hag2 ⟨m, hm, h63, g6, hpre2⟩
    have d4 : f2 4 = .pointer (some ⟨b3, 0, none⟩) := (hag2 4 (by decide)).trans e4
    have d28 : f2 28 = .int .i64 i := (hag2 28 (by decide)).trans e28
    have d61 : f2 61 = .slice Y i c := hag2 61 (by decide)
    have d62 : f2 62 = .int .i64 i := hag2 62 (by decide)
    have gw6 := gr_trans gw5 g6
    simp only [d4, d28, d61, d62, h63, go_sem, Nat.reduceEqDiff]
    by_cases hlt3 : m < i
    · have hlt3' : (m : Int) < i := by omega
      simp only [hlt3', decide_true, go_sem, Nat.reduceEqDiff]
      rw [ixn35 (fun _ => hy.ptr (by omega)) hlt3]
      refine ld_rule agg77 sz77 (hy.gr gw6) (show m < gm.rules.length by omega) fun v hv => ?_
      obtain ⟨Z', d', rfl, hd', hz'⟩ := hv
      refine do_alloc_of inf77 fun b7 w7 g7 hb7 h7 => ?_
      have h46 := (h4.gr (gr_trans g5 g6))
      have n7 := h46.ne hb7
      have h47 := h46.gr g7
      refine do_store sz77 rfl (by intro u hu; simp [Value.cells] at hu; rcases hu with rfl | rfl <;> rfl) h7 (by simp [Value.cells]) fun w8 g8 s8 h8 => ?_
      have h48 := h47.put g8 n7
      have gw8 := gr_put (gr_trans gw6 g7) g8 (Nat.le_trans gw6.size hb7)
      have g58 := gr_put (gr_trans g6 g7) g8 (Nat.le_trans g6.size hb7)
      rw [ldB_agg agg77 sz77 rfl h48, ldB_agg agg77 sz77 rfl h8]
      refine l1SameRule_c (r := rul gm.rules i) (q := rul gm.rules m) (F := F) (E := F) ⟨Z, d, rfl, hd, hz.gr (gr_trans gw45 g58)⟩ ⟨Z', d', rfl, hd', hz'.gr (gr_put g7 g8 hb7)⟩ fun w9 g9 => ?_
      by_cases he : rul gm.rules i = rul gm.rules m
      · simp only [he, decide_true, go_sem, Nat.reduceEqDiff]
        refine k0 ?_ _ (gr_trans gw8 g9)
        have : (gm.rules.take i).any (fun q => decide (rul gm.rules i = q)) = true := any_of_rul (i := m) (by omega) (by rw [rul_take hlt3]; exact decide_eq_true he)
        simp only [goodR, this, Bool.not_true, Bool.and_false]
      · simp only [he, decide_false, go_sem, Nat.reduceEqDiff]
        rw [i64_of (by omega) (by omega)]
        refine ⟨⟨m + 1, hlt3, rfl, gr_trans g58 g9, fun l hl => ?_⟩, ?_⟩
        · rcases Nat.lt_succ_iff_lt_or_eq.1 hl with h | rfl
          · exact hpre2 l h
          · exact decide_eq_false he
        · simp only [intOf]
          omega
    · simp only [show ¬ (m : Int) < i from by omega, decide_false, go_sem, Nat.reduceEqDiff]
      rw [i64_of (by omega) (by omega)]
      refine ⟨⟨i + 1, hlt, rfl, gr_trans (gr_trans g2 gw45) g6, fun l hl => ?_⟩, ?_⟩
      · rcases Nat.lt_succ_iff_lt_or_eq.1 hl with h | rfl
        · exact hpre l h
        · have : (gm.rules.take l).any (fun q => decide (rul gm.rules l = q)) = false := any_none_rul fun m' hm' => by
            rw [rul_take (by omega)]
            exact hpre2 m' (by omega)
          simp only [goodR, hr, h5, hall, this, decide_true, Bool.not_false, Bool.and_self]
      · simp only [intOf]
        omega
  · simp only [show ¬ (i : Int) < gm.rules.length from by omega, decide_false, go_sem, Nat.reduceEqDiff]
    have := hk _ (gr_trans g1 g2)
    rwa [show goodG gm = true from by simp only [goodG, hn, ht, hl, decide_true, Bool.true_and]; exact range_all fun j hj => hpre j (by omega)] at this
end Go.Proofs.Ytiohaeckagjebaa

/- Contracts: the program's own check of a grammar. -/
set_option linter.unusedVariables false
set_option linter.unusedSimpArgs false
set_option maxRecDepth 100000
namespace Go.Proofs.Ytiohaeckagjebaa
open Go Go.Sh Go.RowKit

/-- A function value that tells of a rule, in whatever world has grown. -/
def PredR (t : Nat) (fv : Value) (p : RuleL → Bool) (w : World) : Prop := ∀ w1, Gr w w1 → ∀ (E : Nat → Prop) (v : Value) (r : RuleL), RuleV E w1 v r → ∀ (k : Value → World → Prop), (∀ w2, Gr w1 w2 → k (.bool (p r)) w2) → Do Try.prog (sCallV fv [v] t) k w1
theorem indexFuncR_c {F : Nat → Prop} {w : World} {X : Option Addr} {c : Nat} {rs : List RuleL} {fv : Value} {p : RuleL → Bool} (hx : RulesF F w X rs) (hp : PredR 4 fv p w) {k : Value → World → Prop}
    (hk : ∀ (r : Int) w', Gr w w' → decide (0 ≤ r) = rs.any p → k (.int .i64 r) w') :
    CallK Try.prog 176 [.slice X rs.length c, fv] k w := by
  refine enter176 ?_
  unfold S176
  simp only [go_sem, Nat.reduceEqDiff]
  refine ⟨fun f w' => ∃ i : Nat, i ≤ rs.length ∧ f 8 = .int .i64 i ∧ Gr w w' ∧ ∀ j, j < i → p (rul rs j) = false, fun f _ => rs.length - (intOf (f 8)).toNat, ⟨0, Nat.zero_le _, rfl, Gr.refl w, fun j hj => absurd hj (Nat.not_lt_zero j)⟩, ?_⟩
  rintro f w1 hag ⟨i, hi, h8, hg, hpre⟩
  have f0 : f 0 = .slice X rs.length c := hag 0 (by decide)
  have f1 : f 1 = fv := hag 1 (by decide)
  have f7 : f 7 = .int .i64 rs.length := hag 7 (by decide)
  simp only [f0, f1, f7, h8, go_sem, Nat.reduceEqDiff]
  by_cases hlt : i < rs.length
  · have hlt' : (i : Int) < rs.length := by omega
    have := hx.le
    simp only [hlt', decide_true, go_sem, Nat.reduceEqDiff]
    rw [ixn35 hx.ptr hlt]
    refine ld_rule agg77 sz77 (hx.gr hg) hlt fun v hv => ?_
    refine hp w1 hg _ _ _ hv _ fun w2 g2 => ?_
    have g2' := gr_trans hg g2
    cases hb : p (rul rs i)
    · simp only [go_sem, Nat.reduceEqDiff]
      rw [i64_of (by omega) (by omega)]
      refine ⟨⟨i + 1, hlt, rfl, g2', fun j hj => ?_⟩, ?_⟩
      · rcases Nat.lt_succ_iff_lt_or_eq.1 hj with h | rfl
        · exact hpre j h
        · exact hb
      · simp only [intOf]
        omega
    · simp only [go_sem, Nat.reduceEqDiff]
      refine hk i w2 g2' ?_
      rw [decide_eq_true (by omega), any_of_rul hlt hb]
  · simp only [show ¬ (i : Int) < rs.length from by omega, decide_false, go_sem, Nat.reduceEqDiff]
    refine hk (-1) w1 hg ?_
    rw [decide_eq_false (by decide), any_none_rul fun j hj => hpre j (by omega)]
theorem containsFuncR_c {F : Nat → Prop} {w : World} {X : Option Addr} {c : Nat} {rs : List RuleL} {fv : Value} {p : RuleL → Bool} (hx : RulesF F w X rs) (hp : PredR 4 fv p w) {k : Value → World → Prop}
    (hk : ∀ w', Gr w w' → k (.bool (rs.any p)) w') : CallK Try.prog 136 [.slice X rs.length c, fv] k w := by
  refine enter136 ?_
  unfold S136
  refine indexFuncR_c hx hp fun r w' g h => ?_
  simp only [go_sem, Nat.reduceEqDiff]
  rw [h]
  exact hk w' g
theorem isSymbol_c {w : World} {s n t : Int} (hn : inB n 1 6 = true) (ht : inB t 1 4 = true) {k : Value → World → Prop} (hk : k (.bool (symB n t s)) w) : CallK Try.prog 175 [.int .i64 s, .int .i64 n, .int .i64 t] k w := by
  have hn' : 1 ≤ n ∧ n ≤ 6 := by simpa [inB] using hn
  have ht' : 1 ≤ t ∧ t ≤ 4 := by simpa [inB] using ht
  refine enter175 ?_
  unfold S175
  simp only [go_sem, Nat.reduceEqDiff]
  rw [i64_of (by omega) (by omega), i64_of (by omega) (by omega)]
  exact in_c hk
theorem areSymbols1_c {w : World} {b b' e e' : Nat} {s n t : Int} (hB : Box w b [.int .i64 n] e) (hB' : Box w b' [.int .i64 t] e') (hn : inB n 1 6 = true) (ht : inB t 1 4 = true) {k : Value → World → Prop} (hk : k (.bool (!symB n t s)) w) :
    CallK Try.prog 174 [.int .i64 s, .pointer (some ⟨b, 0, none⟩), .pointer (some ⟨b', 0, none⟩)] k w := by
  refine enter174 ?_
  unfold S174
  rw [ldB3 hB rfl, ldB3 hB' rfl]
  refine isSymbol_c hn ht ?_
  simp only [go_sem, Nat.reduceEqDiff]
  exact hk
theorem areSymbols_c {w : World} {X : Option Addr} {c : Nat} {xs : List Int} {n t : Int} (hx : Ints w X xs) (hn : inB n 1 6 = true) (ht : inB t 1 4 = true) {k : Value → World → Prop} (hk : ∀ w', Gr w w' → k (.bool (xs.all (symB n t))) w') :
    CallK Try.prog 135 [.slice X xs.length c, .int .i64 n, .int .i64 t] k w := by
  refine enter135 ?_
  unfold S135
  refine do_box fun b w1 g1 hb1 hB => ?_
  refine do_box fun b' w2 g2 hb2 hB' => ?_
  have hB := hB.gr g2
  simp only [go_sem, Nat.reduceEqDiff]
  have hp : Pred 4 (.func (.func 174) [].toArray [.pointer (some ⟨b, 0, none⟩), .pointer (some ⟨b', 0, none⟩)].toArray) (fun x => !symB n t x) w2 := fun w3 g3 x k hk =>
    callVc (areSymbols1_c (hB.gr g3) (hB'.gr g3) hn ht (hk w3 (Gr.refl w3)))
  refine containsFunc_c (hx.gr (gr_trans g1 g2)) hp fun w3 g3 => ?_
  simp only [go_sem, Nat.reduceEqDiff]
  have := hk w3 (gr_trans (gr_trans g1 g2) g3)
  rwa [show xs.all (symB n t) = !xs.any (fun x => !symB n t x) from by simp [List.not_any_eq_all_not]] at this
theorem slicesEqual_c {w : World} {X Y : Option Addr} {c d : Nat} {xs ys : List Int} (hx : Ints w X xs) (hy : Ints w Y ys) {k : Value → World → Prop} (hk : ∀ w', Gr w w' → k (.bool (decide (xs = ys))) w') :
    CallK Try.prog 110 [.slice X xs.length c, .slice Y ys.length d] k w := by
  refine enter110 ?_
  unfold S110
  simp only [go_sem, Nat.reduceEqDiff]
  by_cases hl : xs.length = ys.length
  rotate_left
  · simp only [Int.ofNat_inj, hl, decide_false, Bool.not_false, go_sem, Nat.reduceEqDiff]
    have := hk _ (Gr.refl w)
    rwa [decide_eq_false (fun e => hl (by rw [e]))] at this
  simp only [Int.ofNat_inj, hl, decide_true, Bool.not_true, go_sem, Nat.reduceEqDiff]
  rw [← hl]
  refine ⟨fun f w' => ∃ i : Nat, i ≤ xs.length ∧ f 13 = .int .i64 i ∧ Gr w w' ∧ xs.take i = ys.take i, fun f _ => xs.length - (intOf (f 13)).toNat, ⟨0, Nat.zero_le _, rfl, Gr.refl w, rfl⟩, ?_⟩
  rintro f w1 hag ⟨i, hi, h13, hg, hpre⟩
  have h0 : f 0 = .slice X xs.length c := hag 0 (by decide)
  have h1 : f 1 = .slice Y xs.length d := hag 1 (by decide)
  have h12 : f 12 = .int .i64 xs.length := hag 12 (by decide)
  simp only [h0, h1, h12, h13, go_sem, Nat.reduceEqDiff]
  by_cases hlt : i < xs.length
  · have hlt' : (i : Int) < xs.length := by omega
    have := hx.le
    simp only [hlt', decide_true, go_sem, Nat.reduceEqDiff]
    rw [ixn22 hx.ptr hlt, ld3 ((hx.gr (gr_trans hg (gr_drew w1))).cell i hlt), ixn22 (hl ▸ hy.ptr) hlt, ld3 ((hy.gr (gr_trans hg (gr_drew w1))).cell i (by omega))]
    simp only [go_sem, Nat.reduceEqDiff]
    by_cases he : xs.getD i 0 = ys.getD i 0
    · simp only [he, decide_true, Bool.not_true, go_sem, Nat.reduceEqDiff]
      rw [i64_of (by omega) (by omega)]
      refine ⟨⟨i + 1, hlt, rfl, gr_trans hg (gr_drew w1), ?_⟩, ?_⟩
      · rw [take_snoc hlt, take_snoc (by omega), hpre, he]
      · simp only [intOf]
        omega
    · simp only [he, decide_false, Bool.not_false, go_sem, Nat.reduceEqDiff]
      have := hk _ (gr_trans hg (gr_drew w1))
      rwa [decide_eq_false (fun e => he (by rw [e]))] at this
  · simp only [show ¬ (i : Int) < xs.length from by omega, decide_false, go_sem, Nat.reduceEqDiff]
    have := hk _ hg
    rwa [decide_eq_true] at this
    rwa [List.take_of_length_le (by omega), List.take_of_length_le (by omega)] at hpre
theorem sameRule_c {F E : Nat → Prop} {w : World} {v u : Value} {r q : RuleL} (hv : RuleV F w v r) (hu : RuleV E w u q) {k : Value → World → Prop} (hk : ∀ w', Gr w w' → k (.bool (decide (r = q))) w') :
    CallK Try.prog 138 [v, u] k w := by
  obtain ⟨Y, c, rfl, hc, hy⟩ := hv
  obtain ⟨Z, d, rfl, hd, hz⟩ := hu
  refine enter138 ?_
  unfold S138
  refine do_box fun b w1 g1 hb1 hb => ?_
  refine do_box fun b' w2 g2 hb2 hb' => ?_
  have hb := hb.gr g2
  have g := gr_trans g1 g2
  simp only [go_sem, Nat.reduceEqDiff]
  rw [ldB3 hb rfl, ldB3 hb' rfl]
  simp only [go_sem, Nat.reduceEqDiff]
  by_cases h : r.1 = q.1
  · simp only [h, decide_true, go_sem, Nat.reduceEqDiff]
    rw [ldB22 hb rfl]
    rw [ldB22 hb' rfl]
    refine slicesEqual_c (hy.is.gr g) (hz.is.gr g) fun w3 g3 => ?_
    have := hk w3 (gr_trans g g3)
    by_cases h2 : r.2 = q.2
    · simp only [h2, decide_true, go_sem, Nat.reduceEqDiff]
      rwa [decide_eq_true (Prod.ext h h2)] at this
    · simp only [h2, decide_false, go_sem, Nat.reduceEqDiff]
      rwa [decide_eq_false (fun e => h2 (by rw [e]))] at this
  · simp only [h, decide_false, go_sem, Nat.reduceEqDiff]
    have := hk w2 g
    rwa [decide_eq_false (fun e => h (by rw [e]))] at this
theorem isGrammar1_c {E F : Nat → Prop} {w : World} {v : Value} {q r : RuleL} {Z : Option Addr} {b d e : Nat} (hv : RuleV E w v q) (hB : Box w b [.int .i64 r.1, .slice Z r.2.length d] e) (hz : IntsF F w Z r.2) (hd : r.2.length ≤ d) {k : Value → World → Prop} (hk : ∀ w', Gr w w' → k (.bool (decide (q = r))) w') :
    CallK Try.prog 137 ([v] ++ [.pointer (some ⟨b, 0, none⟩)]) k w := by
  refine enter137 ?_
  unfold S137
  obtain ⟨Y, c, rfl, hc, hy⟩ := hv
  refine do_box fun b1 w1 g1 hb1 hB1 => ?_
  rw [ldB_agg agg77 sz77 rfl hB1, ldB_agg agg77 sz77 rfl (hB.gr g1)]
  exact sameRule_c (r := q) (q := r) ⟨Y, c, rfl, hc, hy.gr g1⟩ ⟨Z, d, rfl, hd, hz.gr g1⟩ fun w2 g2 => hk w2 (gr_trans g1 g2)
theorem isGrammar_c {F : Nat → Prop} {w : World} {v : Value} {gm : Gram} (hv : GramV F w v gm) {k : Value → World → Prop} (hk : ∀ w', Gr w w' → k (.bool (goodG gm)) w') :
    CallK Try.prog 84 [v] k w := by
  have hv0 := hv
  obtain ⟨Y, c, rfl, hc, hy⟩ := hv
  refine enter84 ?_
  unfold S84
  refine do_box fun b w1 g1 hb1 hB => ?_
  simp only [go_sem, Nat.reduceEqDiff]
  rw [ldB3 hB rfl]
  refine in_c ?_
  cases hn : inB gm.nons 1 6
  · simp only [Bool.not_false, go_sem, Nat.reduceEqDiff]
    have := hk _ g1
    rwa [show goodG gm = false from by simp [goodG, hn]] at this
  simp only [Bool.not_true, go_sem, Nat.reduceEqDiff]
  rw [ldB3 hB rfl]
  refine in_c ?_
  cases ht : inB gm.toks 1 4
  · simp only [Bool.not_false, go_sem, Nat.reduceEqDiff]
    have := hk _ g1
    rwa [show goodG gm = false from by simp [goodG, ht]] at this
  simp only [Bool.not_true, go_sem, Nat.reduceEqDiff]
  rw [ldB35 hB rfl]
  simp only [go_sem, Nat.reduceEqDiff]
  by_cases hl : gm.rules.length ≤ 16
  rotate_left
  · simp only [show (16 : Int) < gm.rules.length from by omega, decide_true, go_sem, Nat.reduceEqDiff]
    have := hk _ g1
    rwa [show goodG gm = false from by simp [goodG, hl]] at this
  simp only [show ¬ (16 : Int) < gm.rules.length from by omega, decide_false, go_sem, Nat.reduceEqDiff]
  rw [ldB35 hB rfl]
  simp only [go_sem, Nat.reduceEqDiff]
  have hn' : 1 ≤ gm.nons ∧ gm.nons ≤ 6 := by simpa [inB] using hn
  have ht' : 1 ≤ gm.toks ∧ gm.toks ≤ 4 := by simpa [inB] using ht
  refine ⟨fun f w' => ∃ i : Nat, i ≤ gm.rules.length ∧ f 24 = .int .i64 i ∧ Gr w1 w' ∧ ∀ j, j < i → goodR gm.nons gm.toks gm.rules j = true, fun f _ => gm.rules.length - (intOf (f 24)).toNat, ⟨0, Nat.zero_le _, rfl, Gr.refl w1, fun j hj => absurd hj (Nat.not_lt_zero j)⟩, ?_⟩
  rintro f w2 hag ⟨i, hi, h28, g2, hpre⟩
  have f1 : f 1 = .pointer (some ⟨b, 0, none⟩) := hag 1 (by decide)
  have f26 : f 22 = .slice Y gm.rules.length c := hag 22 (by decide)
  have f27 : f 23 = .int .i64 gm.rules.length := hag 23 (by decide)
  simp only [f1, f26, f27, h28, go_sem, Nat.reduceEqDiff]
  by_cases hlt : i < gm.rules.length
  · have hlt' : (i : Int) < gm.rules.length := by omega
    simp only [hlt', decide_true, go_sem, Nat.reduceEqDiff]
    have g := gr_trans g1 g2
    rw [ixn35 hy.ptr hlt]
    refine ld_rule agg77 sz77 (hy.gr g) hlt fun v hv => ?_
    obtain ⟨Z, d, rfl, hd, hz⟩ := hv
    refine do_alloc_of inf77 fun b3 w3 g3 hb3 h3 => ?_
    have n3 := (hB.gr g2).ne hb3
    refine do_store sz77 rfl (by intro u hu; simp [Value.cells] at hu; rcases hu with rfl | rfl <;> rfl) h3 (by simp [Value.cells]) fun w4 g4 s4 h4 => ?_
    have hB2 := (hB.gr (gr_trans g2 g3)).put g4 n3
    have g' := gr_put (gr_trans g g3) g4 (Nat.le_trans g.size hb3)
    have k0 : goodR gm.nons gm.toks gm.rules i = false → ∀ w', Gr w w' → k (.bool false) w' := fun h w' gw => by
      have := hk w' gw
      rwa [show goodG gm = false from by simp only [goodG, range_not hlt h, Bool.and_false]] at this
    simp only [go_sem, Nat.reduceEqDiff]
    rw [ldB3 h4 rfl, ldB3 hB2 rfl]
    simp only [go_sem, Nat.reduceEqDiff]
    rw [i64_of (by omega) (by omega)]
    refine in_c ?_
    cases hr : inB (rul gm.rules i).1 0 (gm.nons - 1)
    · simp only [Bool.not_false, go_sem, Nat.reduceEqDiff]
      exact k0 (by simp [goodR, hr]) _ g'
    simp only [Bool.not_true, go_sem, Nat.reduceEqDiff]
    rw [ldB22 h4 rfl]
    simp only [go_sem, Nat.reduceEqDiff]
    by_cases h5 : (rul gm.rules i).2.length ≤ 4
    rotate_left
    · simp only [show (4 : Int) < (rul gm.rules i).2.length from by omega, decide_true, go_sem, Nat.reduceEqDiff]
      exact k0 (by simp [goodR, h5]) _ g'
    simp only [show ¬ (4 : Int) < (rul gm.rules i).2.length from by omega, decide_false, go_sem, Nat.reduceEqDiff]
    rw [ldB22 h4 rfl]
    rw [ldB3 hB2 rfl]
    rw [ldB3 hB2 rfl]
    have g24 := gr_put g3 g4 hb3
    refine areSymbols_c (hz.is.gr g24) hn ht fun w5 g5 => ?_
    simp only [go_sem, Nat.reduceEqDiff]
    cases hs : (rul gm.rules i).2.all (symB gm.nons gm.toks)
    · simp only [Bool.not_false, go_sem, Nat.reduceEqDiff]
      exact k0 (by simp only [goodR, hs, Bool.and_false, Bool.false_and]) _ (gr_trans g' g5)
    simp only [Bool.not_true, go_sem, Nat.reduceEqDiff]
    have gw5 := gr_trans g' g5
    rw [ldB35 (hB2.gr g5) rfl]
    rw [slh35 (by omega) (by omega), sub_zero]
    simp only [Int.toNat_natCast, go_sem, Nat.reduceEqDiff]
    have hti : (gm.rules.take i).length = i := by simp; omega
    have hyt : RulesF F w5 Y (gm.rules.take i) := (hy.gr gw5).take i
    have hp : PredR 4 (.func (.func 137) [].toArray [.pointer (some ⟨b3, 0, none⟩)].toArray) (fun q => decide (q = rul gm.rules i)) w5 := fun w6 g6 E v q hv k hk =>
      callVc (isGrammar1_c hv (h4.gr (gr_trans g5 g6)) (hz.gr (gr_trans g24 (gr_trans g5 g6))) hd hk)
    have hcf := containsFuncR_c (c := c) hyt hp (k := ?k)
    rw [hti] at hcf
    refine hcf ?_
    intro w6 g6
    have e : (gm.rules.take i).any (fun q => decide (q = rul gm.rules i)) = (gm.rules.take i).any (fun q => decide (rul gm.rules i = q)) := by
      congr 1
      funext q
      exact decide_eq_decide.2 ⟨fun h => h.symm, fun h => h.symm⟩
    rw [e]
    cases ha : (gm.rules.take i).any (fun q => decide (rul gm.rules i = q))
    · simp only [go_sem, Nat.reduceEqDiff]
      have d28 : f 24 = .int .i64 i := h28
      rw [i64_of (by omega) (by omega)]
      refine ⟨⟨i + 1, hlt, rfl, gr_trans (gr_trans g2 g24) (gr_trans g5 g6), fun l hl => ?_⟩, ?_⟩
      · rcases Nat.lt_succ_iff_lt_or_eq.1 hl with h | rfl
        · exact hpre l h
        · simp only [goodR, hr, h5, hs, ha, decide_true, Bool.not_false, Bool.and_self]
      · simp only [intOf]
        omega
    · simp only [go_sem, Nat.reduceEqDiff]
      exact k0 (by simp only [goodR, ha, Bool.not_true, Bool.and_false]) _ (gr_trans gw5 g6)
  · simp only [show ¬ (i : Int) < gm.rules.length from by omega, decide_false, go_sem, Nat.reduceEqDiff]
    have := hk _ (gr_trans g1 g2)
    rwa [show goodG gm = true from by simp only [goodG, hn, ht, hl, decide_true, Bool.true_and]; exact range_all fun j hj => hpre j (by omega)] at this
end Go.Proofs.Ytiohaeckagjebaa

/- Contract: rules moved on (the reference's l20Shift). -/
set_option linter.unusedVariables false
set_option linter.unusedSimpArgs false
set_option maxRecDepth 100000
namespace Go.Sh
open Go
def shiftS (d s : Int) : Int := if 0 ≤ s then IntKind.i64.wrap (s + d) else s
def shiftR (d : Int) (r : RuleL) : RuleL := (IntKind.i64.wrap (r.1 + d), r.2.map (shiftS d))
def shiftRs (d : Int) (rs : List RuleL) : List RuleL := rs.map (shiftR d)
theorem map_take_snoc {xs : List Int} {i : Nat} {p : Int → Int} (h : i < xs.length) : (xs.map p).take (i + 1) = (xs.map p).take i ++ [p (xs.getD i 0)] := by
  rw [take_snoc (by simpa using h)]
  simp [List.getD_eq_getElem?_getD, h]
theorem rul_map {rs : List RuleL} {j : Nat} {p : RuleL → RuleL} (h : j < rs.length) : rul (rs.map p) j = p (rul rs j) := by
  rw [rul_eq (by simpa using h), rul_eq h]
  simp
theorem ints_one_cell (x : Int) : ints [x] = [.int .i64 x] := rfl
end Go.Sh
namespace Go.Proofs.Ytiohaeckagjebaa
open Go Go.Sh Go.RowKit

theorem l20Shift_c {F : Nat → Prop} {w : World} {v : Value} {gm : Gram} {d : Int} (hv : GramV F w v gm) (hg : goodG gm = true) {k : Value → World → Prop}
    (hk : ∀ X c ps w', Gr w w' → OwnR 77 3 w' w.heap.size X c (shiftRs d gm.rules) ps → k (.slice X gm.rules.length c) w') :
    CallK Try.prog 140 [v, .int .i64 d] k w := by
  obtain ⟨Y, c, rfl, hc, hy⟩ := hv
  have hgl : gm.rules.length ≤ 16 := by
    simp only [goodG, Bool.and_eq_true, decide_eq_true_eq] at hg
    exact hg.1.2
  have hgr : ∀ i, i < gm.rules.length → (rul gm.rules i).2.length ≤ 4 := fun i hi => by
    simp only [goodG, Bool.and_eq_true, List.all_eq_true] at hg
    have := hg.2 i (List.mem_range.2 hi)
    simp only [goodR, Bool.and_eq_true, decide_eq_true_eq] at this
    exact this.1.1.2
  refine enter140 ?_
  unfold S140
  refine do_box fun b w1 g1 hb1 hB => ?_
  simp only [go_sem, Nat.reduceEqDiff]
  rw [ldB35 hB rfl]
  simp only [go_sem, Nat.reduceEqDiff]
  refine ⟨fun f w' => ∃ (i : Nat) (X : Option Addr) (e : Nat) (ps : Nat → Option Addr × Nat), i ≤ gm.rules.length ∧ f 14 = .int .i64 i ∧ f 5 = .slice X i e ∧ Gr w w' ∧ OwnR 77 3 w' w.heap.size X e (shiftRs d (gm.rules.take i)) ps, fun f _ => gm.rules.length - (intOf (f 14)).toNat,
    ⟨0, none, 0, fun _ => (none, 0), Nat.zero_le _, rfl, rfl, g1, ⟨[], Row.nil _ _ _ _, fun j hj => by simp [shiftRs] at hj⟩, fun j hj => by simp [shiftRs] at hj, fun i j hi => by simp [shiftRs] at hi⟩, ?_⟩
  rintro f w2 hag ⟨i, X, e, ps, hi, h14, h5, g2, o2⟩
  have f1 : f 1 = .int .i64 d := hag 1 (by decide)
  have f12 : f 12 = .slice Y gm.rules.length c := hag 12 (by decide)
  have f13 : f 13 = .int .i64 gm.rules.length := hag 13 (by decide)
  have hlen : (shiftRs d (gm.rules.take i)).length = i := by simp [shiftRs]; omega
  simp only [f1, f12, f13, h14, h5, go_sem, Nat.reduceEqDiff]
  by_cases hlt : i < gm.rules.length
  rotate_left
  · simp only [show ¬ (i : Int) < gm.rules.length from by omega, decide_false, go_sem, Nat.reduceEqDiff]
    obtain rfl : i = gm.rules.length := by omega
    rw [List.take_length] at o2
    exact hk _ _ _ _ g2 o2
  have hlt' : (i : Int) < gm.rules.length := by omega
  simp only [hlt', decide_true, go_sem, Nat.reduceEqDiff]
  rw [ixn35 hy.ptr hlt]
  refine ld_rule agg77 sz77 (hy.gr g2) hlt fun v hv => ?_
  obtain ⟨Z, z, rfl, hz0, hz⟩ := hv
  have hz4 := hgr i hlt
  refine do_alloc_of inf77 fun b3 w3 g3 hb3 h3 => ?_
  refine do_store sz77 rfl (by intro u hu; simp [Value.cells] at hu; rcases hu with rfl | rfl <;> rfl) h3 (by simp [Value.cells]) fun w4 g4 s4 h4 => ?_
  have g24 := gr_put g3 g4 hb3
  simp only [go_sem, Nat.reduceEqDiff]
  rw [ldB3 h4 rfl]
  simp only [go_sem, Nat.reduceEqDiff]
  rw [bd77 (cells := #[.int .i64 (IntKind.i64.wrap ((rul gm.rules i).1 + d)), .slice none 0 0]) rfl]
  refine do_alloc_of inf77 fun b5 w5 g5 hb5 h5 => ?_
  have n5 := h4.ne hb5
  refine do_store sz77 rfl (by intro u hu; simp [Value.cells] at hu; rcases hu with rfl | rfl <;> rfl) h5 (by simp [Value.cells]) fun w6 g6 s6 h6 => ?_
  have h46 := (h4.gr g5).put g6 n5
  have g26 := gr_trans g24 (gr_put g5 g6 hb5)
  rw [ldB22 h46 rfl]
  simp only [go_sem, Nat.reduceEqDiff]
  have hq5 : w2.heap.size ≤ b5 := Nat.le_trans g24.size hb5
  refine ⟨fun f' w' => ∃ (j : Nat) (U : Option Addr) (u : Nat), j ≤ (rul gm.rules i).2.length ∧ f' 26 = .int .i64 j ∧ Gr w2 w' ∧ Box w' b5 [.int .i64 (IntKind.i64.wrap ((rul gm.rules i).1 + d)), .slice U j u] 77 ∧ Own 3 w' w2.heap.size U u (((rul gm.rules i).2.map (shiftS d)).take j), fun f' _ => (rul gm.rules i).2.length - (intOf (f' 26)).toNat,
    ⟨0, none, 0, Nat.zero_le _, rfl, g26, h6, Row.nil _ _ _ _⟩, ?_⟩
  rintro f' w7 hag' ⟨j, U, u, hj, h26, g7, hB7, o7⟩
  have e1 : f' 1 = .int .i64 d := (hag' 1 (by decide)).trans f1
  have e8 : f' 8 = .pointer (some ⟨b5, 0, none⟩) := hag' 8 (by decide)
  have e24 : f' 24 = .slice Z (rul gm.rules i).2.length z := hag' 24 (by decide)
  have e25 : f' 25 = .int .i64 (rul gm.rules i).2.length := hag' 25 (by decide)
  have e5 : f' 5 = .slice X i e := (hag' 5 (by decide)).trans (by assumption)
  have e14 : f' 14 = .int .i64 i := (hag' 14 (by decide)).trans h14
  simp only [e1, e8, e24, e25, e5, e14, h26, go_sem, Nat.reduceEqDiff]
  by_cases hlt2 : j < (rul gm.rules i).2.length
  · have hlt2' : (j : Int) < (rul gm.rules i).2.length := by omega
    simp only [hlt2', decide_true, go_sem, Nat.reduceEqDiff]
    rw [ixn22 hz.is.ptr hlt2, ld3 ((hz.is.gr g7).cell j hlt2)]
    have hl : (((rul gm.rules i).2.map (shiftS d)).take j).length = j := by simp; omega
    have hshift : ∀ (s' : Int), s' = shiftS d ((rul gm.rules i).2.getD j 0) → ints [s'] = ints [shiftS d ((rul gm.rules i).2.getD j 0)] := fun _ e => by rw [e]
    by_cases hs : 0 ≤ (rul gm.rules i).2.getD j 0
    · simp only [hs, decide_true, go_sem, Nat.reduceEqDiff]
      rw [show IntKind.i64.wrap ((rul gm.rules i).2.getD j 0 + d) = shiftS d ((rul gm.rules i).2.getD j 0) from (if_pos hs).symm]
      rw [ldB22 hB7 rfl]
      refine bs22 [.int .i64 (shiftS d ((rul gm.rules i).2.getD j 0))] (by decide) (by simp [Instr.fill, madeCells, Value.cells, rng1]) rfl fun b8 w8 hb8 hb8' g8 hbox8 hrow8 => ?_
      have o8 : Own 3 w8 w7.heap.size (some ⟨b8, 0, none⟩) 1 [shiftS d ((rul gm.rules i).2.getD j 0)] := hrow8 _ (Nat.le_refl _)
      refine apI (o7.gr g8) o8.ints hl.symm rfl (by rw [hl]; simp; omega) (Nat.le_trans g7.size g8.size) fun U' u' w9 o9 g9 => ?_
      rw [← map_take_snoc hlt2] at o9
      rw [show (((rul gm.rules i).2.map (shiftS d)).take j ++ [shiftS d ((rul gm.rules i).2.getD j 0)]).length = j + 1 from by simp; omega]
      have hB9 := (hB7.gr g8).kept g9 (box_row (hB7.gr g8) (o7.gr g8) (by decide))
      refine do_store sz22 rfl (by intro u hu; simp [Value.cells] at hu; subst hu; rfl) hB9 (by simp [Value.cells]) fun w10 g10 s10 h10 => ?_
      rw [i64_of (by omega) (by omega)]
      have g89 := gr_mod (gr_trans g7 g8) g9 fun q hq => (Row.ge o7 hq).1
      refine ⟨⟨j + 1, U', u', hlt2, rfl, gr_put g89 g10 hq5, h10, Row.kept o9 g10 (.inr (box_row hB9 o9 (by decide)))⟩, ?_⟩
      · simp only [intOf]
        omega
    · simp only [hs, decide_false, go_sem, Nat.reduceEqDiff]
      rw [show [((0 : Nat), Value.int .i64 ((rul gm.rules i).2.getD j 0))] = [((0 : Nat), Value.int .i64 (shiftS d ((rul gm.rules i).2.getD j 0)))] from by unfold shiftS; rw [if_neg hs]]
      rw [ldB22 hB7 rfl]
      refine bs22 [.int .i64 (shiftS d ((rul gm.rules i).2.getD j 0))] (by decide) (by simp [Instr.fill, madeCells, Value.cells, rng1]) rfl fun b8 w8 hb8 hb8' g8 hbox8 hrow8 => ?_
      have o8 : Own 3 w8 w7.heap.size (some ⟨b8, 0, none⟩) 1 [shiftS d ((rul gm.rules i).2.getD j 0)] := hrow8 _ (Nat.le_refl _)
      refine apI (o7.gr g8) o8.ints hl.symm rfl (by rw [hl]; simp; omega) (Nat.le_trans g7.size g8.size) fun U' u' w9 o9 g9 => ?_
      rw [← map_take_snoc hlt2] at o9
      rw [show (((rul gm.rules i).2.map (shiftS d)).take j ++ [shiftS d ((rul gm.rules i).2.getD j 0)]).length = j + 1 from by simp; omega]
      have hB9 := (hB7.gr g8).kept g9 (box_row (hB7.gr g8) (o7.gr g8) (by decide))
      refine do_store sz22 rfl (by intro u hu; simp [Value.cells] at hu; subst hu; rfl) hB9 (by simp [Value.cells]) fun w10 g10 s10 h10 => ?_
      rw [i64_of (by omega) (by omega)]
      have g89 := gr_mod (gr_trans g7 g8) g9 fun q hq => (Row.ge o7 hq).1
      refine ⟨⟨j + 1, U', u', hlt2, rfl, gr_put g89 g10 hq5, h10, Row.kept o9 g10 (.inr (box_row hB9 o9 (by decide)))⟩, ?_⟩
      · simp only [intOf]
        omega
  · simp only [show ¬ (j : Int) < (rul gm.rules i).2.length from by omega, decide_false, go_sem, Nat.reduceEqDiff]
    obtain rfl : j = (rul gm.rules i).2.length := by omega
    rw [List.take_of_length_le (by simp)] at o7
    rw [ldB_agg agg77 sz77 rfl hB7]
    refine bs35 [.int .i64 (IntKind.i64.wrap ((rul gm.rules i).1 + d)), .slice U (rul gm.rules i).2.length u] (by decide) (by simp [Instr.fill, madeCells, Value.cells, rng2]) rfl fun b8 w8 hb8 hb8' g8 hbox8 hrow8 => ?_
    have hN : RCells [.int .i64 (IntKind.i64.wrap ((rul gm.rules i).1 + d)), .slice U (rul gm.rules i).2.length u] [shiftR d (rul gm.rules i)] (fun _ => (U, u)) := ⟨rfl, fun j hj => by
      obtain rfl : j = 0 := by simpa using hj
      simp [rul, shiftR]⟩
    have gw7 := gr_trans g2 g7
    have gw8 := gr_trans gw7 g8
    refine do_append_rules (ps := ps) (rs := shiftRs d (gm.rules.take i)) (qs := [shiftR d (rul gm.rules i)]) u35 inf77 rfl (by decide) hlen.symm rfl (o2.gr (gr_trans g7 g8)) (Row.src (hrow8 _ (Nat.le_refl _))) hN (fun j hj => ?_) (fun i j hi hj hij => ?_) (fun i' j hi' hj => ?_) (by rw [hlen]; simp; omega) (by rw [hlen]; simp; omega) gw8.size fun X' c' w9 g9 o9 _ => ?_
    · obtain rfl : j = 0 := by simpa using hj
      exact Row.mono (Row.gr o7 g8) g2.size
    · simp at hi hj
      omega
    · exact blk_ne (fun q hq => (Row.ge (o2.own i' hi') hq).2) (fun q hq => (Row.ge o7 hq).1) (Nat.le_refl _)
    rw [i64_of (by omega) (by omega)]
    refine ⟨⟨i + 1, X', c', _, hlt, rfl, rfl, gr_mod gw8 g9 fun q hq => ?_, by
      rw [take_rul hlt, shiftRs, List.map_append]
      exact o9⟩, ?_⟩
    · obtain ⟨cells, hr, _⟩ := o2.row
      exact (Row.ge hr hq).1
    · simp only [intOf]
      omega
end Go.Proofs.Ytiohaeckagjebaa

/- Contract: a grammar made of grammars (the reference's l20Made). -/
set_option linter.unusedVariables false
set_option linter.unusedSimpArgs false
set_option maxRecDepth 100000
namespace Go.Sh
open Go
def gmn (gs : List Gram) (j : Nat) : Gram := gs.getD j ⟨0, 0, []⟩
/-- A slice of grammars that is read; it lies in F. -/
structure GramsF (F : Nat → Prop) (w : World) (X : Option Addr) (gs : List Gram) : Prop where
  le : gs.length ≤ 9223372036854775807
  ptr : 0 < gs.length → X = some (ad X)
  foot : 0 < gs.length → F (ad X).block
  row : ∀ j, j < gs.length → ∃ Y c, w.cell? ((ad X).add (j * 3)) = some (.int .i64 (gmn gs j).nons) ∧ w.cell? ((ad X).add (j * 3 + 1)) = some (.int .i64 (gmn gs j).toks) ∧ w.cell? ((ad X).add (j * 3 + 2)) = some (.slice Y (gmn gs j).rules.length c) ∧ (gmn gs j).rules.length ≤ c ∧ RulesF F w Y (gmn gs j).rules
theorem GramsF.gx {F D : Nat → Prop} {w w' : World} {X : Option Addr} {gs : List Gram} (h : GramsF F w X gs) (g : Gx D w w') (hn : ∀ b, F b → ¬ D b) : GramsF F w' X gs := by
  refine ⟨h.le, h.ptr, h.foot, fun j hj => ?_⟩
  obtain ⟨Y, c, h1, h2, h3, h4, h5⟩ := h.row j hj
  have hf := hn _ (h.foot (by omega))
  exact ⟨Y, c, g.cell h1 (by rw [add_block]; exact hf), g.cell h2 (by rw [add_block]; exact hf), g.cell h3 (by rw [add_block]; exact hf), h4, h5.gx g hn⟩
theorem ld_gram {P : Program} {t : TypeId} (ht : agg P t) (hs : szOf P t 3) {F : Nat → Prop} {w : World} {X : Option Addr} {gs : List Gram} (hx : GramsF F w X gs) {j : Nat} (hj : j < gs.length) {k : Value → Prop}
    (hk : ∀ v, GramV F w v (gmn gs j) → k v) : Rd P (WS.at w) (sLoad t (.pointer (some ((ad X).add (j * 3))))) k := by
  obtain ⟨Y, c, h1, h2, h3, h4, h5⟩ := hx.row j hj
  rw [ld_agg ht hs (cs := [.int .i64 (gmn gs j).nons, .int .i64 (gmn gs j).toks, .slice Y (gmn gs j).rules.length c]) rfl]
  · exact hk _ ⟨Y, c, rfl, h4, h5⟩
  · intro i hi
    match i, hi with
    | 0, _ => rw [add_add, Nat.add_zero]; exact h1
    | 1, _ => rw [add_add]; exact h2
    | 2, _ => rw [add_add]; exact h3
def nextN (gs : List Gram) : Nat → Int
  | 0 => 1
  | i + 1 => IntKind.i64.wrap (nextN gs i + (gmn gs i).nons)
def moreN (first : List RuleL) (gs : List Gram) : Nat → List RuleL
  | 0 => first
  | i + 1 => moreN first gs i ++ shiftRs (nextN gs i) (gmn gs i).rules
theorem moreN_length {first : List RuleL} {gs : List Gram} (hg : ∀ j, j < gs.length → (gmn gs j).rules.length ≤ 16) : ∀ i, i ≤ gs.length → (moreN first gs i).length ≤ first.length + 16 * i
  | 0, _ => by simp [moreN]
  | i + 1, hi => by
    have := moreN_length (first := first) hg i (by omega)
    have := hg i (by omega)
    simp [moreN, shiftRs]
    omega
theorem good_len {g : Gram} (hg : goodG g = true) : g.rules.length ≤ 16 := by
  simp only [goodG, Bool.and_eq_true, decide_eq_true_eq] at hg
  exact hg.1.2
/-- Where a block that is old comes from. -/
def From (w : World) (X0 X : Option Addr) : Prop := ∀ q, blk X = some q → q < w.heap.size → blk X0 = some q
theorem From.moved {w w2 : World} {X0 X X' : Option Addr} (h : From w X0 X) (hm : Moved w2 X X') (hs : w.heap.size ≤ w2.heap.size) : From w X0 X' := by
  intro q hq hlt
  rcases hm with e | e
  · exact h q (e ▸ hq) hlt
  · have := e q hq
    omega
abbrev zeroGram : Value := .agg #[.int .i64 0, .int .i64 0, .slice none 0 0]
end Go.Sh
namespace Go.Proofs.Ytiohaeckagjebaa
open Go Go.Sh Go.RowKit

theorem l20Made_c {F : Nat → Prop} {w : World} {B c n d : Nat} {X0 G : Option Addr} {nons toks : Int} {first : List RuleL} {gs : List Gram} {ps : Nat → Option Addr × Nat}
    (hf : OwnR 77 3 w B X0 c first ps) (hn : n = first.length) (hfl : first.length ≤ 16) (hx : GramsF F w G gs) (hgl : gs.length ≤ 4) (hgood : ∀ j, j < gs.length → goodG (gmn gs j) = true) (hsep : ∀ q, F q → blk X0 ≠ some q) (hB : B ≤ w.heap.size) {k : Value → World → Prop}
    (hk : ∀ v w', Gx (fun q => blk X0 = some q) w w' → (if goodG ⟨nons, toks, moreN first gs gs.length⟩ = true then GramO w' B v ⟨nons, toks, moreN first gs gs.length⟩ else v = zeroGram) → k (.tuple #[v, .bool (goodG ⟨nons, toks, moreN first gs gs.length⟩)]) w') :
    CallK Try.prog 86 [.int .i64 nons, .int .i64 toks, .slice X0 n c, .slice G gs.length d] k w := by
  subst hn
  refine enter86 ?_
  unfold S86
  refine do_alloc_of inf37 fun b1 w1 g1 hb1 h1 => ?_
  rw [bd37 (cells := #[.int .i64 nons, .int .i64 toks, .slice X0 first.length c]) rfl]
  refine do_alloc_of inf37 fun b4 w2 g2 hb4 h4 => ?_
  have n4 := h1.ne hb4
  refine do_store sz37 rfl (by intro u hu; simp [Value.cells] at hu; rcases hu with rfl | rfl | rfl <;> rfl) h4 (by simp [Value.cells]) fun w3 g3 s3 h4 => ?_
  have h1 := (h1.gr g2).put g3 n4
  have q4 := Nat.le_trans g1.size hb4
  have g := gr_put (gr_trans g1 g2) g3 q4
  simp only [go_sem, Nat.reduceEqDiff]
  refine ⟨fun f w' => ∃ (i : Nat) (X : Option Addr) (e : Nat) (ps : Nat → Option Addr × Nat), i ≤ gs.length ∧ f 20 = .int .i64 i ∧ f 11 = .int .i64 (nextN gs i) ∧ Gx (fun q => blk X0 = some q) w w' ∧ Box w' b1 [.int .i64 0, .int .i64 0, .slice none 0 0] 37 ∧ Box w' b4 [.int .i64 nons, .int .i64 toks, .slice X (moreN first gs i).length e] 37 ∧ From w X0 X ∧ OwnR 77 3 w' B X e (moreN first gs i) ps, fun f _ => gs.length - (intOf (f 20)).toNat,
    ⟨0, X0, c, ps, Nat.zero_le _, rfl, rfl, gx_of_gr g _, h1, h4, fun q hq _ => hq, hf.gr g⟩, ?_⟩
  rintro f w4 hag ⟨i, X, e, ps, hi, h20, h11, g4, hb1', hb4', hfrom, o4⟩
  have f8 : f 8 = .pointer (some ⟨b1, 0, none⟩) := hag 8 (by decide)
  have f10 : f 10 = .pointer (some ⟨b4, 0, none⟩) := hag 10 (by decide)
  have f18 : f 18 = .slice G gs.length d := hag 18 (by decide)
  have f19 : f 19 = .int .i64 gs.length := hag 19 (by decide)
  simp only [f8, f10, f18, f19, h20, h11, go_sem, Nat.reduceEqDiff]
  have hml := moreN_length (first := first) (fun j hj => good_len (hgood j hj)) i hi
  by_cases hlt : i < gs.length
  · have hlt' : (i : Int) < gs.length := by omega
    simp only [hlt', decide_true, go_sem, Nat.reduceEqDiff]
    have hx4 := hx.gx g4 fun q hq h => hsep q hq h
    rw [ixn154 hx.ptr hlt]
    refine ld_gram agg37 sz37 hx4 hlt fun v hv => ?_
    have hvc := hv
    obtain ⟨Y, y, rfl, hy1, hy2⟩ := hvc
    refine do_alloc_of inf37 fun b5 w5 g5 hb5 h5 => ?_
    have m1 := hb1'.ne hb5
    have m4 := hb4'.ne hb5
    refine do_store sz37 rfl (by intro u hu; simp [Value.cells] at hu; rcases hu with rfl | rfl | rfl <;> rfl) h5 (by simp [Value.cells]) fun w6 g6 s6 h5 => ?_
    have g46 := gr_put g5 g6 hb5
    have hb1' := hb1'.gr g46
    have hb4' := hb4'.gr g46
    refine ⟨fun w' => Gr w6.drew w', Gr.refl _, ?_⟩
    have gd := gr_drew w6
    simp only [go_sem, Nat.reduceEqDiff]
    rw [ldS35 (fun w' hw' => ((hb4'.gr gd).gr hw').cell 2)]
    rw [rd_loadAgg agg37 sz37 (cs := [.int .i64 (gmn gs i).nons, .int .i64 (gmn gs i).toks, .slice Y (gmn gs i).rules.length y]) rfl (fun w' hw' j hj => by
      rw [add_plain, Nat.zero_add, ((h5.gr gd).gr hw').cell]
      exact List.getElem?_eq_getElem hj)]
    have g4d := gr_trans g46 gd
    refine l20Shift_c (hv.gr g4d) (hgood i hlt) fun X2 c2 ps2 w7 g7 o7 => ?_
    refine ⟨g7, ?_⟩
    obtain ⟨news, hr7, hN⟩ := o7.cells
    have g47 := gr_trans g4d g7
    have o47 := o4.gr g47
    have hl16 := good_len (hgood i hlt)
    have hl7 : (shiftRs (nextN gs i) (gmn gs i).rules).length = (gmn gs i).rules.length := by simp [shiftRs]
    refine do_append_rules u35 inf77 rfl (by decide) rfl hl7.symm o47 (Row.src hr7) hN (fun j hj => Row.mono (o7.own j hj) (Nat.le_trans hB (Nat.le_trans g4.size g4d.size))) o7.two (fun i' j hi' hj => blk_ne (fun q hq => (Row.ge (o4.own i' hi') hq).2) (fun q hq => (Row.ge (o7.own j hj) hq).1) g4d.size) (by omega) (by omega) (Nat.le_trans hB (Nat.le_trans g4.size g47.size)) fun X' c' w8 g8 o8 hmv => ?_
    have hX4 : blk X ≠ some b4 ∧ blk X ≠ some b1 ∧ blk X ≠ some b5 := by
      obtain ⟨cells, hr, _⟩ := o47.cells
      exact ⟨box_row (hb4'.gr (gr_trans gd g7)) hr (by decide), box_row (hb1'.gr (gr_trans gd g7)) hr (by decide), box_row (h5.gr (gr_trans gd g7)) hr (by decide)⟩
    have hb48 := (hb4'.gr (gr_trans gd g7)).kept g8 hX4.1
    have hb18 := (hb1'.gr (gr_trans gd g7)).kept g8 hX4.2.1
    have h58 := (h5.gr (gr_trans gd g7)).kept g8 hX4.2.2
    refine do_store sz35 rfl (by intro u hu; simp [Value.cells] at hu; subst hu; rfl) hb48 (by simp [Value.cells]) fun w9 g9 s9 hb49 => ?_
    have hb19 := hb18.put g9 n4
    have h59 := h58.put g9 (fun e => m4 e.symm)
    rw [ldB3 h59 rfl]
    simp only [go_sem, Nat.reduceEqDiff]
    have hG8 : Gx (fun q => blk X0 = some q) w w8 := (g4.after (gx_of_gr g47 fun _ => False) (fun _ h _ => h.elim)).after (gx_of g8 (D := fun q => blk X = some q) fun q hq => hq) fun q hq hlt => hfrom q hq hlt
    have hG9 : Gx (fun q => blk X0 = some q) w w9 := hG8.after (gx_of g9 (D := fun q => q = b4) fun q hq => by simpa using hq.symm) fun q hq hlt => by omega
    rw [i64_of (n := (i : Int) + 1) (by omega) (by omega)]
    refine ⟨⟨i + 1, X', c', joinP (moreN first gs i).length ps ps2, hlt, rfl, rfl, hG9, hb19, ?_, hfrom.moved hmv (Nat.le_trans g4.size g47.size), o8.put hb48 (by decide) (by decide) g9⟩, ?_⟩
    · simpa [moreN, hl7, Value.cells] using hb49
    · simp only [intOf]
      omega
  simp only [show ¬ (i : Int) < gs.length from by omega, decide_false, go_sem, Nat.reduceEqDiff]
  obtain rfl : i = gs.length := by omega
  rw [ldB_agg agg37 sz37 rfl hb4']
  have o4v : GramV (fun _ => True) w4 (.agg #[.int .i64 nons, .int .i64 toks, .slice X (moreN first gs gs.length).length e]) ⟨nons, toks, moreN first gs gs.length⟩ := by
    obtain ⟨cells, hr, hc⟩ := o4.cells
    exact ⟨X, e, rfl, (Row.cap hr).1, o4.read.mono fun _ _ => trivial⟩
  refine goodGrammar_c o4v fun w5 g5 => ?_
  have hb15 := hb1'.gr g5
  have hG5 : Gx (fun q => blk X0 = some q) w w5 := g4.after (gx_of_gr g5 fun _ => False) fun _ h _ => h.elim
  have hlt1 : w.heap.size ≤ b1 := hb1
  cases hgd : goodG ⟨nons, toks, moreN first gs gs.length⟩
  · simp only [Bool.not_false, go_sem, Nat.reduceEqDiff]
    rw [bd37 (cells := #[.int .i64 0, .int .i64 0, .slice none 0 0]) rfl]
    refine do_store sz37 rfl (by intro u hu; simp [Value.cells] at hu; rcases hu with rfl | rfl | rfl <;> rfl) hb15 (by simp [Value.cells]) fun w6 g6 s6 hb16 => ?_
    rw [rd_loadVar, ldB_agg agg37 sz37 rfl hb16]
    have := hk zeroGram w6 (hG5.after (gx_of g6 (D := fun q => q = b1) fun q hq => by simpa using hq.symm) fun q hq hlt => by omega)
    rw [hgd] at this
    exact this (by simp)
  · simp only [Bool.not_true, go_sem, Nat.reduceEqDiff]
    rw [ldB_agg agg37 sz37 rfl (hb4'.gr g5)]
    refine do_store sz37 rfl (by intro u hu; simp [Value.cells] at hu; rcases hu with rfl | rfl | rfl <;> rfl) hb15 (by simp [Value.cells]) fun w6 g6 s6 hb16 => ?_
    rw [rd_loadVar, ldB_agg agg37 sz37 rfl hb16]
    have := hk (.agg #[.int .i64 nons, .int .i64 toks, .slice X (moreN first gs gs.length).length e]) w6 (hG5.after (gx_of g6 (D := fun q => q = b1) fun q hq => by simpa using hq.symm) fun q hq hlt => by omega)
    rw [hgd] at this
    exact this (by simp only [if_true]; exact ⟨X, e, ps, rfl, (o4.gr g5).put hb15 (by decide) (by decide) g6⟩)
end Go.Proofs.Ytiohaeckagjebaa

/- Contract: what comes again and again, by the reference. -/
set_option linter.unusedVariables false
set_option linter.unusedSimpArgs false
set_option maxRecDepth 100000
namespace Go.Sh
open Go
def starFirst : List RuleL := [(0, []), (0, [1, 0])]
def madeV (first : List RuleL) (nons toks : Int) (gs : List Gram) : Option Gram :=
  if goodG ⟨nons, toks, moreN first gs gs.length⟩ = true then some ⟨nons, toks, moreN first gs gs.length⟩ else none
def starV (g : Gram) : Option Gram := if goodG g = true then madeV starFirst (IntKind.i64.wrap (1 + g.nons)) g.toks [g] else none
/-- A grammar that may not be there, of the call's own. -/
def GramR (w : World) (B : Nat) (v : Value) : Option Gram → Prop
  | some m => GramO w B v m
  | none => v = zeroGram
theorem rul_cons {r : RuleL} {rs : List RuleL} : rul (r :: rs) 0 = r := rfl
theorem box_ne {w : World} {b b' t t' : Nat} {cs cs' : List Value} (h : Box w b cs t) (h' : Box w b' cs' t') (ht : t ≠ t') : b ≠ b' := by
  intro e
  subst e
  unfold Box at h h'
  rw [h] at h'
  simp at h'
  exact ht h'.2
theorem GramR.put {w w' : World} {B b t : Nat} {v : Value} {o : Option Gram} {cs : List Value} (h : GramR w B v o) (hb : Box w b cs t) (h1 : 77 ≠ t) (h2 : 3 ≠ t) (g : w.grownBy w' (some b)) : GramR w' B v o := by
  cases o with
  | none => exact h
  | some m =>
    obtain ⟨X, c, ps, e, ho⟩ := h
    exact ⟨X, c, ps, e, ho.put hb h1 h2 g⟩
theorem GramR.three {w : World} {B : Nat} {v : Value} {o : Option Gram} (h : GramR w B v o) : ∃ x y z, v = .agg #[x, y, z] ∧ x.oneCell' = true ∧ y.oneCell' = true ∧ z.oneCell' = true := by
  cases o with
  | none => exact ⟨_, _, _, h, rfl, rfl, rfl⟩
  | some m =>
    obtain ⟨X, c, ps, e, ho⟩ := h
    exact ⟨_, _, _, e, rfl, rfl, rfl⟩
end Go.Sh
namespace Go.Proofs.Ytiohaeckagjebaa
open Go Go.Sh Go.RowKit

theorem specStarOf_c {F : Nat → Prop} {w : World} {v : Value} {gm : Gram} (hv : GramV F w v gm) (hF : ∀ q, F q → q < w.heap.size) {k : Value → World → Prop}
    (hk : ∀ v w', Gr w w' → GramR w' w.heap.size v (starV gm) → k (.tuple #[v, .bool (starV gm).isSome]) w') :
    CallK Try.prog 34 [v] k w := by
  obtain ⟨Y, c, rfl, hc, hy⟩ := hv
  refine enter34 ?_
  unfold S34
  refine do_box fun b1 w1 g1 hb1 h1 => ?_
  refine do_alloc_of inf37 fun b3 w2 g2 hb3 h3 => ?_
  have n3 := h1.ne hb3
  have h1 := h1.gr g2
  have q3 := Nat.le_trans g1.size hb3
  rw [ldB_agg agg37 sz37 rfl h1]
  have g := gr_trans g1 g2
  refine goodGrammar_c (gm := gm) ⟨Y, c, rfl, hc, hy.gr g⟩ fun w4 g4 => ?_
  have g := gr_trans g g4
  have h1 := h1.gr g4
  have h3 := h3.gr g4
  cases hg : goodG gm
  · simp only [Bool.not_false, go_sem, Nat.reduceEqDiff]
    rw [bd37 (cells := #[.int .i64 0, .int .i64 0, .slice none 0 0]) rfl]
    refine do_store sz37 rfl (by intro u hu; simp [Value.cells] at hu; rcases hu with rfl | rfl | rfl <;> rfl) h3 (by simp [Value.cells]) fun w5 g5 s5 h5 => ?_
    rw [rd_loadVar, ldB_agg agg37 sz37 rfl h5]
    have := hk zeroGram w5 (gr_put g g5 q3)
    simp only [starV, hg] at this
    exact this rfl
  simp only [Bool.not_true, go_sem, Nat.reduceEqDiff]
  rw [ldB3 h1 rfl]
  simp only [go_sem, Nat.reduceEqDiff]
  rw [ldB3 h1 rfl, bd77 (cells := #[.int .i64 0, .slice none 0 0]) rfl]
  refine bs22 [.int .i64 1, .int .i64 0] (by decide) (by simp [Instr.fill, madeCells, Value.cells, rng2]) rfl fun b5 w5 hb5 hb5' g5 hbox5 hrow5 => ?_
  rw [bd77 (cells := #[.int .i64 0, .slice (some ⟨b5, 0, none⟩) 2 2]) rfl]
  refine bs35 [.int .i64 0, .slice none 0 0, .int .i64 0, .slice (some ⟨b5, 0, none⟩) 2 2] (by decide) (by simp [Instr.fill, madeCells, Value.cells, rng4]) rfl fun b6 w6 hb6 hb6' g6 hbox6 hrow6 => ?_
  have h1 := h1.gr (gr_trans g5 g6)
  rw [ldB_agg agg37 sz37 rfl h1]
  refine bs154 [.int .i64 gm.nons, .int .i64 gm.toks, .slice Y gm.rules.length c] (by decide) (by simp [Instr.fill, madeCells, Value.cells, rng3]) rfl fun b7 w7 hb7 hb7' g7 hbox7 hrow7 => ?_
  have g57 := gr_trans g5 (gr_trans g6 g7)
  have g0 := gr_trans g g57
  have o5 : Own 3 w7 w.heap.size (some ⟨b5, 0, none⟩) 2 [1, 0] := Row.gr (Row.mono (hrow5 _ (Nat.le_refl _)) g.size) (gr_trans g6 g7)
  have hfirst : OwnR 77 3 w7 w.heap.size (some ⟨b6, 0, none⟩) 2 starFirst (fun j => if j = 0 then (none, 0) else (some ⟨b5, 0, none⟩, 2)) := by
    refine ⟨⟨_, Row.gr (Row.mono (hrow6 _ (Nat.le_refl _)) (gr_trans g g5).size) g7, fun j hj => ?_⟩, fun j hj => ?_, fun i j hi hj hij => ?_⟩
    · match j, hj with
      | 0, _ => exact ⟨rfl, rfl⟩
      | 1, _ => exact ⟨rfl, rfl⟩
    · match j, hj with
      | 0, _ => exact Row.nil _ _ _ _
      | 1, _ => exact o5
    · match i, j, hi, hj, hij with
      | 0, 1, _, _, _ => exact .inl rfl
      | 1, 0, _, _, _ => exact .inr (by simp [blk])
      | 0, 0, _, _, h => exact absurd rfl h
      | 1, 1, _, _, h => exact absurd rfl h
  have hlt6 : b6 < w6.heap.size := hb6'
  have hgs : GramsF (fun q => q ≠ b6) w7 (some ⟨b7, 0, none⟩) [gm] := by
    refine ⟨by simp, fun _ => rfl, fun _ => ?_, fun j hj => ?_⟩
    · show b7 ≠ b6
      omega
    · obtain rfl : j = 0 := by simpa using hj
      refine ⟨Y, c, ?_, ?_, ?_, hc, (hy.gr g0).mono fun q hq e => ?_⟩
      · exact hbox7.cell 0
      · exact hbox7.cell 1
      · exact hbox7.cell 2
      · have := hF q hq
        have := g.size
        have := g5.size
        omega
  refine l20Made_c (gs := [gm]) hfirst rfl (by decide) hgs (by simp) (fun j hj => by
    obtain rfl : j = 0 := by simpa using hj
    exact hg) (fun q hq e => hq (by simpa [blk] using e.symm)) g0.size fun v w8 g8 hres => ?_
  have h3 := (h3.gr g57)
  have hb63 : b3 ≠ b6 := box_ne h3 (hbox6.gr g7) (by decide)
  have h38 := h3.gx g8 (by simpa [blk] using fun e => hb63 e.symm)
  have g08 : Gr w w8 := Gx.gr_after g0 g8 fun q hq => by
    have : b6 = q := by simpa [blk] using hq
    have := g.size
    have := g5.size
    omega
  have hres' : GramR w8 w.heap.size v (starV gm) ∧ goodG ⟨IntKind.i64.wrap (1 + gm.nons), gm.toks, moreN starFirst [gm] [gm].length⟩ = (starV gm).isSome := by
    unfold starV madeV
    rw [if_pos hg]
    split at hres
    · rename_i hh
      rw [if_pos hh, hh]
      exact ⟨hres, rfl⟩
    · rename_i hh
      rw [if_neg hh]
      exact ⟨hres, by simpa using hh⟩
  rw [hres'.2]
  obtain ⟨x, y, z, rfl, hx1, hy1, hz1⟩ := hres'.1.three
  simp only [go_sem, Nat.reduceEqDiff]
  refine do_store sz37 rfl (by intro u hu; simp [Value.cells] at hu; rcases hu with rfl | rfl | rfl <;> assumption) h38 (by simp [Value.cells]) fun w9 g9 s9 h9 => ?_
  rw [rd_loadVar, ldB_agg agg37 sz37 rfl h9]
  exact hk _ w9 (gr_put g08 g9 q3) (hres'.1.put h38 (by decide) (by decide) g9)
end Go.Proofs.Ytiohaeckagjebaa

/- Contract: a copy of a grammar by the program. -/
set_option linter.unusedVariables false
set_option linter.unusedSimpArgs false
set_option maxRecDepth 100000
namespace Go.Sh
open Go
theorem good_rule {g : Gram} (hg : goodG g = true) : ∀ i, i < g.rules.length → (rul g.rules i).2.length ≤ 4 := fun i hi => by
  simp only [goodG, Bool.and_eq_true, List.all_eq_true] at hg
  have := hg.2 i (List.mem_range.2 hi)
  simp only [goodR, Bool.and_eq_true, decide_eq_true_eq] at this
  exact this.1.1.2
end Go.Sh
namespace Go.Proofs.Ytiohaeckagjebaa
open Go Go.Sh Go.RowKit

theorem copyGrammar_c {F : Nat → Prop} {w : World} {v : Value} {gm : Gram} (hv : GramV F w v gm) (hg : goodG gm = true) {k : Value → World → Prop}
    (hk : ∀ v w', Gr w w' → GramO w' w.heap.size v gm → k v w') : CallK Try.prog 141 [v] k w := by
  obtain ⟨Y, c, rfl, hc, hy⟩ := hv
  have hgl := good_len hg
  have hgr := good_rule hg
  refine enter141 ?_
  unfold S141
  refine do_box fun b1 w1 g1 hb1 h1 => ?_
  refine do_alloc_of inf37 fun b3 w2 g2 hb3 h3 => ?_
  have n3 := h1.ne hb3
  have h1 := h1.gr g2
  have q3 := Nat.le_trans g1.size hb3
  simp only [go_sem, Nat.reduceEqDiff]
  rw [ldB3 h1 rfl, ldB3 h1 rfl]
  rw [bd37 (cells := #[.int .i64 gm.nons, .int .i64 gm.toks, .slice none 0 0]) rfl]
  refine do_alloc_of inf37 fun b4 w4 g4 hb4 h4 => ?_
  have n4 := h3.ne hb4
  have n14 := h1.ne hb4
  have q4 := Nat.le_trans (gr_trans g1 g2).size hb4
  refine do_store sz37 rfl (by intro u hu; simp [Value.cells] at hu; rcases hu with rfl | rfl | rfl <;> rfl) h4 (by simp [Value.cells]) fun w5 g5 s5 h4 => ?_
  have h1 := (h1.gr g4).put g5 n14
  have h3 := (h3.gr g4).put g5 n4
  have g := gr_put (gr_trans (gr_trans g1 g2) g4) g5 q4
  rw [ldB35 h1 rfl]
  simp only [go_sem, Nat.reduceEqDiff]
  refine ⟨fun f w' => ∃ (i : Nat) (X : Option Addr) (e : Nat) (ps : Nat → Option Addr × Nat), i ≤ gm.rules.length ∧ f 14 = .int .i64 i ∧ Gr w w' ∧ Box w' b3 [.int .i64 0, .int .i64 0, .slice none 0 0] 37 ∧ Box w' b4 [.int .i64 gm.nons, .int .i64 gm.toks, .slice X i e] 37 ∧ OwnR 77 3 w' w.heap.size X e (gm.rules.take i) ps, fun f _ => gm.rules.length - (intOf (f 14)).toNat,
    ⟨0, none, 0, fun _ => (none, 0), Nat.zero_le _, rfl, g, h3, h4, ⟨[], Row.nil _ _ _ _, fun j hj => by simp at hj⟩, fun j hj => by simp at hj, fun i j hi => by simp at hi⟩, ?_⟩
  rintro f w6 hag ⟨i, X, e, ps, hi, h14, g6, hb3', hb4', o6⟩
  have f2 : f 2 = .pointer (some ⟨b3, 0, none⟩) := hag 2 (by decide)
  have f3 : f 3 = .pointer (some ⟨b4, 0, none⟩) := hag 3 (by decide)
  have f12 : f 12 = .slice Y gm.rules.length c := hag 12 (by decide)
  have f13 : f 13 = .int .i64 gm.rules.length := hag 13 (by decide)
  have hlen : (gm.rules.take i).length = i := by simp; omega
  simp only [f2, f3, f12, f13, h14, go_sem, Nat.reduceEqDiff]
  by_cases hlt : i < gm.rules.length
  rotate_left
  · simp only [show ¬ (i : Int) < gm.rules.length from by omega, decide_false, go_sem, Nat.reduceEqDiff]
    obtain rfl : i = gm.rules.length := by omega
    rw [List.take_length] at o6
    rw [ldB_agg agg37 sz37 rfl hb4']
    refine do_store sz37 rfl (by intro u hu; simp [Value.cells] at hu; rcases hu with rfl | rfl | rfl <;> rfl) hb3' (by simp [Value.cells]) fun w7 g7 s7 h7 => ?_
    rw [rd_loadVar, ldB_agg agg37 sz37 rfl h7]
    exact hk _ w7 (gr_put g6 g7 q3) ⟨X, e, ps, rfl, o6.put hb3' (by decide) (by decide) g7⟩
  have hlt' : (i : Int) < gm.rules.length := by omega
  simp only [hlt', decide_true, go_sem, Nat.reduceEqDiff]
  rw [ixn35 hy.ptr hlt]
  refine ld_rule agg77 sz77 (hy.gr g6) hlt fun v hv => ?_
  obtain ⟨Z, z, rfl, hz0, hz⟩ := hv
  have hz4 := hgr i hlt
  refine do_alloc_of inf77 fun b7 w7 g7 hb7 h7 => ?_
  refine do_store sz77 rfl (by intro u hu; simp [Value.cells] at hu; rcases hu with rfl | rfl <;> rfl) h7 (by simp [Value.cells]) fun w8 g8 s8 h8 => ?_
  have g68 := gr_put g7 g8 hb7
  have gd := gr_drew w8
  have g6d := gr_trans g68 gd
  refine ⟨fun w' => Gr w8.drew w', Gr.refl _, ?_⟩
  simp only [go_sem, Nat.reduceEqDiff]
  rw [ldS35 (fun w' hw' => ((hb4'.gr g6d).gr hw').cell 2), ldS3 (fun w' hw' => ((h8.gr gd).gr hw').cell 0), ldS22 (fun w' hw' => ((h8.gr gd).gr hw').cell 1)]
  refine bs22 [] (by decide) (by simp [Instr.fill, madeCells]) rfl fun b9 w9 hb9 hb9' g9 hbox9 hrow9 => ?_
  refine ⟨g9, ?_⟩
  refine apI (xs := []) (B := w8.drew.heap.size) (hrow9 _ (Nat.le_refl _)) (hz.is.gr (gr_trans g6d g9)) rfl rfl (by simp; omega) g9.size fun U u w10 o10 g10 => ?_
  rw [List.nil_append] at o10 ⊢
  have gd10 : Gr w8.drew w10 := gr_put g9 g10 hb9
  refine ⟨gd10, ?_⟩
  rw [bd77 (cells := #[.int .i64 (rul gm.rules i).1, .slice U (rul gm.rules i).2.length u]) rfl]
  refine bs35 [.int .i64 (rul gm.rules i).1, .slice U (rul gm.rules i).2.length u] (by decide) (by simp [Instr.fill, madeCells, Value.cells, rng2]) rfl fun b11 w11 hb11 hb11' g11 hbox11 hrow11 => ?_
  have gd11 := gr_trans gd10 g11
  refine ⟨gd11, ?_⟩
  have g611 := gr_trans g6d gd11
  have gw11 := gr_trans g6 g611
  have hN : RCells [.int .i64 (rul gm.rules i).1, .slice U (rul gm.rules i).2.length u] [rul gm.rules i] (fun _ => (U, u)) := ⟨rfl, fun j hj => by
    obtain rfl : j = 0 := by simpa using hj
    exact ⟨rfl, rfl⟩⟩
  have hX4 : blk X ≠ some b4 ∧ blk X ≠ some b3 := by
    obtain ⟨cells, hr, _⟩ := (o6.gr g611).cells
    exact ⟨box_row (hb4'.gr g611) hr (by decide), box_row (hb3'.gr g611) hr (by decide)⟩
  refine do_append_rules (ps := ps) (rs := gm.rules.take i) (qs := [rul gm.rules i]) u35 inf77 rfl (by decide) hlen.symm rfl (o6.gr g611) (Row.src (hrow11 _ (Nat.le_refl _))) hN (fun j hj => ?_) (fun i j hi hj hij => ?_) (fun i' j hi' hj => ?_) (by rw [hlen]; simp; omega) (by rw [hlen]; simp; omega) gw11.size fun X' c' w12 g12 o12 _ => ?_
  · obtain rfl : j = 0 := by simpa using hj
    exact Row.mono (Row.gr o10 g11) (gr_trans g6 g6d).size
  · simp at hi hj
    omega
  · exact blk_ne (fun q hq => (Row.ge (o6.own i' hi') hq).2) (fun q hq => (Row.ge o10 hq).1) g6d.size
  have hb412 := (hb4'.gr g611).kept g12 hX4.1
  have hb312 := (hb3'.gr g611).kept g12 hX4.2
  refine do_store sz35 rfl (by intro u hu; simp [Value.cells] at hu; subst hu; rfl) hb412 (by simp [Value.cells]) fun w13 g13 s13 hb413 => ?_
  have gw12 : Gr w w12 := gr_mod gw11 g12 fun q hq => by
    obtain ⟨cells, hr, _⟩ := o6.row
    exact (Row.ge hr hq).1
  rw [i64_of (by omega) (by omega)]
  refine ⟨⟨i + 1, X', c', _, hlt, rfl, gr_put gw12 g13 q4, hb312.put g13 n4, by simpa [Value.cells] using hb413, by
    rw [take_rul hlt]
    exact o12.put hb412 (by decide) (by decide) g13⟩, ?_⟩
  simp only [intOf]
  omega
end Go.Proofs.Ytiohaeckagjebaa

/- Contract: grammars set beside each other by the program. -/
set_option linter.unusedVariables false
set_option linter.unusedSimpArgs false
set_option maxRecDepth 100000
namespace Go.Sh
open Go
def rgt (rl : List (List Int)) (j : Nat) : List Int := rl.getD j []
/-- A slice of slices of ints that is read. -/
structure Intss (w : World) (X : Option Addr) (rl : List (List Int)) : Prop where
  le : rl.length ≤ 9223372036854775807
  ptr : 0 < rl.length → X = some (ad X)
  row : ∀ j, j < rl.length → ∃ Y c, w.cell? ((ad X).add j) = some (.slice Y (rgt rl j).length c) ∧ (rgt rl j).length ≤ c ∧ Ints w Y (rgt rl j)
theorem Intss.gr {w w' : World} {X : Option Addr} {rl : List (List Int)} (h : Intss w X rl) (g : Gr w w') : Intss w' X rl := ⟨h.le, h.ptr, fun j hj => by
  obtain ⟨Y, c, h1, h2, h3⟩ := h.row j hj
  exact ⟨Y, c, g.cell h1, h2, h3.gr g⟩⟩
def firsts (rl : List (List Int)) : List RuleL := rl.map fun r => (0, r)
theorem firsts_snoc {rl : List (List Int)} {i : Nat} (h : i < rl.length) : firsts (rl.take (i + 1)) = firsts (rl.take i) ++ [(0, rgt rl i)] := by
  unfold firsts rgt
  rw [List.take_succ_eq_append_getElem h, List.map_append]
  simp [List.getD_eq_getElem?_getD, h]
theorem OwnR.inner {e1 e2 : Nat} {w w' : World} {B B' c n d : Nat} {X U : Option Addr} {rs : List RuleL} {ps : Nat → Option Addr × Nat} {xs : List Value} (h : OwnR e1 e2 w B X c rs ps) (hu : Row w B' e2 1 U n d xs) (he : e1 ≠ e2) (hne : ∀ l, l < rs.length → blk (ps l).1 = none ∨ blk (ps l).1 ≠ blk U) (g : w.grownBy w' (blk U)) : OwnR e1 e2 w' B X c rs ps := by
  obtain ⟨⟨cells, hr, hc⟩, ho, ht⟩ := h
  exact ⟨⟨cells, Row.kept hr g (row_ne hr hu he), hc⟩, fun j hj => Row.kept (ho j hj) g (hne j hj), ht⟩
theorem OwnR.congr {e1 e2 : Nat} {w : World} {B c : Nat} {X : Option Addr} {rs : List RuleL} {ps qs : Nat → Option Addr × Nat} (h : OwnR e1 e2 w B X c rs ps) (he : ∀ j, j < rs.length → qs j = ps j) : OwnR e1 e2 w B X c rs qs := by
  obtain ⟨⟨cells, hr, hc⟩, ho, ht⟩ := h
  refine ⟨⟨cells, hr, fun j hj => by rw [he j hj]; exact hc j hj⟩, fun j hj => by rw [he j hj]; exact ho j hj, fun i j hi hj hij => ?_⟩
  rw [he i hi, he j hj]
  exact ht i j hi hj hij
theorem take_keep {xs ys : List Int} {i : Nat} (h : i < ys.length) (hl : xs.length = ys.length) (e : xs.getD i 0 = ys.getD i 0) : xs.take i ++ ys.drop i = xs.take (i + 1) ++ ys.drop (i + 1) := by
  rw [take_snoc (by omega), List.drop_eq_getElem_cons h, e]
  simp [List.getD_eq_getElem?_getD, h]
theorem getD_map {xs : List Int} {i : Nat} {p : Int → Int} (h : i < xs.length) : (xs.map p).getD i 0 = p (xs.getD i 0) := by
  simp [List.getD_eq_getElem?_getD, h]
theorem getD_app {xs ys : List Int} {m : Nat} (h : m < ys.length) (hl : xs.length = ys.length) : (xs.take m ++ ys.drop m).getD m 0 = ys.getD m 0 := by
  have : (xs.take m).length = m := by simp; omega
  simp [List.getD_eq_getElem?_getD, List.getElem?_append_right (show (xs.take m).length ≤ m by omega), this]
theorem blk_sym {U V : Option Addr} (h : blk U = none ∨ blk U ≠ blk V) : blk V = none ∨ blk V ≠ blk U := by
  cases hq : blk V with
  | none => exact .inl rfl
  | some q =>
    refine .inr fun e => ?_
    rcases h with h | h
    · rw [h] at e; cases e
    · exact h (by rw [hq, e])
theorem Row.putb {w w' : World} {B e sz n c b t : Nat} {X : Option Addr} {cells cs : List Value} (h : Row w B e sz X n c cells) (hb : Box w b cs t) (he : e ≠ t) (g : w.grownBy w' (some b)) : Row w' B e sz X n c cells := Row.kept h g (.inr (box_row hb h he))
end Go.Sh
namespace Go.Proofs.Ytiohaeckagjebaa
open Go Go.Sh Go.RowKit

theorem beside_c {w : World} {cr d : Nat} {R G : Option Addr} {rl : List (List Int)} {gs : List Gram} (hr : Intss w R rl) (hrl : rl.length ≤ 4) (hr4 : ∀ j, j < rl.length → (rgt rl j).length ≤ 4)
    (hx : GramsF (fun _ => True) w G gs) (hg0 : 0 < gs.length) (hgl : gs.length ≤ 4) (hgood : ∀ j, j < gs.length → goodG (gmn gs j) = true) {k : Value → World → Prop}
    (hk : ∀ v w', Gr w w' → GramR w' w.heap.size v (madeV (firsts rl) (nextN gs gs.length) (gmn gs 0).toks gs) → k (.tuple #[v, .bool (madeV (firsts rl) (nextN gs gs.length) (gmn gs 0).toks gs).isSome]) w') :
    CallK Try.prog 87 [.slice R rl.length cr, .slice G gs.length d] k w := by
  refine enter87 ?_
  unfold S87
  refine do_alloc_of inf37 fun b1 w1 g1 hb1 h1 => ?_
  obtain ⟨G0, hG0⟩ : ∃ a, G = some a := ⟨_, hx.ptr hg0⟩
  rw [ix154_0 hx.ptr (by omega), fa37_1, add_add]
  obtain ⟨Y0, c0, t0, t1, t2, t3, t4⟩ := hx.row 0 hg0
  rw [ld3 (a := (ad G).add (0 + 1)) (v := .int .i64 (gmn gs 0).toks) (g1.cell t1)]
  rw [bd37 (cells := #[.int .i64 1, .int .i64 (gmn gs 0).toks, .slice none 0 0]) rfl]
  refine do_alloc_of inf37 fun b6 w2 g2 hb6 h6 => ?_
  have n6 := h1.ne hb6
  have q6 := Nat.le_trans g1.size hb6
  refine do_store sz37 rfl (by intro u hu; simp [Value.cells] at hu; rcases hu with rfl | rfl | rfl <;> rfl) h6 (by simp [Value.cells]) fun w3 g3 s3 h6 => ?_
  have h1 := (h1.gr g2).put g3 n6
  have g := gr_put (gr_trans g1 g2) g3 q6
  simp only [go_sem, Nat.reduceEqDiff]
  refine ⟨fun f w' => ∃ (i : Nat) (X : Option Addr) (e : Nat) (ps : Nat → Option Addr × Nat), i ≤ rl.length ∧ f 22 = .int .i64 i ∧ Gr w w' ∧ Box w' b1 [.int .i64 0, .int .i64 0, .slice none 0 0] 37 ∧ Box w' b6 [.int .i64 1, .int .i64 (gmn gs 0).toks, .slice X i e] 37 ∧ OwnR 77 3 w' w.heap.size X e (firsts (rl.take i)) ps, fun f _ => rl.length - (intOf (f 22)).toNat,
    ⟨0, none, 0, fun _ => (none, 0), Nat.zero_le _, rfl, g, h1, h6, ⟨[], Row.nil _ _ _ _, fun j hj => by simp [firsts] at hj⟩, fun j hj => by simp [firsts] at hj, fun i j hi => by simp [firsts] at hi⟩, ?_⟩
  rintro f w4 hag ⟨i, X, e, ps, hi, h22, g4, hb1', hb6', o4⟩
  have f1 : f 1 = .slice G gs.length d := hag 1 (by decide)
  have f4 : f 4 = .pointer (some ⟨b1, 0, none⟩) := hag 4 (by decide)
  have f6 : f 6 = .pointer (some ⟨b6, 0, none⟩) := hag 6 (by decide)
  have f20 : f 20 = .slice R rl.length cr := hag 20 (by decide)
  have f21 : f 21 = .int .i64 rl.length := hag 21 (by decide)
  simp only [f1, f4, f6, f20, f21, h22, go_sem, Nat.reduceEqDiff]
  by_cases hlt : i < rl.length
  · have hlt' : (i : Int) < rl.length := by omega
    simp only [hlt', decide_true, go_sem, Nat.reduceEqDiff]
    obtain ⟨Z, z, hz1, hz2, hz⟩ := (hr.gr g4).row i hlt
    have hz4 := hr4 i hlt
    rw [ixn48 hr.ptr hlt]
    rw [ld22 (v := .slice Z (rgt rl i).length z) (by simpa using hz1)]
    have gd := gr_drew w4
    refine ⟨fun w' => Gr w4.drew w', Gr.refl _, ?_⟩
    simp only [go_sem, Nat.reduceEqDiff]
    rw [ldS35 (fun w' hw' => ((hb6'.gr gd).gr hw').cell 2)]
    have hlen : (firsts (rl.take i)).length = i := by simp [firsts]; omega
    refine bs22 [] (by decide) (by simp [Instr.fill, madeCells]) rfl fun b9 w9 hb9 hb9' g9 hbox9 hrow9 => ?_
    refine ⟨g9, ?_⟩
    refine apI (xs := []) (B := w4.drew.heap.size) (hrow9 _ (Nat.le_refl _)) (hz.gr (gr_trans gd g9)) rfl rfl (by simp; omega) g9.size fun U u w10 o10 g10 => ?_
    rw [List.nil_append] at o10 ⊢
    have gd10 : Gr w4.drew w10 := gr_put g9 g10 hb9
    refine ⟨gd10, ?_⟩
    rw [bd77 (cells := #[.int .i64 0, .slice U (rgt rl i).length u]) rfl]
    refine bs35 [.int .i64 0, .slice U (rgt rl i).length u] (by decide) (by simp [Instr.fill, madeCells, Value.cells, rng2]) rfl fun b11 w11 hb11 hb11' g11 hbox11 hrow11 => ?_
    have gd11 := gr_trans gd10 g11
    refine ⟨gd11, ?_⟩
    have g411 := gr_trans gd gd11
    have gw11 := gr_trans g4 g411
    have hN : RCells [.int .i64 0, .slice U (rgt rl i).length u] [(0, rgt rl i)] (fun _ => (U, u)) := ⟨rfl, fun j hj => by
      obtain rfl : j = 0 := by simpa using hj
      exact ⟨rfl, rfl⟩⟩
    have hX4 : blk X ≠ some b6 ∧ blk X ≠ some b1 := by
      obtain ⟨cells, hr, _⟩ := (o4.gr g411).cells
      exact ⟨box_row (hb6'.gr g411) hr (by decide), box_row (hb1'.gr g411) hr (by decide)⟩
    refine do_append_rules (ps := ps) (rs := firsts (rl.take i)) (qs := [(0, rgt rl i)]) u35 inf77 rfl (by decide) hlen.symm rfl (o4.gr g411) (Row.src (hrow11 _ (Nat.le_refl _))) hN (fun j hj => ?_) (fun i j hi hj hij => ?_) (fun i' j hi' hj => ?_) (by rw [hlen]; simp; omega) (by rw [hlen]; simp; omega) gw11.size fun X' c' w12 g12 o12 _ => ?_
    · obtain rfl : j = 0 := by simpa using hj
      exact Row.mono (Row.gr o10 g11) (gr_trans g4 gd).size
    · simp at hi hj
      omega
    · exact blk_ne (fun q hq => (Row.ge (o4.own i' hi') hq).2) (fun q hq => (Row.ge o10 hq).1) gd.size
    have hb612 := (hb6'.gr g411).kept g12 hX4.1
    have hb112 := (hb1'.gr g411).kept g12 hX4.2
    refine do_store sz35 rfl (by intro u hu; simp [Value.cells] at hu; subst hu; rfl) hb612 (by simp [Value.cells]) fun w13 g13 s13 hb613 => ?_
    have gw12 : Gr w w12 := gr_mod gw11 g12 fun q hq => by
      obtain ⟨cells, hr, _⟩ := o4.row
      exact (Row.ge hr hq).1
    rw [i64_of (by omega) (by omega)]
    refine ⟨⟨i + 1, X', c', _, hlt, rfl, gr_put gw12 g13 q6, hb112.put g13 n6, by simpa [Value.cells] using hb613, by
      rw [firsts_snoc hlt]
      exact o12.put hb612 (by decide) (by decide) g13⟩, ?_⟩
    simp only [intOf]
    omega
  simp only [show ¬ (i : Int) < rl.length from by omega, decide_false, go_sem, Nat.reduceEqDiff]
  obtain rfl : i = rl.length := by omega
  rw [List.take_length] at o4
  have hfl : (firsts rl).length = rl.length := by simp [firsts]
  refine ⟨fun f w' => ∃ (i : Nat) (X : Option Addr) (e : Nat) (ps : Nat → Option Addr × Nat), i ≤ gs.length ∧ f 38 = .int .i64 i ∧ Gr w w' ∧ Box w' b1 [.int .i64 0, .int .i64 0, .slice none 0 0] 37 ∧ Box w' b6 [.int .i64 (nextN gs i), .int .i64 (gmn gs 0).toks, .slice X (moreN (firsts rl) gs i).length e] 37 ∧ OwnR 77 3 w' w.heap.size X e (moreN (firsts rl) gs i) ps, fun f _ => gs.length - (intOf (f 38)).toNat,
    ⟨0, X, e, ps, Nat.zero_le _, rfl, g4, hb1', by simpa [moreN, nextN, hfl] using hb6', o4⟩, ?_⟩
  rintro f2 w5 hag2 ⟨i, X, e, ps, hi, h38, g5, hb15, hb65, o5⟩
  have e4 : f2 4 = .pointer (some ⟨b1, 0, none⟩) := (hag2 4 (by decide)).trans f4
  have e6 : f2 6 = .pointer (some ⟨b6, 0, none⟩) := (hag2 6 (by decide)).trans f6
  have e36 : f2 36 = .slice G gs.length d := hag2 36 (by decide)
  have e37 : f2 37 = .int .i64 gs.length := hag2 37 (by decide)
  have hml := moreN_length (first := firsts rl) (fun j hj => good_len (hgood j hj)) i hi
  simp only [e4, e6, e36, e37, h38, go_sem, Nat.reduceEqDiff]
  by_cases hlt : i < gs.length
  rotate_left
  · simp only [show ¬ (i : Int) < gs.length from by omega, decide_false, go_sem, Nat.reduceEqDiff]
    obtain rfl : i = gs.length := by omega
    rw [ldB_agg agg37 sz37 rfl hb65]
    have o5v : GramV (fun _ => True) w5 (.agg #[.int .i64 (nextN gs gs.length), .int .i64 (gmn gs 0).toks, .slice X (moreN (firsts rl) gs gs.length).length e]) ⟨nextN gs gs.length, (gmn gs 0).toks, moreN (firsts rl) gs gs.length⟩ := by
      obtain ⟨cells, hr, hc⟩ := o5.cells
      exact ⟨X, e, rfl, (Row.cap hr).1, o5.read.mono fun _ _ => trivial⟩
    refine isGrammar_c o5v fun w6 g6 => ?_
    have hb16 := hb15.gr g6
    have g06 := gr_trans g5 g6
    unfold madeV at hk
    cases hgd : goodG ⟨nextN gs gs.length, (gmn gs 0).toks, moreN (firsts rl) gs gs.length⟩
    · simp only [Bool.not_false, go_sem, Nat.reduceEqDiff]
      rw [bd37 (cells := #[.int .i64 0, .int .i64 0, .slice none 0 0]) rfl]
      refine do_store sz37 rfl (by intro u hu; simp [Value.cells] at hu; rcases hu with rfl | rfl | rfl <;> rfl) hb16 (by simp [Value.cells]) fun w7 g7 s7 hb17 => ?_
      rw [rd_loadVar, ldB_agg agg37 sz37 rfl hb17]
      have := hk zeroGram w7 (gr_put g06 g7 hb1)
      rw [if_neg (by rw [hgd]; decide)] at this
      exact this rfl
    · simp only [Bool.not_true, go_sem, Nat.reduceEqDiff]
      rw [ldB_agg agg37 sz37 rfl (hb65.gr g6)]
      refine do_store sz37 rfl (by intro u hu; simp [Value.cells] at hu; rcases hu with rfl | rfl | rfl <;> rfl) hb16 (by simp [Value.cells]) fun w7 g7 s7 hb17 => ?_
      rw [rd_loadVar, ldB_agg agg37 sz37 rfl hb17]
      have := hk (.agg #[.int .i64 (nextN gs gs.length), .int .i64 (gmn gs 0).toks, .slice X (moreN (firsts rl) gs gs.length).length e]) w7 (gr_put g06 g7 hb1)
      rw [if_pos hgd] at this
      exact this ⟨X, e, ps, rfl, (o5.gr g6).put hb16 (by decide) (by decide) g7⟩
  have hlt' : (i : Int) < gs.length := by omega
  simp only [hlt', decide_true, go_sem, Nat.reduceEqDiff]
  rw [ixn154 hx.ptr hlt]
  refine ld_gram agg37 sz37 (hx.gx (gx_of_gr g5 fun _ => False) fun _ _ h => h) hlt fun v hv => ?_
  obtain ⟨Y, y, rfl, hy1, hy2⟩ := hv
  have hgl := good_len (hgood i hlt)
  have hgr := good_rule (hgood i hlt)
  refine do_alloc_of inf37 fun b10 w6 g6 hb10 h10 => ?_
  have m1 := hb15.ne hb10
  have m6 := hb65.ne hb10
  refine do_store sz37 rfl (by intro u hu; simp [Value.cells] at hu; rcases hu with rfl | rfl | rfl <;> rfl) h10 (by simp [Value.cells]) fun w7 g7 s7 h10 => ?_
  have g57 := gr_put g6 g7 hb10
  rw [ldB_agg agg37 sz37 rfl h10]
  refine copyGrammar_c (gm := gmn gs i) ⟨Y, y, rfl, hy1, hy2.gr g57⟩ (hgood i hlt) fun v w8 g8 oc => ?_
  obtain ⟨Xc, cc, psc, rfl, oc⟩ := oc
  rw [fd37_2]
  simp only [go_sem, Nat.reduceEqDiff]
  have g58 := gr_trans g57 g8
  obtain ⟨cellsc, hrc, hcc⟩ := oc.cells
  have hXc : blk X = none ∨ blk X ≠ blk Xc := by
    obtain ⟨cells, hr, _⟩ := o5.cells
    exact blk_ne (fun q hq => (Row.ge hr hq).2) (fun q hq => (Row.ge hrc hq).1) g57.size
  refine ⟨fun f w' => ∃ (j : Nat) (X' : Option Addr) (e' : Nat) (pm : Nat → Option Addr × Nat), j ≤ (gmn gs i).rules.length ∧ f 46 = .int .i64 j ∧ Gr w w' ∧ w5.heap.size ≤ w'.heap.size ∧ Box w' b1 [.int .i64 0, .int .i64 0, .slice none 0 0] 37 ∧ Box w' b6 [.int .i64 (nextN gs i), .int .i64 (gmn gs 0).toks, .slice X' ((moreN (firsts rl) gs i).length + j) e'] 37 ∧ Box w' b10 [.int .i64 (gmn gs i).nons, .int .i64 (gmn gs i).toks, .slice Y (gmn gs i).rules.length y] 37 ∧ OwnR 77 3 w' w.heap.size X' e' (moreN (firsts rl) gs i ++ shiftRs (nextN gs i) ((gmn gs i).rules.take j)) pm ∧
      (∀ l, l < (moreN (firsts rl) gs i).length → pm l = ps l) ∧ (∀ l, l < j → pm ((moreN (firsts rl) gs i).length + l) = psc l) ∧ Row w' w7.heap.size 77 2 Xc (gmn gs i).rules.length cc cellsc ∧ (∀ l, j ≤ l → l < (gmn gs i).rules.length → Own 3 w' w7.heap.size (psc l).1 (psc l).2 (rul (gmn gs i).rules l).2) ∧ (blk X' = none ∨ blk X' ≠ blk Xc), fun f _ => (gmn gs i).rules.length - (intOf (f 46)).toNat,
    ⟨0, X, e, ps, Nat.zero_le _, rfl, gr_trans g5 g58, g58.size, hb15.gr g58, hb65.gr g58, h10.gr g8, by simpa [shiftRs] using o5.gr g58, fun _ _ => rfl, fun l hl => absurd hl (Nat.not_lt_zero l), hrc, fun l _ hl => oc.own l hl, hXc⟩, ?_⟩
  rintro f3 w9 hag3 ⟨j, X3, e3, pm, hj, h46, g9, hs9, hb19, hb69, hb109, o9, hpm1, hpm2, hrc9, hown9, hsep9⟩
  have d4 : f3 4 = .pointer (some ⟨b1, 0, none⟩) := (hag3 4 (by decide)).trans e4
  have d6 : f3 6 = .pointer (some ⟨b6, 0, none⟩) := (hag3 6 (by decide)).trans e6
  have d10 : f3 10 = .pointer (some ⟨b10, 0, none⟩) := hag3 10 (by decide)
  have d38 : f3 38 = .int .i64 i := (hag3 38 (by decide)).trans h38
  have d44 : f3 44 = .slice Xc (gmn gs i).rules.length cc := hag3 44 (by decide)
  have d45 : f3 45 = .int .i64 (gmn gs i).rules.length := hag3 45 (by decide)
  have hlenj : (shiftRs (nextN gs i) ((gmn gs i).rules.take j)).length = j := by simp [shiftRs]; omega
  simp only [d4, d6, d10, d38, d44, d45, h46, go_sem, Nat.reduceEqDiff]
  by_cases hlt3 : j < (gmn gs i).rules.length
  rotate_left
  · simp only [show ¬ (j : Int) < (gmn gs i).rules.length from by omega, decide_false, go_sem, Nat.reduceEqDiff]
    obtain rfl : j = (gmn gs i).rules.length := by omega
    rw [List.take_length] at o9
    rw [ldB3 hb69 rfl, ldB3 hb109 rfl]
    simp only [go_sem, Nat.reduceEqDiff]
    refine do_store sz3 rfl (by intro u hu; simp [Value.cells] at hu; subst hu; rfl) hb69 (by simp [Value.cells]) fun w10 g10 s10 h10 => ?_
    rw [i64_of (n := (i : Int) + 1) (by omega) (by omega)]
    refine ⟨⟨i + 1, X3, e3, pm, hlt, rfl, gr_put g9 g10 q6, hb19.put g10 n6, ?_, o9.put hb69 (by decide) (by decide) g10⟩, ?_⟩
    · have hll : (moreN (firsts rl) gs (i + 1)).length = (moreN (firsts rl) gs i).length + (gmn gs i).rules.length := by simp [moreN, shiftRs]
      rw [hll]
      simpa [nextN, Value.cells] using h10
    · simp only [intOf]
      omega
  have hlt3' : (j : Int) < (gmn gs i).rules.length := by omega
  simp only [hlt3', decide_true, go_sem, Nat.reduceEqDiff]
  rw [ixn35 (fun h => Row.ptr hrc9 h) hlt3]
  obtain ⟨hc0, hc1⟩ := hcc.2 j hlt3
  rw [ld_agg agg77 sz77 (cs := [.int .i64 (rul (gmn gs i).rules j).1, .slice (psc j).1 (rul (gmn gs i).rules j).2.length (psc j).2]) rfl (fun l hl => by
    match l, hl with
    | 0, _ => rw [add_add, Nat.add_zero]; exact (Row.src hrc9).cell _ _ hc0
    | 1, _ => rw [add_add]; exact (Row.src hrc9).cell _ _ hc1)]
  refine do_alloc_of inf77 fun b12 w10 g10 hb12 h12 => ?_
  have m612 := hb69.ne hb12
  refine do_store sz77 rfl (by intro u hu; simp [Value.cells] at hu; rcases hu with rfl | rfl <;> rfl) h12 (by simp [Value.cells]) fun w11 g11 s11 h12 => ?_
  have g911 := gr_put g10 g11 hb12
  simp only [go_sem, Nat.reduceEqDiff]
  rw [ldB3 h12 rfl, ldB3 (hb69.gr g911) rfl]
  simp only [go_sem, Nat.reduceEqDiff]
  refine do_store sz3 rfl (by intro u hu; simp [Value.cells] at hu; subst hu; rfl) h12 (by simp [Value.cells]) fun w12 g12 s12 h12 => ?_
  have g912 := gr_put g911 g12 hb12
  rw [ldB22 h12 rfl]
  simp only [go_sem, Nat.reduceEqDiff]
  have hU := (hown9 j (Nat.le_refl _) hlt3).gr g912
  have hO4 := hgr j hlt3
  refine ⟨fun f w' => ∃ m : Nat, m ≤ (rul (gmn gs i).rules j).2.length ∧ f 59 = .int .i64 m ∧ w12.grownBy w' (blk (psc j).1) ∧ Row w' w7.heap.size 3 1 (psc j).1 (rul (gmn gs i).rules j).2.length (psc j).2 (ints (((rul (gmn gs i).rules j).2.map (shiftS (nextN gs i))).take m ++ (rul (gmn gs i).rules j).2.drop m)), fun f _ => (rul (gmn gs i).rules j).2.length - (intOf (f 59)).toNat,
    ⟨0, Nat.zero_le _, rfl, gr_any (Gr.refl _) _, by simpa using hU⟩, ?_⟩
  rintro f5 w13 hag4 ⟨m, hm, h59, g13, hV⟩
  have c4 : f5 4 = .pointer (some ⟨b1, 0, none⟩) := (hag4 4 (by decide)).trans d4
  have c6 : f5 6 = .pointer (some ⟨b6, 0, none⟩) := (hag4 6 (by decide)).trans d6
  have c10 : f5 10 = .pointer (some ⟨b10, 0, none⟩) := (hag4 10 (by decide)).trans d10
  have c12 : f5 12 = .pointer (some ⟨b12, 0, none⟩) := hag4 12 (by decide)
  have c38 : f5 38 = .int .i64 i := (hag4 38 (by decide)).trans d38
  have c46 : f5 46 = .int .i64 j := (hag4 46 (by decide)).trans h46
  have c57 : f5 57 = .slice (psc j).1 (rul (gmn gs i).rules j).2.length (psc j).2 := hag4 57 (by decide)
  have c58 : f5 58 = .int .i64 (rul (gmn gs i).rules j).2.length := hag4 58 (by decide)
  have hb613 := (hb69.gr g912).kept g13 (box_row (hb69.gr g912) hU (by decide))
  have hb113 := (hb19.gr g912).kept g13 (box_row (hb19.gr g912) hU (by decide))
  have hb1013 := (hb109.gr g912).kept g13 (box_row (hb109.gr g912) hU (by decide))
  have h1213 := h12.kept g13 (box_row h12 hU (by decide))
  simp only [c4, c6, c10, c12, c38, c46, c57, c58, h59, go_sem, Nat.reduceEqDiff]
  by_cases hlt4 : m < (rul (gmn gs i).rules j).2.length
  · have hlt4' : (m : Int) < (rul (gmn gs i).rules j).2.length := by omega
    simp only [hlt4', decide_true, go_sem, Nat.reduceEqDiff]
    have hcm := (Row.src hV).cell m _ (ints_at (by simp; omega))
    rw [getD_app hlt4 (by simp)] at hcm
    rw [ixn22 (fun h => Row.ptr hV h) hlt4, ld3 hcm]
    by_cases hs : 0 ≤ (rul (gmn gs i).rules j).2.getD m 0
    · simp only [hs, decide_true, go_sem, Nat.reduceEqDiff]
      rw [ldB22 h1213 rfl, ldB3 hb613 rfl]
      simp only [go_sem, Nat.reduceEqDiff]
      rw [ixn22 (fun h => Row.ptr hV h) hlt4]
      refine do_store_row sz3 rfl rfl hV (by rw [Nat.mul_one]; exact hlt4) fun w14 g14 s14 hV14 => ?_
      rw [ints_set, show IntKind.i64.wrap ((rul (gmn gs i).rules j).2.getD m 0 + nextN gs i) = ((rul (gmn gs i).rules j).2.map (shiftS (nextN gs i))).getD m 0 from by rw [getD_map hlt4]; exact (if_pos hs).symm, set_take_drop hlt4 (by simp)] at hV14
      rw [i64_of (by omega) (by omega)]
      refine ⟨⟨m + 1, hlt4, rfl, grownBy_trans g13 g14, hV14⟩, ?_⟩
      simp only [intOf]
      omega
    · simp only [hs, decide_false, go_sem, Nat.reduceEqDiff]
      rw [i64_of (by omega) (by omega)]
      refine ⟨⟨m + 1, hlt4, rfl, g13, ?_⟩, ?_⟩
      · rw [← take_keep hlt4 (by simp) (by rw [getD_map hlt4]; exact if_neg hs)]
        exact hV
      · simp only [intOf]
        omega
  simp only [show ¬ (m : Int) < (rul (gmn gs i).rules j).2.length from by omega, decide_false, go_sem, Nat.reduceEqDiff]
  obtain rfl : m = (rul (gmn gs i).rules j).2.length := by omega
  rw [List.take_of_length_le (by simp), List.drop_length, List.append_nil] at hV
  have hne : ∀ l, l < (moreN (firsts rl) gs i ++ shiftRs (nextN gs i) ((gmn gs i).rules.take j)).length → blk (pm l).1 = none ∨ blk (pm l).1 ≠ blk (psc j).1 := fun l hl => by
    rw [List.length_append, hlenj] at hl
    by_cases h : l < (moreN (firsts rl) gs i).length
    · rw [hpm1 l h]
      exact blk_ne (fun q hq => (Row.ge (o5.own l h) hq).2) (fun q hq => (Row.ge (hown9 j (Nat.le_refl _) hlt3) hq).1) g57.size
    · have := hpm2 (l - (moreN (firsts rl) gs i).length) (by omega)
      rw [show (moreN (firsts rl) gs i).length + (l - (moreN (firsts rl) gs i).length) = l from by omega] at this
      rw [this]
      exact oc.two _ j (by omega) hlt3 (by omega)
  have o13 := (o9.gr g912).inner hU (by decide) hne g13
  have hrc13 := Row.kept (Row.gr hrc9 g912) g13 (row_ne (Row.gr hrc9 g912) hU (by decide))
  have hown13 : ∀ l, j + 1 ≤ l → l < (gmn gs i).rules.length → Own 3 w13 w7.heap.size (psc l).1 (psc l).2 (rul (gmn gs i).rules l).2 := fun l h1 h2 => Row.kept (Row.gr (hown9 l (by omega) h2) g912) g13 (oc.two l j h2 hlt3 (by omega))
  have gw13 : Gr w w13 := gr_mod (gr_trans g9 g912) g13 fun q hq => by
    have := (Row.ge hU hq).1
    have := g5.size
    have := g57.size
    omega
  have hs13 : w5.heap.size ≤ w13.heap.size := Nat.le_trans hs9 (Nat.le_trans g912.size g13.size)
  rw [ldB35 hb613 rfl]
  rw [ldB_agg agg77 sz77 rfl h1213]
  refine bs35 [.int .i64 (IntKind.i64.wrap ((rul (gmn gs i).rules j).1 + nextN gs i)), .slice (psc j).1 (rul (gmn gs i).rules j).2.length (psc j).2] (by decide) (by simp [Instr.fill, madeCells, Value.cells, rng2]) rfl fun b14 w14 hb14 hb14' g14 hbox14 hrow14 => ?_
  have hN : RCells [.int .i64 (IntKind.i64.wrap ((rul (gmn gs i).rules j).1 + nextN gs i)), .slice (psc j).1 (rul (gmn gs i).rules j).2.length (psc j).2] [shiftR (nextN gs i) (rul (gmn gs i).rules j)] (fun _ => psc j) := ⟨rfl, fun l hl => by
    obtain rfl : l = 0 := by simpa using hl
    simp [rul, shiftR]⟩
  have hXb : blk X3 ≠ some b6 ∧ blk X3 ≠ some b1 ∧ blk X3 ≠ some b10 := by
    obtain ⟨cells, hr, _⟩ := (o13.gr g14).cells
    exact ⟨box_row (hb613.gr g14) hr (by decide), box_row (hb113.gr g14) hr (by decide), box_row (hb1013.gr g14) hr (by decide)⟩
  have hlx : (moreN (firsts rl) gs i ++ shiftRs (nextN gs i) ((gmn gs i).rules.take j)).length = (moreN (firsts rl) gs i).length + j := by rw [List.length_append, hlenj]
  have hw0 : w.heap.size ≤ w7.heap.size := by have := g5.size; have := g57.size; omega
  refine do_append_rules (ps := pm) (rs := moreN (firsts rl) gs i ++ shiftRs (nextN gs i) ((gmn gs i).rules.take j)) (qs := [shiftR (nextN gs i) (rul (gmn gs i).rules j)]) u35 inf77 rfl (by decide) hlx.symm rfl (o13.gr g14) (Row.src (hrow14 _ (Nat.le_refl _))) hN (fun l hl => ?_) (fun i j hi hj hij => ?_) (fun i' l hi' hl => hne i' hi') (by rw [hlx]; simp; omega) (by rw [hlx]; simp; omega) (Nat.le_trans gw13.size g14.size) fun X' c' w15 g15 o15 hmv => ?_
  · obtain rfl : l = 0 := by simpa using hl
    have h := Row.mono (Row.gr hV g14) hw0
    show Row w14 w.heap.size 3 1 (psc j).1 ((rul (gmn gs i).rules j).2.map (shiftS (nextN gs i))).length (psc j).2 (ints ((rul (gmn gs i).rules j).2.map (shiftS (nextN gs i))))
    rw [List.length_map]
    exact h
  · simp at hi hj
    omega
  have gw14 := gr_trans gw13 g14
  have hb615 := (hb613.gr g14).kept g15 hXb.1
  have hb115 := (hb113.gr g14).kept g15 hXb.2.1
  have hb1015 := (hb1013.gr g14).kept g15 hXb.2.2
  have hrc15 := Row.kept (Row.gr hrc13 g14) g15 (blk_sym hsep9)
  have hown15 : ∀ l, j + 1 ≤ l → l < (gmn gs i).rules.length → Own 3 w15 w7.heap.size (psc l).1 (psc l).2 (rul (gmn gs i).rules l).2 := fun l h1 h2 => Row.kept (Row.gr (hown13 l h1 h2) g14) g15 (by
    obtain ⟨cells, hr, _⟩ := (o13.gr g14).cells
    exact row_ne (Row.gr (hown13 l h1 h2) g14) hr (by decide))
  have gw15 : Gr w w15 := gr_mod gw14 g15 fun q hq => by
    obtain ⟨cells, hr, _⟩ := o13.cells
    exact (Row.ge hr hq).1
  refine do_store sz35 rfl (by intro u hu; simp [Value.cells] at hu; subst hu; rfl) hb615 (by simp [Value.cells]) fun w16 g16 s16 hb616 => ?_
  rw [i64_of (n := (j : Int) + 1) (by omega) (by omega)]
  have hsep16 : blk X' = none ∨ blk X' ≠ blk Xc := by
    rcases hmv with e | e
    · rw [e]
      exact hsep9
    · cases hq : blk X' with
      | none => exact .inl rfl
      | some q =>
        refine .inr fun e2 => ?_
        have := e q hq
        have := (Row.ge (Row.gr hrc13 g14) e2.symm).2
        omega
  have m106 : b6 ≠ b10 := fun e => m6 e.symm
  refine ⟨⟨j + 1, X', c', joinP ((moreN (firsts rl) gs i).length + j) pm (fun _ => psc j), hlt3, rfl, gr_put gw15 g16 q6, ?_, hb115.put g16 n6, by simpa [Value.cells, Nat.add_assoc] using hb616, hb1015.put g16 m106, ?_, fun l hl => ?_, fun l hl => ?_, hrc15.putb hb615 (by decide) g16, fun l h1 h2 => (hown15 l h1 h2).putb hb615 (by decide) g16, hsep16⟩, ?_⟩
  · exact Nat.le_trans hs13 (Nat.le_trans g14.size (Nat.le_trans g15.size g16.size))
  · rw [take_rul hlt3, shiftRs, List.map_append, ← List.append_assoc]
    rw [hlx] at o15
    exact o15.put hb615 (by decide) (by decide) g16
  · simp only [joinP, show l < (moreN (firsts rl) gs i).length + j from by omega, if_true]
    exact hpm1 l hl
  · by_cases h : l < j
    · simp only [joinP, show (moreN (firsts rl) gs i).length + l < (moreN (firsts rl) gs i).length + j from by omega, if_true]
      exact hpm2 l h
    · obtain rfl : l = j := by omega
      simp only [joinP, Nat.lt_irrefl, if_false]
  · simp only [intOf]
    omega
end Go.Proofs.Ytiohaeckagjebaa

/- Slices of slices of numbers that are owned, among things that lie apart. -/
set_option linter.unusedVariables false
set_option linter.unusedSimpArgs false
set_option maxRecDepth 100000
namespace Go.Sh
open Go
/-- Nothing. -/
def emp : Thing := ⟨fun _ => True, fun _ => False⟩
/-- Two things become one. -/
theorem Apt.join {w0 w w' : World} {L : List Thing} (H : Apt w0 w L) {i j : Nat} {a b it : Thing} (hij : i ≠ j) (hi : L[i]? = some a) (hj : L[j]? = some b) (g : Gx (fun q => a.ft q ∨ b.ft q) w w') (lo : ∀ q, it.ft q → a.ft q ∨ b.ft q ∨ w.heap.size ≤ q) (hh : ∀ q, it.ft q → q < w'.heap.size)
    (kept : ∀ w'', (∀ q, it.ft q → w''.heap[q]? = w'.heap[q]?) → it.P w'') : Apt w0 w' ((L.set i it).set j emp) := by
  have ha := H.ok i a hi
  have hb := H.ok j b hj
  have hsz := H.gr.size
  have sub : ∀ l x, ((L.set i it).set j emp)[l]? = some x → (l = j ∧ x = emp) ∨ (l = i ∧ l ≠ j ∧ x = it) ∨ (l ≠ i ∧ l ≠ j ∧ L[l]? = some x) := fun l x hx => by
    rcases get_set hx with h | ⟨h1, h2⟩
    · exact .inl h
    · rcases get_set h2 with ⟨h3, h4⟩ | ⟨h3, h4⟩
      · exact .inr (.inl ⟨h3, h1, h4⟩)
      · exact .inr (.inr ⟨h3, h1, h4⟩)
  refine ⟨Gx.gr_after H.gr g fun q hq => hq.elim (ha.lo q) (hb.lo q), fun l x hx => ?_, fun l m x y hlm hx hy q hq hq' => ?_⟩
  · rcases sub l x hx with ⟨_, rfl⟩ | ⟨_, _, rfl⟩ | ⟨h1, h2, h3⟩
    · exact ⟨fun q hq => hq.elim, fun q hq => hq.elim, fun _ _ => trivial⟩
    · refine ⟨fun q hq => ?_, hh, kept⟩
      rcases lo q hq with h | h | h
      · exact ha.lo q h
      · exact hb.lo q h
      · omega
    · have := H.ok l x h3
      exact this.step g.size fun q hq => g.block q (this.hi q hq) fun hq' => hq'.elim (H.two l i x a h1 h3 hi q hq) (H.two l j x b h2 h3 hj q hq)
  · rcases sub l x hx with ⟨_, rfl⟩ | ⟨hli, _, rfl⟩ | ⟨h1, h2, h3⟩
    · exact hq
    · rcases sub m y hy with ⟨_, rfl⟩ | ⟨hmi, _, rfl⟩ | ⟨g1, g2, g3⟩
      · exact hq'
      · exact hlm (hli.trans hmi.symm)
      · rcases lo q hq with h | h | h
        · exact H.two i m a y (fun e => g1 e.symm) hi g3 q h hq'
        · exact H.two j m b y (fun e => g2 e.symm) hj g3 q h hq'
        · have := (H.ok m y g3).hi q hq'
          omega
    · rcases sub m y hy with ⟨_, rfl⟩ | ⟨hmi, _, rfl⟩ | ⟨g1, g2, g3⟩
      · exact hq'
      · rcases lo q hq' with h | h | h
        · exact H.two l i x a h1 h3 hi q hq h
        · exact H.two l j x b h2 h3 hj q hq h
        · have := (H.ok l x h3).hi q hq
          omega
      · exact H.two l m x y hlm h3 g3 q hq hq'
/-- Slices of numbers of the call's own: the row, and a slice of its own for each. -/
structure OwnSS (e1 e2 : Nat) (w : World) (B : Nat) (X : Option Addr) (c : Nat) (ls : List (List Int)) (ps : Nat → Option Addr × Nat) : Prop where
  row : ∃ cells, Row w B e1 1 X ls.length c cells ∧ ∀ j, j < ls.length → cells[j]? = some (.slice (ps j).1 (rgt ls j).length (ps j).2)
  own : ∀ j, j < ls.length → Own e2 w B (ps j).1 (ps j).2 (rgt ls j)
  two : ∀ i j, i < ls.length → j < ls.length → i ≠ j → blk (ps i).1 = none ∨ blk (ps i).1 ≠ blk (ps j).1
theorem OwnSS.same {e1 e2 : Nat} {w w' : World} {B : Nat} {X : Option Addr} {c : Nat} {ls : List (List Int)} {ps : Nat → Option Addr × Nat} (h : OwnSS e1 e2 w B X c ls ps) (hs : ∀ q, Foot X ps ls.length q → w'.heap[q]? = w.heap[q]?) : OwnSS e1 e2 w' B X c ls ps := by
  obtain ⟨⟨cells, hr, hc⟩, ho, ht⟩ := h
  exact ⟨⟨cells, hr.same fun q hq => hs q (.inl hq), hc⟩, fun j hj => Row.same (ho j hj) fun q hq => hs q (.inr ⟨j, hj, hq⟩), ht⟩
theorem OwnSS.up {e1 e2 : Nat} {w : World} {B B' : Nat} {X : Option Addr} {c : Nat} {ls : List (List Int)} {ps : Nat → Option Addr × Nat} (h : OwnSS e1 e2 w B X c ls ps) (hs : ∀ q, Foot X ps ls.length q → B' ≤ q) : OwnSS e1 e2 w B' X c ls ps := by
  obtain ⟨⟨cells, hr, hc⟩, ho, ht⟩ := h
  exact ⟨⟨cells, hr.up fun q hq => hs q (.inl hq), hc⟩, fun j hj => Row.up (ho j hj) fun q hq => hs q (.inr ⟨j, hj, hq⟩), ht⟩
theorem OwnSS.mono {e1 e2 : Nat} {w : World} {B B' : Nat} {X : Option Addr} {c : Nat} {ls : List (List Int)} {ps : Nat → Option Addr × Nat} (h : OwnSS e1 e2 w B X c ls ps) (hb : B' ≤ B) : OwnSS e1 e2 w B' X c ls ps := by
  obtain ⟨⟨cells, hr, hc⟩, ho, ht⟩ := h
  exact ⟨⟨cells, Row.mono hr hb, hc⟩, fun j hj => Row.mono (ho j hj) hb, ht⟩
theorem OwnSS.foot {e1 e2 : Nat} {w : World} {B c : Nat} {X : Option Addr} {ls : List (List Int)} {ps : Nat → Option Addr × Nat} (h : OwnSS e1 e2 w B X c ls ps) {q : Nat} (hq : Foot X ps ls.length q) : B ≤ q ∧ q < w.heap.size := by
  obtain ⟨⟨cells, hr, hc⟩, ho, ht⟩ := h
  rcases hq with hq | ⟨l, hl, hq⟩
  · exact hr.ge hq
  · exact Row.ge (ho l hl) hq
theorem OwnSS.gr {e1 e2 : Nat} {w w' : World} {B : Nat} {X : Option Addr} {c : Nat} {ls : List (List Int)} {ps : Nat → Option Addr × Nat} (h : OwnSS e1 e2 w B X c ls ps) (g : Gr w w') : OwnSS e1 e2 w' B X c ls ps := h.same fun q hq => g.block q (h.foot hq).2 (by simp)
theorem OwnSS.read {e1 e2 : Nat} {w : World} {B : Nat} {X : Option Addr} {c : Nat} {ls : List (List Int)} {ps : Nat → Option Addr × Nat} (h : OwnSS e1 e2 w B X c ls ps) : Intss w X ls := by
  obtain ⟨⟨cells, hr, hc⟩, ho, ht⟩ := h
  have hcap := hr.cap
  refine ⟨by omega, fun hp => hr.ptr hp, fun j hj => ?_⟩
  have hc' := Row.cap (ho j hj)
  exact ⟨(ps j).1, (ps j).2, hr.src.cell _ _ (hc j hj), by omega, Own.ints (ho j hj)⟩
def lssi (e1 e2 : Nat) (X : Option Addr) (c : Nat) (ls : List (List Int)) (ps : Nat → Option Addr × Nat) : Thing := ⟨fun w => OwnSS e1 e2 w 0 X c ls ps, Foot X ps ls.length⟩
theorem lssi_kept {w : World} {B e1 e2 c : Nat} {X : Option Addr} {ls : List (List Int)} {ps : Nat → Option Addr × Nat} (h : OwnSS e1 e2 w B X c ls ps) : ∀ w', (∀ q, (lssi e1 e2 X c ls ps).ft q → w'.heap[q]? = w.heap[q]?) → (lssi e1 e2 X c ls ps).P w' := fun w' hq => (h.mono (Nat.zero_le B)).same hq
theorem Apt.lssi {w0 w : World} {L : List Thing} (H : Apt w0 w L) (i : Nat) {e1 e2 c : Nat} {X : Option Addr} {ls : List (List Int)} {ps : Nat → Option Addr × Nat} (hi : L[i]? = some (lssi e1 e2 X c ls ps)) : OwnSS e1 e2 w w0.heap.size X c ls ps := OwnSS.up (H.get i hi) (H.ok i _ hi).lo
theorem Apt.addLss {w0 w w' : World} {L : List Thing} (H : Apt w0 w L) (g : Gr w w') {e1 e2 c : Nat} {X : Option Addr} {ls : List (List Int)} {ps : Nat → Option Addr × Nat} (h : OwnSS e1 e2 w' w.heap.size X c ls ps) : Apt w0 w' (L ++ [Sh.lssi e1 e2 X c ls ps]) := H.add g _ (fun q hq => (h.foot hq).1) (fun q hq => (h.foot hq).2) (lssi_kept h)
theorem OwnSS.nil (w : World) (B e1 e2 : Nat) (ps : Nat → Option Addr × Nat) : OwnSS e1 e2 w B none 0 [] ps := ⟨⟨[], Row.nil _ _ _ _, fun j hj => by simp at hj⟩, fun j hj => by simp at hj, fun i j hi => by simp at hi⟩
theorem rgt_left {ls ms : List (List Int)} {i : Nat} (h : i < ls.length) : rgt (ls ++ ms) i = rgt ls i := by
  simp [rgt, List.getD_eq_getElem?_getD, List.getElem?_append_left h]
theorem rgt_last {ls : List (List Int)} {y : List Int} : rgt (ls ++ [y]) ls.length = y := by
  simp [rgt, List.getD_eq_getElem?_getD]
theorem rgt_eq {ls : List (List Int)} {i : Nat} (h : i < ls.length) : rgt ls i = ls[i] := by simp [rgt, List.getD_eq_getElem?_getD, h]
theorem take_snoc_rgt {ls : List (List Int)} {i : Nat} (h : i < ls.length) : ls.take (i + 1) = ls.take i ++ [rgt ls i] := by
  rw [List.take_succ_eq_append_getElem h, rgt_eq h]
/-- One more slice. -/
theorem OwnSS.push {e1 e2 : Nat} {w w' : World} {B B' c d c' : Nat} {X X' Y : Option Addr} {ls : List (List Int)} {ys : List Int} {ps : Nat → Option Addr × Nat} {cells : List Value} (h : OwnSS e1 e2 w B X c ls ps) (ho : Own e2 w B' Y d ys) (hne : ∀ l, l < ls.length → blk (ps l).1 = none ∨ blk (ps l).1 ≠ blk Y) (he : e1 ≠ e2)
    (hr0 : Row w B e1 1 X ls.length c cells) (hc : ∀ j, j < ls.length → cells[j]? = some (.slice (ps j).1 (rgt ls j).length (ps j).2)) (hr : Row w' B e1 1 X' (ls.length + 1) c' (cells ++ [.slice Y ys.length d])) (g : w.grownBy w' (blk X)) : OwnSS e1 e2 w' 0 X' c' (ls ++ [ys]) (fun i => if i = ls.length then (Y, d) else ps i) := by
  have hlen := hr0.len
  refine ⟨⟨_, by rw [List.length_append]; exact Row.mono hr (Nat.zero_le _), fun j hj => ?_⟩, fun j hj => ?_, fun i j hi hj hij => ?_⟩
  · by_cases hlt : j < ls.length
    · rw [List.getElem?_append_left (by omega), hc j hlt, rgt_left hlt, if_neg (by omega)]
    · obtain rfl : j = ls.length := by simp at hj; omega
      rw [List.getElem?_append_right (by omega), rgt_last, if_pos rfl, hlen]
      simp
  · by_cases hlt : j < ls.length
    · rw [if_neg (by omega), rgt_left hlt]
      exact Row.mono (Row.kept (h.own j hlt) g (row_ne (h.own j hlt) hr0 fun e => he e.symm)) (Nat.zero_le _)
    · obtain rfl : j = ls.length := by simp at hj; omega
      rw [if_pos rfl, rgt_last]
      exact Row.mono (Row.kept ho g (row_ne ho hr0 fun e => he e.symm)) (Nat.zero_le _)
  · rw [List.length_append] at hi hj
    simp only [List.length_cons, List.length_nil] at hi hj
    by_cases h1 : i < ls.length <;> by_cases h2 : j < ls.length
    · rw [if_neg (by omega), if_neg (by omega)]
      exact h.two i j h1 h2 hij
    · obtain rfl : j = ls.length := by omega
      rw [if_neg (by omega), if_pos rfl]
      exact hne i h1
    · obtain rfl : i = ls.length := by omega
      rw [if_pos rfl, if_neg (by omega)]
      exact blk_sym (hne j h2)
    · omega
theorem rgt_right {ls ms : List (List Int)} {i : Nat} (h : ls.length ≤ i) : rgt (ls ++ ms) i = rgt ms (i - ls.length) := by
  simp [rgt, List.getD_eq_getElem?_getD, List.getElem?_append_right h]
/-- Slices behind slices. -/
theorem OwnSS.append {e1 e2 : Nat} {w w' : World} {B B' c d c' : Nat} {X X' Y : Option Addr} {ls ms : List (List Int)} {ps qs : Nat → Option Addr × Nat} {cells news : List Value} (h : OwnSS e1 e2 w B X c ls ps) (g0 : OwnSS e1 e2 w B' Y d ms qs) (hne : ∀ l m, l < ls.length → m < ms.length → blk (ps l).1 = none ∨ blk (ps l).1 ≠ blk (qs m).1) (he : e1 ≠ e2)
    (hr0 : Row w B e1 1 X ls.length c cells) (hc : ∀ j, j < ls.length → cells[j]? = some (.slice (ps j).1 (rgt ls j).length (ps j).2)) (hnl : news.length = ms.length) (hN : ∀ j, j < ms.length → news[j]? = some (.slice (qs j).1 (rgt ms j).length (qs j).2)) (hr : Row w' B e1 1 X' (ls.length + ms.length) c' (cells ++ news)) (g : w.grownBy w' (blk X)) : OwnSS e1 e2 w' 0 X' c' (ls ++ ms) (joinP ls.length ps qs) := by
  have hlen := hr0.len
  refine ⟨⟨_, by rw [List.length_append]; exact Row.mono hr (Nat.zero_le _), fun j hj => ?_⟩, fun j hj => ?_, fun i j hi hj hij => ?_⟩
  · rw [List.length_append] at hj
    by_cases hlt : j < ls.length
    · rw [List.getElem?_append_left (by omega), hc j hlt, rgt_left hlt]
      simp only [joinP, hlt, if_true]
    · rw [List.getElem?_append_right (by omega), rgt_right (by omega)]
      simp only [joinP, hlt, if_false]
      rw [show j - cells.length = j - ls.length from by omega]
      exact hN _ (by omega)
  · rw [List.length_append] at hj
    by_cases hlt : j < ls.length
    · rw [rgt_left hlt]
      simp only [joinP, hlt, if_true]
      exact Row.mono (Row.kept (h.own j hlt) g (row_ne (h.own j hlt) hr0 fun e => he e.symm)) (Nat.zero_le _)
    · rw [rgt_right (by omega)]
      simp only [joinP, hlt, if_false]
      exact Row.mono (Row.kept (g0.own _ (by omega)) g (row_ne (g0.own _ (by omega)) hr0 fun e => he e.symm)) (Nat.zero_le _)
  · rw [List.length_append] at hi hj
    by_cases h1 : i < ls.length <;> by_cases h2 : j < ls.length <;> simp only [joinP, h1, h2, if_true, if_false]
    · exact h.two i j h1 h2 hij
    · exact hne i _ h1 (by omega)
    · exact blk_sym (hne j _ h2 (by omega))
    · exact g0.two _ _ (by omega) (by omega) (by omega)
/-- One number of one slice is written. -/
theorem OwnSS.put {e1 e2 : Nat} {w w' : World} {B c i m : Nat} {x : Int} {X : Option Addr} {ls : List (List Int)} {ps : Nat → Option Addr × Nat} (h : OwnSS e1 e2 w B X c ls ps) (he : e1 ≠ e2) (hi : i < ls.length) (hr : Row w' B e2 1 (ps i).1 (rgt ls i).length (ps i).2 (ints ((rgt ls i).set m x))) (g : w.grownBy w' (blk (ps i).1)) : OwnSS e1 e2 w' B X c (ls.set i ((rgt ls i).set m x)) ps := by
  obtain ⟨⟨cells, hr0, hc⟩, ho, ht⟩ := h
  have hg : ∀ j, rgt (ls.set i ((rgt ls i).set m x)) j = if j = i then (rgt ls i).set m x else rgt ls j := fun j => by
    simp only [rgt, List.getD_eq_getElem?_getD, List.getElem?_set]
    by_cases hij : i = j
    · subst hij
      simp [hi]
    · rw [if_neg hij, if_neg (fun e => hij e.symm)]
  refine ⟨⟨cells, by rw [List.length_set]; exact Row.kept hr0 g (row_ne hr0 (ho i hi) he), fun j hj => ?_⟩, fun j hj => ?_, fun a b ha hb hab => ?_⟩
  · rw [List.length_set] at hj
    rw [hc j hj, hg j]
    by_cases hij : j = i
    · subst hij
      rw [if_pos rfl, List.length_set]
    · rw [if_neg hij]
  · rw [List.length_set] at hj
    rw [hg j]
    by_cases hij : j = i
    · subst hij
      rw [if_pos rfl]
      unfold Own
      rw [List.length_set]
      exact hr
    · rw [if_neg hij]
      exact Row.kept (ho j hj) g (ht j i hj hi hij)
  · rw [List.length_set] at ha hb
    exact ht a b ha hb hab
theorem OwnSS.ptr {e1 e2 : Nat} {w : World} {B c : Nat} {X : Option Addr} {ls : List (List Int)} {ps : Nat → Option Addr × Nat} (h : OwnSS e1 e2 w B X c ls ps) (hl : 0 < ls.length) : X = some (ad X) := by
  obtain ⟨⟨cells, hr, hc⟩, _⟩ := h
  exact hr.ptr hl
theorem OwnSS.cell {e1 e2 : Nat} {w : World} {B c : Nat} {X : Option Addr} {ls : List (List Int)} {ps : Nat → Option Addr × Nat} (h : OwnSS e1 e2 w B X c ls ps) {j : Nat} (hj : j < ls.length) : w.cell? ((ad X).add j) = some (.slice (ps j).1 (rgt ls j).length (ps j).2) := by
  obtain ⟨⟨cells, hr, hc⟩, _⟩ := h
  exact hr.src.cell _ _ (hc j hj)
/-- A row of one slice, and that slice. -/
theorem Apt.single {w0 w : World} {L : List Thing} (H : Apt w0 w L) {i j : Nat} (hij : i ≠ j) {e1 e2 c d : Nat} {X Y : Option Addr} {ys : List Int} (hi : L[i]? = some (rwi e1 1 X 1 c [.slice Y ys.length d])) (hj : L[j]? = some (rwi e2 1 Y ys.length d (Sh.ints ys))) : Apt w0 w ((L.set i (Sh.lssi e1 e2 X c [ys] fun _ => (Y, d))).set j emp) := by
  have hr := H.row i hi
  have ho := H.row j hj
  have o : OwnSS e1 e2 w w0.heap.size X c [ys] fun _ => (Y, d) := by
    refine ⟨⟨_, hr, fun l hl => ?_⟩, fun l hl => ?_, fun a b ha hb hab => ?_⟩
    · obtain rfl : l = 0 := by simpa using hl
      rfl
    · obtain rfl : l = 0 := by simpa using hl
      exact ho
    · simp at ha hb
      omega
  refine H.join hij hi hj (Gx.refl _ w) (fun q hq => ?_) (fun q hq => (o.foot hq).2) (lssi_kept o)
  rcases hq with hq | ⟨l, hl, hq⟩
  · exact .inl hq
  · exact .inr (.inl hq)
end Go.Sh
namespace Go.Proofs.Ytiohaeckagjebaa
open Go Go.Sh Go.RowKit
abbrev lss (X : Option Addr) (c : Nat) (ls : List (List Int)) (ps : Nat → Option Addr × Nat) : Thing := lssi 22 3 X c ls ps
section
variable {k : Value → World → Prop} {w0 w w' : World} {L : List Thing}
/-- append of one owned slice to slices. -/
theorem pushSSH {k : Value → Value → World → Prop} (H : Apt w0 w L) (i j : Nat) (hij : i ≠ j) {u n c m d : Nat} {X Y : Option Addr} {ls : List (List Int)} {ys : List Int} {ps : Nat → Option Addr × Nat} (hi : L[i]? = some (lss X c ls ps)) (hj : L[j]? = some (ows Y d ys)) {cs : List Bool} (hn : n = ls.length) (hm : m = ys.length) (hb : ls.length ≤ 1000000000)
    (h : ∀ t X' c' w' ps', Apt w0 w' ((L.set i (lss X' c' (ls ++ [ys]) ps')).set j emp) → k t (.slice X' (ls ++ [ys]).length c') w') : Do Try.prog (sBuildSlice 48 1 [(0, .slice Y m d)]) (fun t w1 => Do Try.prog (sBuiltin .append #[48, 48] u cs [.slice X n c, t]) (k t) w1) w := by
  subst hn hm
  refine bs48 [.slice Y ys.length d] (by decide) (by simp [Instr.fill, madeCells, Value.cells, rng1]) rfl fun b w1 hb1 hb2 g hB hr => ?_
  have H1 := H.step g
  have o1 := H1.lssi i hi
  have o1' := o1
  obtain ⟨⟨cells, hr1, hc⟩, ho, ht⟩ := o1'
  have hY : Own 3 w1 w0.heap.size Y d ys := H1.own j hj
  refine do_append2 u48 inf22 rfl (by decide) hr1 (Row.src (hr _ (Nat.le_refl _))) rfl (by intro v hv; simp at hv; subst hv; rfl) (by omega) (by omega) H1.gr.size fun X' c' w' hr' hg hmv => ?_
  rw [show ls.length + 1 = (ls ++ [ys]).length from by simp]
  refine h _ X' c' w' (fun i => if i = ls.length then (Y, d) else ps i) (H1.join hij hi hj (gx_of hg fun q hq => .inl (.inl hq)) (fun q hq => ?_) (fun q hq => ?_) ?_)
  · rcases hq with hq | ⟨l, hl, hq⟩
    · rcases hmv with e | e
      · exact .inl (.inl (e ▸ hq))
      · exact .inr (.inr (e q hq))
    · rw [List.length_append] at hl
      simp only [List.length_cons, List.length_nil] at hl
      by_cases h1 : l = ls.length
      · subst h1
        simp only [if_true] at hq
        exact .inr (.inl hq)
      · simp only [h1, if_false] at hq
        exact .inl (.inr ⟨l, by omega, hq⟩)
  · have := (o1.push hY (fun l hl => by
      cases hq : blk (ps l).1 with
      | none => exact .inl rfl
      | some q => exact .inr fun e => H1.two i j _ _ hij hi hj q (.inr ⟨l, hl, hq⟩) (show blk Y = some q from e.symm)) (by decide) hr1 hc hr' hg)
    exact (this.foot hq).2
  · exact lssi_kept (o1.push hY (fun l hl => by
      cases hq : blk (ps l).1 with
      | none => exact .inl rfl
      | some q => exact .inr fun e => H1.two i j _ _ hij hi hj q (.inr ⟨l, hl, hq⟩) (show blk Y = some q from e.symm)) (by decide) hr1 hc hr' hg)
/-- append of owned slices to owned slices. -/
theorem appendSSH (H : Apt w0 w L) (i j : Nat) (hij : i ≠ j) {u n c m d : Nat} {X Y : Option Addr} {ls ms : List (List Int)} {ps qs : Nat → Option Addr × Nat} (hi : L[i]? = some (lss X c ls ps)) (hj : L[j]? = some (lss Y d ms qs)) {cs : List Bool} (hn : n = ls.length) (hm : m = ms.length) (hb : ls.length + ms.length ≤ 1000000000)
    (h : ∀ X' c' w' ps', Apt w0 w' ((L.set i (lss X' c' (ls ++ ms) ps')).set j emp) → k (.slice X' (ls ++ ms).length c') w') : Do Try.prog (sBuiltin .append #[48, 48] u cs [.slice X n c, .slice Y m d]) k w := by
  subst hn hm
  have o1 := H.lssi i hi
  have o2 := H.lssi j hj
  obtain ⟨⟨cells, hr1, hc⟩, ho, ht⟩ := id o1
  obtain ⟨⟨news, hr2, hN⟩, ho2, ht2⟩ := id o2
  have hnl : news.length = ms.length := by have := hr2.len; omega
  refine do_append2 u48 inf22 rfl (by decide) hr1 (Row.src hr2) (by rw [hnl, Nat.mul_one]) (by
    intro v hv
    obtain ⟨l, hl⟩ := List.getElem?_of_mem hv
    have hlt : l < ms.length := by rw [← hnl]; exact (List.getElem?_eq_some_iff.1 hl).1
    rw [hN l hlt] at hl
    obtain rfl := Option.some.inj hl
    rfl) (by omega) (by omega) H.gr.size fun X' c' w' hr' hg hmv => ?_
  rw [← List.length_append]
  have hfin := o1.append o2 (fun l m hl hm => by
      cases hq : blk (ps l).1 with
      | none => exact .inl rfl
      | some q => exact .inr fun e => H.two i j _ _ hij hi hj q (.inr ⟨l, hl, hq⟩) (.inr ⟨m, hm, e.symm⟩)) (by decide) hr1 hc hnl hN hr' hg
  refine h X' c' w' _ (H.join hij hi hj (gx_of hg fun q hq => .inl (.inl hq)) (fun q hq => ?_) (fun q hq => (hfin.foot hq).2) (lssi_kept hfin))
  rcases hq with hq | ⟨l, hl, hq⟩
  · rcases hmv with e | e
    · exact .inl (.inl (e ▸ hq))
    · exact .inr (.inr (e q hq))
  · rw [List.length_append] at hl
    by_cases h1 : l < ls.length
    · simp only [joinP, h1, if_true] at hq
      exact .inl (.inr ⟨l, h1, hq⟩)
    · simp only [joinP, h1, if_false] at hq
      exact .inr (.inl (.inr ⟨_, by omega, hq⟩))
/-- A store of one number into one owned slice among slices. -/
theorem putSSH (H : Apt w0 w L) (i j : Nat) {m c : Nat} {X : Option Addr} {ls : List (List Int)} {ps : Nat → Option Addr × Nat} {x : Int} (hi : L[i]? = some (lss X c ls ps)) (hj : j < ls.length) (hm : m < (rgt ls j).length)
    (h : ∀ w', Apt w0 w' (L.set i (lss X c (ls.set j ((rgt ls j).set m x)) ps)) → k undef w') : Do Try.prog (sStore 3 (.pointer (some ((ad (ps j).1).add m))) (.int .i64 x)) k w := by
  have o := H.lssi i hi
  refine do_store_row sz3 rfl rfl (o.own j hj) (by omega) fun w' g hs hr => ?_
  have hr' : Row w' w0.heap.size 3 1 (ps j).1 (rgt ls j).length (ps j).2 (ints ((rgt ls j).set m x)) := by
    rw [show ints ((rgt ls j).set m x) = (ints (rgt ls j)).set m (.int .i64 x) from by simp [ints]]
    exact hr
  have o' := o.put (by decide) hj hr' g
  refine h w' (H.set hi (gx_of g fun q hq => .inr ⟨j, hj, hq⟩) (fun q hq => .inl ?_) (fun q hq => (o'.foot hq).2) (lssi_kept o'))
  rcases hq with hq | ⟨l, hl, hq⟩
  · exact .inl hq
  · rw [List.length_set] at hl
    exact .inr ⟨l, hl, hq⟩
end
end Go.Proofs.Ytiohaeckagjebaa

/- Plain: trees by lists of rules. -/
set_option linter.unusedVariables false
set_option linter.unusedSimpArgs false
namespace Go.Sh
/-! Trees by lists of rules. -/
inductive PT where
  | mk (non : Int) (rule at_ fin fr to : Nat) (kids : List PT)
def PT.non : PT → Int | .mk n _ _ _ _ _ _ => n
def PT.rule : PT → Nat | .mk _ r _ _ _ _ _ => r
def PT.at_ : PT → Nat | .mk _ _ a _ _ _ _ => a
def PT.fin : PT → Nat | .mk _ _ _ e _ _ _ => e
def PT.fr : PT → Nat | .mk _ _ _ _ f _ _ => f
def PT.to : PT → Nat | .mk _ _ _ _ _ t _ => t
def PT.kids : PT → List PT | .mk _ _ _ _ _ _ k => k
def okT (rs : List RuleL) (tree : List Int) (non : Int) (a : Nat) : Bool :=
  decide (a < tree.length) && (decide (0 ≤ tree.getD a 0) && decide (tree.getD a 0 ≤ (rs.length : Int) - 1)) && decide ((rul rs (tree.getD a 0).toNat).1 = non)
def rgtT (rs : List RuleL) (tree : List Int) (a : Nat) : List Int := (rul rs (tree.getD a 0).toNat).2
def readR (rec : Int → Nat → List Int → Option (PT × List Int)) : List Int → Nat → List Int → List PT → Option (List PT × Nat × List Int)
  | [], e, w, ks => some (ks, e, w)
  | x :: xs, e, w, ks => if x < 0 then readR rec xs e (w ++ [-1 - x]) ks else match rec x e w with
    | none => none
    | some (k, w') => readR rec xs k.fin w' (ks ++ [k])
def readT (rs : List RuleL) (tree : List Int) : Nat → Int → Nat → List Int → Option (PT × List Int)
  | 0, _, _, _ => none
  | f + 1, non, a, w => if okT rs tree non a = true then match readR (readT rs tree f) (rgtT rs tree a) (a + 1) w [] with
      | none => none
      | some (ks, e, w') => some (.mk non (tree.getD a 0).toNat a e w.length w'.length ks, w')
    else none
def endR (rec : Int → Nat → Option Nat) : List Int → Nat → Option Nat
  | [], e => some e
  | x :: xs, e => if x < 0 then endR rec xs e else match rec x e with
    | none => none
    | some e' => endR rec xs e'
def endT (rs : List RuleL) (tree : List Int) : Nat → Int → Nat → Option Nat
  | 0, _, _ => none
  | f + 1, non, a => if okT rs tree non a = true then endR (endT rs tree f) (rgtT rs tree a) (a + 1) else none
theorem endR_eq {rec : Int → Nat → List Int → Option (PT × List Int)} {rec' : Int → Nat → Option Nat} (h : ∀ x a w, rec' x a = (rec x a w).map fun z => z.1.fin) : ∀ (xs : List Int) (e : Nat) (w : List Int) (ks : List PT), endR rec' xs e = (readR rec xs e w ks).map fun z => z.2.1 := by
  intro xs
  induction xs with
  | nil => intro e w ks; rfl
  | cons x xs ih =>
    intro e w ks
    unfold endR readR
    by_cases hx : x < 0
    · rw [if_pos hx, if_pos hx]
      exact ih _ _ _
    · rw [if_neg hx, if_neg hx, h x e w]
      cases rec x e w with
      | none => rfl
      | some z => exact ih _ _ _
theorem endT_eq (rs : List RuleL) (tree : List Int) : ∀ (f : Nat) (non : Int) (a : Nat) (w : List Int), endT rs tree f non a = (readT rs tree f non a w).map fun z => z.1.fin := by
  intro f
  induction f with
  | zero => intro non a w; rfl
  | succ f ih =>
    intro non a w
    unfold endT readT
    by_cases hk : okT rs tree non a = true
    · rw [if_pos hk, if_pos hk, endR_eq ih _ _ w []]
      cases readR (readT rs tree f) (rgtT rs tree a) (a + 1) w [] <;> rfl
    · rw [if_neg hk, if_neg hk]
      rfl
mutual
def PT.parts : PT → List PT
  | .mk n r a e f t ks => .mk n r a e f t ks :: PT.partsL ks
def PT.partsL : List PT → List PT
  | [] => []
  | k :: ks => k.parts ++ PT.partsL ks
end
theorem partsL_append (ks ls : List PT) : PT.partsL (ks ++ ls) = PT.partsL ks ++ PT.partsL ls := by
  induction ks with
  | nil => simp [PT.partsL]
  | cons k ks ih => simp [PT.partsL, ih]
theorem parts_cons (p : PT) : p.parts = p :: PT.partsL p.kids := by
  cases p
  simp [PT.parts, PT.kids]
/-- Parts stand one behind the other from a place on; each part's own stand behind it. -/
def Laid (l : List PT) (a : Nat) : Prop := ∀ i, (h : i < l.length) → l[i].at_ = a + i ∧ l[i].fin ≤ a + l.length ∧ a + i < l[i].fin ∧ l[i].parts = (l.drop i).take (l[i].fin - (a + i))
theorem Laid.append {l m : List PT} {a : Nat} (h : Laid l a) (g : Laid m (a + l.length)) : Laid (l ++ m) a := by
  intro i hi
  by_cases hl : i < l.length
  · obtain ⟨h1, h2, h3, h4⟩ := h i hl
    rw [List.getElem_append_left hl]
    refine ⟨h1, by simp; omega, h3, ?_⟩
    rw [List.drop_append_of_le_length (by omega), List.take_append_of_le_length (by simp; omega)]
    exact h4
  · obtain ⟨d, rfl⟩ : ∃ d, i = l.length + d := ⟨i - l.length, by omega⟩
    have hm : d < m.length := by simp at hi; omega
    obtain ⟨h1, h2, h3, h4⟩ := g d hm
    have e : (l ++ m)[l.length + d] = m[d] := by
      rw [List.getElem_append_right (by omega)]
      simp
    rw [e]
    have hlen : (l ++ m).length = l.length + m.length := List.length_append
    refine ⟨?_, ?_, ?_, ?_⟩
    · omega
    · omega
    · omega
    · have e2 : (l ++ m).drop (l.length + d) = m.drop d := by
        rw [← List.drop_drop, List.drop_left]
      rw [h4, e2, Nat.add_assoc]
theorem readR_laid {rec : Int → Nat → List Int → Option (PT × List Int)} (h : ∀ x a w p w', rec x a w = some (p, w') → Laid p.parts a ∧ p.fin = a + p.parts.length ∧ p.at_ = a ∧ p.non = x ∧ p.fr = w.length ∧ p.to = w'.length ∧ w.length ≤ w'.length) :
    ∀ (xs : List Int) (e : Nat) (w : List Int) (ks : List PT) (a : Nat) {ks' : List PT} {e' : Nat} {w' : List Int}, Laid (PT.partsL ks) a → e = a + (PT.partsL ks).length → readR rec xs e w ks = some (ks', e', w') → Laid (PT.partsL ks') a ∧ e' = a + (PT.partsL ks').length ∧ w.length ≤ w'.length := by
  intro xs
  induction xs with
  | nil =>
    intro e w ks a ks' e' w' hl he hr
    simp only [readR, Option.some.injEq, Prod.mk.injEq] at hr
    obtain ⟨rfl, rfl, rfl⟩ := hr
    exact ⟨hl, he, Nat.le_refl _⟩
  | cons x xs ih =>
    intro e w ks a ks' e' w' hl he hr
    unfold readR at hr
    by_cases hx : x < 0
    · rw [if_pos hx] at hr
      obtain ⟨h1, h2, h3⟩ := ih _ _ _ _ hl he hr
      exact ⟨h1, h2, by simp at h3; omega⟩
    · rw [if_neg hx] at hr
      cases hz : rec x e w with
      | none => rw [hz] at hr; cases hr
      | some z =>
        obtain ⟨k, w1⟩ := z
        rw [hz] at hr
        obtain ⟨h1, h2, _, _, _, _, h3⟩ := h x e w k w1 hz
        have hl' : Laid (PT.partsL (ks ++ [k])) a := by
          rw [partsL_append]
          refine hl.append ?_
          simp only [PT.partsL, List.append_nil]
          rw [← he]
          exact h1
        obtain ⟨g1, g2, g3⟩ := ih _ _ _ _ hl' (by rw [partsL_append]; simp [PT.partsL]; omega) hr
        exact ⟨g1, g2, by omega⟩
theorem readT_laid (rs : List RuleL) (tree : List Int) : ∀ (f : Nat) (non : Int) (a : Nat) (w : List Int) (p : PT) (w' : List Int), readT rs tree f non a w = some (p, w') → Laid p.parts a ∧ p.fin = a + p.parts.length ∧ p.at_ = a ∧ p.non = non ∧ p.fr = w.length ∧ p.to = w'.length ∧ w.length ≤ w'.length := by
  intro f
  induction f with
  | zero => intro non a w p w' h; cases h
  | succ f ih =>
    intro non a w p w' h
    unfold readT at h
    by_cases hk : okT rs tree non a = true
    · rw [if_pos hk] at h
      cases hz : readR (readT rs tree f) (rgtT rs tree a) (a + 1) w [] with
      | none => rw [hz] at h; cases h
      | some z =>
        obtain ⟨ks, e, w1⟩ := z
        rw [hz] at h
        simp only [Option.some.injEq, Prod.mk.injEq] at h
        obtain ⟨rfl, rfl⟩ := h
        have h0 : Laid (PT.partsL []) (a + 1) := fun i hi => by simp [PT.partsL] at hi
        obtain ⟨h1, h2, h3⟩ := readR_laid ih _ _ _ _ (a + 1) h0 (by simp [PT.partsL]) hz
        refine ⟨?_, by simp [PT.parts, PT.fin]; omega, rfl, rfl, rfl, rfl, h3⟩
        rw [PT.parts]
        intro i hi
        cases i with
        | zero =>
          refine ⟨rfl, ?_, ?_, ?_⟩
          · simp [PT.fin]; omega
          · simp [PT.fin]; omega
          · simp only [List.getElem_cons_zero, PT.fin, List.drop_zero, PT.parts]
            rw [List.take_of_length_le]
            simp
            omega
        | succ i =>
          simp only [List.length_cons] at hi
          obtain ⟨g1, g2, g3, g4⟩ := h1 i (by omega)
          simp only [List.getElem_cons_succ, List.drop_succ_cons, List.length_cons]
          refine ⟨by rw [g1]; omega, by omega, by omega, ?_⟩
          rw [g4]
          congr 1
          omega
    · rw [if_neg hk] at h
      cases h
theorem endT_gt {rs : List RuleL} {tree : List Int} {f : Nat} {non : Int} {a e : Nat} (h : endT rs tree f non a = some e) : a < e := by
  rw [endT_eq rs tree f non a []] at h
  cases hz : readT rs tree f non a [] with
  | none => rw [hz] at h; cases h
  | some z =>
    obtain ⟨p, w'⟩ := z
    rw [hz] at h
    obtain ⟨_, h2, _⟩ := readT_laid rs tree f non a [] p w' hz
    have : p.fin = e := by simpa using h
    rw [parts_cons] at h2
    simp at h2
    omega
theorem endR_le {rec : Int → Nat → Option Nat} {n : Nat} (h : ∀ x e e', rec x e = some e' → e' ≤ n) : ∀ (xs : List Int) (e e' : Nat), e ≤ n → endR rec xs e = some e' → e' ≤ n := by
  intro xs
  induction xs with
  | nil =>
    intro e e' he hr
    simp only [endR, Option.some.injEq] at hr
    omega
  | cons x xs ih =>
    intro e e' he hr
    unfold endR at hr
    split at hr
    · exact ih e e' he hr
    · split at hr
      · cases hr
      · rename_i e1 hz
        exact ih e1 e' (h x e e1 hz) hr
theorem endT_le {rs : List RuleL} {tree : List Int} : ∀ {f : Nat} {non : Int} {a e : Nat}, endT rs tree f non a = some e → e ≤ tree.length := by
  intro f
  induction f with
  | zero => intro non a e h; cases h
  | succ f ih =>
    intro non a e h
    unfold endT at h
    split at h
    · rename_i hok
      simp only [okT, Bool.and_eq_true, decide_eq_true_eq] at hok
      exact endR_le (fun x e e' h => ih h) _ _ _ (by omega) h
    · cases h
theorem readT_le {rs : List RuleL} {tree : List Int} {f : Nat} {non : Int} {a : Nat} {w w' : List Int} {p : PT} (h : readT rs tree f non a w = some (p, w')) : p.fin ≤ tree.length := by
  have e := endT_eq rs tree f non a w
  rw [h] at e
  exact endT_le e
theorem readR_words {rec : Int → Nat → List Int → Option (PT × List Int)} (h : ∀ x a w p w', rec x a w = some (p, w') → w.length ≤ w'.length ∧ w'.length ≤ w.length + 4 * p.parts.length) :
    ∀ (xs : List Int) (e : Nat) (w : List Int) (ks : List PT) {ks' : List PT} {e' : Nat} {w' : List Int}, readR rec xs e w ks = some (ks', e', w') → w.length ≤ w'.length ∧ w'.length + 4 * (PT.partsL ks).length ≤ w.length + xs.length + 4 * (PT.partsL ks').length := by
  intro xs
  induction xs with
  | nil =>
    intro e w ks ks' e' w' hr
    simp only [readR, Option.some.injEq, Prod.mk.injEq] at hr
    obtain ⟨rfl, rfl, rfl⟩ := hr
    simp
  | cons x xs ih =>
    intro e w ks ks' e' w' hr
    unfold readR at hr
    split at hr
    · have := ih _ _ _ hr
      simp at this ⊢
      omega
    · split at hr
      · cases hr
      · rename_i k w1 hz
        have h1 := h _ _ _ _ _ hz
        have h2 := ih _ _ _ hr
        rw [partsL_append] at h2
        simp [PT.partsL] at h2 ⊢
        omega
theorem readT_words {rs : List RuleL} {tree : List Int} (h4 : ∀ q, q < rs.length → (rul rs q).2.length ≤ 4) : ∀ (f : Nat) (non : Int) (a : Nat) (w : List Int) (p : PT) (w' : List Int), readT rs tree f non a w = some (p, w') → w.length ≤ w'.length ∧ w'.length ≤ w.length + 4 * p.parts.length := by
  intro f
  induction f with
  | zero => intro non a w p w' h; cases h
  | succ f ih =>
    intro non a w p w' h
    unfold readT at h
    split at h
    · rename_i hok
      split at h
      · cases h
      · rename_i ks e w1 hz
        simp only [Option.some.injEq, Prod.mk.injEq] at h
        obtain ⟨rfl, rfl⟩ := h
        have h1 := readR_words ih _ _ _ _ hz
        have h5 : (rgtT rs tree a).length ≤ 4 := by
          simp only [okT, Bool.and_eq_true, decide_eq_true_eq] at hok
          exact h4 _ (by omega)
        simp only [PT.parts, List.length_cons, PT.partsL, List.length_nil] at h1 ⊢
        omega
    · cases h
theorem readR_grow {rec : Int → Nat → List Int → Option (PT × List Int)} : ∀ (xs : List Int) (e : Nat) (w : List Int) (ks : List PT) {ks' : List PT} {e' : Nat} {w' : List Int}, readR rec xs e w ks = some (ks', e', w') → (PT.partsL ks).length ≤ (PT.partsL ks').length := by
  intro xs
  induction xs with
  | nil =>
    intro e w ks ks' e' w' hr
    simp only [readR, Option.some.injEq, Prod.mk.injEq] at hr
    obtain ⟨rfl, rfl, rfl⟩ := hr
    exact Nat.le_refl _
  | cons x xs ih =>
    intro e w ks ks' e' w' hr
    unfold readR at hr
    split at hr
    · exact ih _ _ _ hr
    · split at hr
      · cases hr
      · have := ih _ _ _ hr
        rw [partsL_append, List.length_append] at this
        omega
/-- What a tree that is one has at its top. -/
theorem readT_some {rs : List RuleL} {tree : List Int} {f : Nat} {non : Int} {a : Nat} {w w' : List Int} {p : PT} (h : readT rs tree (f + 1) non a w = some (p, w')) : ∃ (q : Nat) (ks : List PT) (e : Nat), a < tree.length ∧ tree.getD a 0 = q ∧ q < rs.length ∧ (rul rs q).1 = non ∧ readR (readT rs tree f) (rul rs q).2 (a + 1) w [] = some (ks, e, w') ∧ p = .mk non q a e w.length w'.length ks := by
  unfold readT at h
  split at h
  · rename_i hok
    split at h
    · cases h
    · rename_i ks e w1 hz
      simp only [Option.some.injEq, Prod.mk.injEq] at h
      obtain ⟨rfl, rfl⟩ := h
      simp only [okT, Bool.and_eq_true, decide_eq_true_eq] at hok
      exact ⟨(tree.getD a 0).toNat, ks, e, hok.1.1, by omega, by omega, hok.2, hz, rfl⟩
  · cases h
theorem readR_tok {rec : Int → Nat → List Int → Option (PT × List Int)} {x : Int} {xs : List Int} {e : Nat} {w : List Int} {ks : List PT} (hx : x < 0) : readR rec (x :: xs) e w ks = readR rec xs e (w ++ [-1 - x]) ks := by
  rw [readR, if_pos hx]
theorem readR_non {rec : Int → Nat → List Int → Option (PT × List Int)} {x : Int} {xs : List Int} {e : Nat} {w : List Int} {ks : List PT} {z : List PT × Nat × List Int} (hx : ¬ x < 0) (h : readR rec (x :: xs) e w ks = some z) : ∃ k w1, rec x e w = some (k, w1) ∧ readR rec xs k.fin w1 (ks ++ [k]) = some z := by
  rw [readR, if_neg hx] at h
  split at h
  · cases h
  · rename_i k w1 hz
    exact ⟨k, w1, hz, h⟩
theorem okT_eq {rs : List RuleL} {tree : List Int} {non : Int} {a : Nat} : okT rs tree non a = (decide (a < tree.length) && inB (tree.getD a 0) 0 ((rs.length : Int) - 1) && decide ((rul rs (tree.getD a 0).toNat).1 = non)) := rfl
theorem okT_lt {rs : List RuleL} {tree : List Int} {non : Int} {a : Nat} (h : ¬ a < tree.length) : okT rs tree non a = false := by
  rw [okT_eq, decide_eq_false h, Bool.false_and, Bool.false_and]
theorem okT_in {rs : List RuleL} {tree : List Int} {non : Int} {a : Nat} (h : inB (tree.getD a 0) 0 ((rs.length : Int) - 1) = false) : okT rs tree non a = false := by
  rw [okT_eq, h, Bool.and_false, Bool.false_and]
theorem okT_ne {rs : List RuleL} {tree : List Int} {non : Int} {a q : Nat} (hq : tree.getD a 0 = q) (h : ¬ (rul rs q).1 = non) : okT rs tree non a = false := by
  rw [okT_eq, hq, Int.toNat_natCast, decide_eq_false h, Bool.and_false]
theorem okT_of {rs : List RuleL} {tree : List Int} {non : Int} {a q : Nat} (h0 : a < tree.length) (h1 : inB (tree.getD a 0) 0 ((rs.length : Int) - 1) = true) (hq : tree.getD a 0 = q) (h : (rul rs q).1 = non) : okT rs tree non a = true := by
  rw [okT_eq, h1, hq, Int.toNat_natCast, decide_eq_true h, decide_eq_true h0]
  rfl
theorem endT_no {rs : List RuleL} {tree : List Int} {f : Nat} {non : Int} {a : Nat} (h : okT rs tree non a = false) : endT rs tree (f + 1) non a = none := by
  simp only [endT, h, Bool.false_eq_true, if_false]
theorem readT_no {rs : List RuleL} {tree : List Int} {f : Nat} {non : Int} {a : Nat} {w : List Int} (h : okT rs tree non a = false) : readT rs tree (f + 1) non a w = none := by
  simp only [readT, h, Bool.false_eq_true, if_false]
theorem readT_of {rs : List RuleL} {tree : List Int} {f q : Nat} {non : Int} {a : Nat} {w : List Int} (h : okT rs tree non a = true) (hq : tree.getD a 0 = q) : readT rs tree (f + 1) non a w = match readR (readT rs tree f) (rul rs q).2 (a + 1) w [] with
    | none => none
    | some (ks, e, w') => some (.mk non q a e w.length w'.length ks, w') := by
  rw [readT, if_pos h, rgtT, hq, Int.toNat_natCast]
/-- What the reference tells of a part. -/
def PT.row (p : PT) : List Int := [p.non, p.fin, p.fr, p.to]
def pairT (x y : PT) : Bool := decide (x.non = y.non) && (!decide (x.fr = y.fr) || !decide (x.to = y.to))
def noPT : PT := .mk 0 0 0 0 0 0 []
def ptn (l : List PT) (i : Nat) : PT := l.getD i noPT
theorem ptn_eq {l : List PT} {i : Nat} (h : i < l.length) : ptn l i = l[i] := by simp [ptn, List.getD_eq_getElem?_getD, h]
/-- The first two parts that can be pumped. -/
def pumpV (l : List PT) : Option (Nat × Nat) := (List.range l.length).findSome? fun p => (List.range' (p + 1) ((ptn l p).fin - (p + 1))).findSome? fun q => if pairT (ptn l p) (ptn l q) = true then some (p, q) else none
theorem find_first {β : Type} {f : Nat → Option β} {b : β} {m : Nat} : ∀ (n a : Nat), a ≤ m → m < a + n → f m = some b → (∀ m', a ≤ m' → m' < m → f m' = none) → (List.range' a n).findSome? f = some b := by
  intro n
  induction n with
  | zero => intro a h1 h2; omega
  | succ n ih =>
    intro a h1 h2 h3 h4
    rw [List.range'_succ, List.findSome?_cons]
    by_cases e : a = m
    · subst e
      rw [h3]
    · rw [h4 a (Nat.le_refl _) (by omega)]
      exact ih (a + 1) (by omega) (by omega) h3 fun m' g1 g2 => h4 m' (by omega) g2
theorem find_none {β : Type} {f : Nat → Option β} : ∀ (n a : Nat), (∀ m', a ≤ m' → m' < a + n → f m' = none) → (List.range' a n).findSome? f = none := by
  intro n
  induction n with
  | zero => intro a h; rfl
  | succ n ih =>
    intro a h
    rw [List.range'_succ, List.findSome?_cons, h a (Nat.le_refl _) (by omega)]
    exact ih (a + 1) fun m' g1 g2 => h m' (by omega) (by omega)
/-- No pair with its first part at p, its second one ahead of q. -/
def Dry (l : List PT) (p q : Nat) : Prop := ∀ q', p < q' → q' < q → pairT (ptn l p) (ptn l q') = false
theorem pumpV_some {l : List PT} {p q : Nat} (hp : p < l.length) (h1 : p < q) (h2 : q < (ptn l p).fin) (h : pairT (ptn l p) (ptn l q) = true) (hd : Dry l p q) (hb : ∀ p', p' < p → Dry l p' (ptn l p').fin) : pumpV l = some (p, q) := by
  unfold pumpV
  rw [List.range_eq_range']
  refine find_first _ 0 (Nat.zero_le p) (by omega) ?_ fun p' _ hp' => ?_
  · refine find_first _ (p + 1) h1 (by omega) (by rw [if_pos h]) fun q' g1 g2 => ?_
    rw [if_neg (by rw [hd q' g1 g2]; decide)]
  · refine find_none _ (p' + 1) fun q' g1 g2 => ?_
    rw [if_neg (by rw [hb p' hp' q' g1 (by omega)]; decide)]
theorem pumpV_none {l : List PT} (hb : ∀ p', p' < l.length → Dry l p' (ptn l p').fin) : pumpV l = none := by
  unfold pumpV
  rw [List.range_eq_range']
  refine find_none _ 0 fun p' _ hp' => ?_
  refine find_none _ (p' + 1) fun q' g1 g2 => ?_
  rw [if_neg (by rw [hb p' (by omega) q' g1 (by omega)]; decide)]
end Go.Sh

/- Things that lie apart, in any order; trees of parts in memory. -/
set_option linter.unusedVariables false
set_option linter.unusedSimpArgs false
set_option maxRecDepth 100000
namespace Go.Sh
open Go
/-! ### Order, less, together -/
def Away (a b : Thing) : Prop := ∀ q, a.ft q → ¬ b.ft q
theorem Away.symm {a b : Thing} (h : Away a b) : Away b a := fun q hq hq' => h q hq' hq
theorem apt_pair {L : List Thing} : (∀ (i j : Nat) (a b : Thing), i ≠ j → L[i]? = some a → L[j]? = some b → Away a b) ↔ L.Pairwise Away := by
  induction L with
  | nil => exact ⟨fun _ => .nil, fun _ i j a b _ h => by simp at h⟩
  | cons x L ih =>
    constructor
    · intro h
      refine List.Pairwise.cons (fun y hy => ?_) (ih.1 fun i j a b hij ha hb => h (i + 1) (j + 1) a b (by omega) (by simpa using ha) (by simpa using hb))
      obtain ⟨j, hj⟩ := List.getElem?_of_mem hy
      exact h 0 (j + 1) x y (by omega) rfl (by simpa using hj)
    · intro h i j a b hij ha hb
      obtain ⟨h1, h2⟩ := List.pairwise_cons.1 h
      match i, j with
      | 0, 0 => exact absurd rfl hij
      | 0, j + 1 =>
        obtain rfl : x = a := by simpa using ha
        exact h1 b (List.mem_of_getElem? (by simpa using hb))
      | i + 1, 0 =>
        obtain rfl : x = b := by simpa using hb
        exact (h1 a (List.mem_of_getElem? (by simpa using ha))).symm
      | i + 1, j + 1 => exact ih.2 h2 i j a b (by omega) (by simpa using ha) (by simpa using hb)
theorem Apt.perm {w0 w : World} {L M : List Thing} (H : Apt w0 w L) (p : L.Perm M) : Apt w0 w M := by
  refine ⟨H.gr, fun i it hi => ?_, apt_pair.2 ?_⟩
  · obtain ⟨j, hj⟩ := List.getElem?_of_mem (p.symm.subset (List.mem_of_getElem? hi))
    exact H.ok j it hj
  · exact (p.pairwise_iff fun h => Away.symm h).1 (apt_pair.1 H.two)
/-- The last thing comes to place n. -/
theorem Apt.insert {w0 w : World} {L : List Thing} {x : Thing} (H : Apt w0 w (L ++ [x])) (n : Nat) : Apt w0 w (L.take n ++ x :: L.drop n) := by
  refine H.perm ?_
  have e : L ++ [x] = L.take n ++ (L.drop n ++ [x]) := by rw [← List.append_assoc, List.take_append_drop]
  rw [e]
  exact (List.perm_append_comm (l₁ := L.drop n) (l₂ := [x])).append_left _
theorem Apt.erase {w0 w : World} {L : List Thing} (H : Apt w0 w L) (n : Nat) : Apt w0 w (L.eraseIdx n) := by
  have h : ∀ (i : Nat) (a : Thing), (L.eraseIdx n)[i]? = some a → L[if i < n then i else i + 1]? = some a := fun i a ha => by
    rw [List.getElem?_eraseIdx] at ha
    split at ha
    · rename_i h; rw [if_pos h]; exact ha
    · rename_i h; rw [if_neg h]; exact ha
  refine H.pick (fun i => if i < n then i else i + 1) h fun i j _ _ e => ?_
  split at e <;> split at e <;> omega
theorem Apt.weaken {w0 w : World} {L : List Thing} (H : Apt w0 w L) (i : Nat) {a b : Thing} (hi : L[i]? = some a) (hf : ∀ q, b.ft q → a.ft q) (hp : ∀ w', (∀ q, a.ft q → w'.heap[q]? = w.heap[q]?) → a.P w' → b.P w') (hk : ∀ w' w'', (∀ q, b.ft q → w''.heap[q]? = w'.heap[q]?) → b.P w' → b.P w'') : Apt w0 w (L.set i b) :=
  H.set hi (Gx.refl _ w) (fun q hq => .inl (hf q hq)) (fun q hq => (H.ok i a hi).hi q (hf q hq)) fun w'' h => hk w w'' h (hp w (fun _ _ => rfl) (H.get i hi))
def both (a b : Thing) : Thing := ⟨fun w => a.P w ∧ b.P w, fun q => a.ft q ∨ b.ft q⟩
/-- Two things held as one. -/
theorem Apt.both {w0 w : World} {L : List Thing} (H : Apt w0 w L) (i j : Nat) (hij : i ≠ j) {a b : Thing} (hi : L[i]? = some a) (hj : L[j]? = some b) : Apt w0 w (((L.set i (Sh.both a b)).set j emp).eraseIdx j) :=
  (H.join (it := Sh.both a b) hij hi hj (Gx.refl _ w) (fun q hq => hq.elim .inl fun h => .inr (.inl h)) (fun q hq => hq.elim ((H.ok i a hi).hi q) ((H.ok j b hj).hi q)) fun w'' h => ⟨(H.ok i a hi).kept w'' fun q hq => h q (.inl hq), (H.ok j b hj).kept w'' fun q hq => h q (.inr hq)⟩).erase j

/-! ### Trees of parts -/
abbrev ptrv (b : Nat) : Value := .pointer (some ⟨b, 0, none⟩)
mutual
def PartAt (F : Nat → Prop) (w : World) : PT → Nat → Prop
  | .mk non rule a e f t ks, b => F b ∧ ∃ X c, Box w b [.int .i64 non, .int .i64 rule, .int .i64 a, .int .i64 e, .int .i64 f, .int .i64 t, .slice X ks.length c] 93 ∧ (0 < ks.length → X = some (ad X) ∧ F (ad X).block) ∧ ks.length ≤ c ∧ KidsAt F w ks X 0
def KidsAt (F : Nat → Prop) (w : World) : List PT → Option Addr → Nat → Prop
  | [], _, _ => True
  | k :: ks, X, j => (∃ b, w.cell? ((ad X).add j) = some (ptrv b) ∧ PartAt F w k b) ∧ KidsAt F w ks X (j + 1)
end
mutual
theorem PartAt.gr {F : Nat → Prop} {w w' : World} (g : Gr w w') : (p : PT) → (b : Nat) → PartAt F w p b → PartAt F w' p b
  | .mk non rule a e f t ks, b, h => by
    simp only [PartAt] at h ⊢
    obtain ⟨hb, X, c, h1, h2, h3, h4⟩ := h
    exact ⟨hb, X, c, h1.gr g, h2, h3, KidsAt.gr g ks X 0 h4⟩
theorem KidsAt.gr {F : Nat → Prop} {w w' : World} (g : Gr w w') : (ks : List PT) → (X : Option Addr) → (j : Nat) → KidsAt F w ks X j → KidsAt F w' ks X j
  | [], X, j, _ => by simp only [KidsAt]
  | k :: ks, X, j, h => by
    simp only [KidsAt] at h ⊢
    obtain ⟨⟨b, h1, h2⟩, h3⟩ := h
    exact ⟨⟨b, g.cell h1, PartAt.gr g k b h2⟩, KidsAt.gr g ks X (j + 1) h3⟩
end
mutual
theorem PartAt.same {F : Nat → Prop} {w w' : World} (hs : ∀ q, F q → w'.heap[q]? = w.heap[q]?) : (p : PT) → (b : Nat) → PartAt F w p b → PartAt F w' p b
  | .mk non rule a e f t ks, b, h => by
    simp only [PartAt] at h ⊢
    obtain ⟨hb, X, c, h1, h2, h3, h4⟩ := h
    refine ⟨hb, X, c, (hs b hb).trans h1, h2, h3, ?_⟩
    cases ks with
    | nil => simp only [KidsAt]
    | cons k ks => exact KidsAt.same hs (k :: ks) X 0 (h2 (by simp)).2 h4
theorem KidsAt.same {F : Nat → Prop} {w w' : World} (hs : ∀ q, F q → w'.heap[q]? = w.heap[q]?) : (ks : List PT) → (X : Option Addr) → (j : Nat) → F (ad X).block → KidsAt F w ks X j → KidsAt F w' ks X j
  | [], X, j, _, _ => by simp only [KidsAt]
  | k :: ks, X, j, hX, h => by
    simp only [KidsAt] at h ⊢
    obtain ⟨⟨b, h1, h2⟩, h3⟩ := h
    refine ⟨⟨b, ?_, PartAt.same hs k b h2⟩, KidsAt.same hs ks X (j + 1) hX h3⟩
    rw [World.cell?_of_block (hs _ (by rw [add_block]; exact hX))]
    exact h1
end
mutual
theorem PartAt.mono {F E : Nat → Prop} {w : World} (he : ∀ q, F q → E q) : (p : PT) → (b : Nat) → PartAt F w p b → PartAt E w p b
  | .mk non rule a e f t ks, b, h => by
    simp only [PartAt] at h ⊢
    obtain ⟨hb, X, c, h1, h2, h3, h4⟩ := h
    exact ⟨he _ hb, X, c, h1, fun hp => ⟨(h2 hp).1, he _ (h2 hp).2⟩, h3, KidsAt.mono he ks X 0 h4⟩
theorem KidsAt.mono {F E : Nat → Prop} {w : World} (he : ∀ q, F q → E q) : (ks : List PT) → (X : Option Addr) → (j : Nat) → KidsAt F w ks X j → KidsAt E w ks X j
  | [], X, j, _ => by simp only [KidsAt]
  | k :: ks, X, j, h => by
    simp only [KidsAt] at h ⊢
    obtain ⟨⟨b, h1, h2⟩, h3⟩ := h
    exact ⟨⟨b, h1, PartAt.mono he k b h2⟩, KidsAt.mono he ks X (j + 1) h3⟩
end
theorem KidsAt.get {F : Nat → Prop} {w : World} {X : Option Addr} : ∀ {ks : List PT} {j i : Nat}, KidsAt F w ks X j → i < ks.length → ∃ b, w.cell? ((ad X).add (j + i)) = some (ptrv b) ∧ PartAt F w (ptn ks i) b := by
  intro ks
  induction ks with
  | nil => intro j i _ h; simp at h
  | cons k ks ih =>
    intro j i h hi
    simp only [KidsAt] at h
    cases i with
    | zero => exact h.1
    | succ i =>
      obtain ⟨b, h1, h2⟩ := ih h.2 (by simpa using hi)
      exact ⟨b, by rw [show j + (i + 1) = j + 1 + i from by omega]; exact h1, by simpa [ptn] using h2⟩
/-- What is at a part's place. -/
theorem PartAt.box {F : Nat → Prop} {w : World} {p : PT} {b : Nat} (h : PartAt F w p b) : ∃ X c, Box w b [.int .i64 p.non, .int .i64 p.rule, .int .i64 p.at_, .int .i64 p.fin, .int .i64 p.fr, .int .i64 p.to, .slice X p.kids.length c] 93 ∧ (0 < p.kids.length → X = some (ad X)) ∧ p.kids.length ≤ c ∧ KidsAt F w p.kids X 0 := by
  cases p with
  | mk non rule a e f t ks =>
    simp only [PartAt] at h
    obtain ⟨_, X, c, h1, h2, h3, h4⟩ := h
    exact ⟨X, c, h1, fun hp => (h2 hp).1, h3, h4⟩
/-- Pointers to parts. -/
def AllPt (F : Nat → Prop) (w : World) (ps : List PT) (bs : List Nat) : Prop := bs.length = ps.length ∧ ∀ i, i < ps.length → PartAt F w (ptn ps i) (bs.getD i 0)
theorem AllPt.gr {F : Nat → Prop} {w w' : World} {ps : List PT} {bs : List Nat} (h : AllPt F w ps bs) (g : Gr w w') : AllPt F w' ps bs := ⟨h.1, fun i hi => PartAt.gr g _ _ (h.2 i hi)⟩
theorem PartAt.across {F : Nat → Prop} {w w1 w2 : World} {p : PT} {b : Nat} (h : PartAt F w1 p b) (hF : ∀ q, F q → q < w.heap.size) (g1 : Gr w w1) (g2 : Gr w w2) : PartAt F w2 p b :=
  PartAt.same (fun q hq => (g2.block q (hF q hq) (by simp)).trans (g1.block q (hF q hq) (by simp)).symm) p b h
theorem AllPt.across {F : Nat → Prop} {w w1 w2 : World} {ps : List PT} {bs : List Nat} (h : AllPt F w1 ps bs) (hF : ∀ q, F q → q < w.heap.size) (g1 : Gr w w1) (g2 : Gr w w2) : AllPt F w2 ps bs :=
  ⟨h.1, fun i hi => (h.2 i hi).across hF g1 g2⟩
theorem AllPt.append {F : Nat → Prop} {w : World} {ps qs : List PT} {bs cs : List Nat} (h : AllPt F w ps bs) (g : AllPt F w qs cs) : AllPt F w (ps ++ qs) (bs ++ cs) := by
  refine ⟨by simp [h.1, g.1], fun i hi => ?_⟩
  by_cases hl : i < ps.length
  · have := h.2 i hl
    have hb := h.1
    simpa [ptn, List.getD_eq_getElem?_getD, List.getElem?_append_left hl, List.getElem?_append_left (show i < bs.length by omega)] using this
  · rw [List.length_append] at hi
    have := g.2 (i - ps.length) (by omega)
    have hb := h.1
    rw [show ptn (ps ++ qs) i = ptn qs (i - ps.length) from by simp [ptn, List.getD_eq_getElem?_getD, List.getElem?_append_right (show ps.length ≤ i by omega)]]
    rw [show (bs ++ cs).getD i 0 = cs.getD (i - ps.length) 0 from by simp [List.getD_eq_getElem?_getD, List.getElem?_append_right (show bs.length ≤ i by omega), hb]]
    exact this
theorem AllPt.one {F : Nat → Prop} {w : World} {p : PT} {b : Nat} (h : PartAt F w p b) : AllPt F w [p] [b] := ⟨rfl, fun i hi => by
  obtain rfl : i = 0 := by simpa using hi
  exact h⟩

/-! ### Building a struct -/
def sizesOK (P : Program) : List Field → List (Nat × Nat) → Prop
  | [], [] => True
  | f :: fs, p :: ps => (f.offset = p.1 ∧ szOf P f.type p.2) ∧ sizesOK P fs ps
  | _, _ => False
theorem run_places {P : Program} (w : World) : ∀ (fs : List Field) (ps : List (Nat × Nat)), sizesOK P fs ps → (fs.mapM (m := Sem) fun f => do pure (f.offset, ← sizeOf f.type)).run P w = .ok ps w := by
  intro fs
  induction fs with
  | nil =>
    intro ps h
    cases ps with
    | nil => rfl
    | cons p ps => exact h.elim
  | cons f fs ih =>
    intro ps h
    cases ps with
    | nil => exact h.elim
    | cons p ps =>
      obtain ⟨⟨h1, h2⟩, h3⟩ := h
      rw [List.mapM_cons]
      simp only [Sem.run_bind, run_size h2, Result.andThen, Sem.run_pure, ih ps h3, h1]
theorem rd_buildN {P : Program} {S : WS} {k : Value → Prop} {t sz by' : Nat} {z : Value} {fs : Array Field} {ps : List (Nat × Nat)} {qs : List (Nat × Value)} {cells : Array Value} (ht : P.underlying t = some (.struct fs)) (H : Inf P t z sz by') (hs : sizesOK P fs.toList ps) (hf : Instr.fill (ps.toArray[·]?) z.cells qs = some cells) : Rd P S (sBuild t qs) k = k (.agg cells) := rd_eq fun w _ => by
  obtain ⟨i, hi, hz, _, _⟩ := H
  have e0 : (zeroValue t).run P w = .ok z w := by simp [zeroValue, run_info hi, hz]
  have e1 : (fs.mapM (m := Sem) fun f => do pure (f.offset, ← sizeOf f.type)).run P w = .ok ps.toArray w := by
    rw [Array.mapM_eq_mapM_toList, Sem.run_map, run_places w fs.toList ps hs]
    rfl
  simp only [sBuild, Instr.build, Sem.run_bind, e0, Result.andThen, run_underlying ht, e1, hf]
  rfl
end Go.Sh
namespace Go.Proofs.Ytiohaeckagjebaa
open Go Go.Sh
theorem inf93' : Inf Try.prog 93 (.agg #[.int .i64 0, .int .i64 0, .int .i64 0, .int .i64 0, .int .i64 0, .int .i64 0, .slice none 0 0]) 7 72 := inf_of (by kernel_rfl)
theorem bd93 {S : WS} {k : Value → Prop} {qs : List (Nat × Value)} {cells : Array Value} (hf : Instr.fill (#[(0, 1), (1, 1), (2, 1), (3, 1), (4, 1), (5, 1), (6, 1)][·]?) #[.int .i64 0, .int .i64 0, .int .i64 0, .int .i64 0, .int .i64 0, .int .i64 0, .slice none 0 0] qs = some cells) : Rd Try.prog S (sBuild 93 qs) k = k (.agg cells) :=
  rd_buildN (ps := [(0, 1), (1, 1), (2, 1), (3, 1), (4, 1), (5, 1), (6, 1)]) Try.underlying93 inf93' ⟨⟨rfl, sz3⟩, ⟨rfl, sz3⟩, ⟨rfl, sz3⟩, ⟨rfl, sz3⟩, ⟨rfl, sz3⟩, ⟨rfl, sz3⟩, ⟨rfl, sz91⟩, trivial⟩ hf
end Go.Proofs.Ytiohaeckagjebaa

/- Slices of slices of values that are owned. -/
set_option linter.unusedVariables false
set_option linter.unusedSimpArgs false
set_option maxRecDepth 100000
namespace Go.Sh
open Go
def vls (ls : List (List Value)) (j : Nat) : List Value := ls.getD j []
theorem vls_eq {ls : List (List Value)} {j : Nat} (h : j < ls.length) : vls ls j = ls[j] := by simp [vls, List.getD_eq_getElem?_getD, h]
theorem vls_set {ls : List (List Value)} {i j : Nat} {l : List Value} (hi : i < ls.length) : vls (ls.set i l) j = if j = i then l else vls ls j := by
  simp only [vls, List.getD_eq_getElem?_getD, List.getElem?_set]
  by_cases hij : i = j
  · subst hij
    simp [hi]
  · rw [if_neg hij, if_neg (fun e => hij e.symm)]
/-- Slices of values of the call's own: the row, and a slice of its own for each. -/
structure OwnV (e1 e2 : Nat) (w : World) (B : Nat) (X : Option Addr) (c : Nat) (ls : List (List Value)) (ps : Nat → Option Addr × Nat) : Prop where
  row : ∃ cells, Row w B e1 1 X ls.length c cells ∧ ∀ j, j < ls.length → cells[j]? = some (.slice (ps j).1 (vls ls j).length (ps j).2)
  own : ∀ j, j < ls.length → Row w B e2 1 (ps j).1 (vls ls j).length (ps j).2 (vls ls j)
  two : ∀ i j, i < ls.length → j < ls.length → i ≠ j → blk (ps i).1 = none ∨ blk (ps i).1 ≠ blk (ps j).1
section
variable {e1 e2 : Nat} {w w' : World} {B B' : Nat} {X : Option Addr} {c : Nat} {ls : List (List Value)} {ps : Nat → Option Addr × Nat}
theorem OwnV.same (h : OwnV e1 e2 w B X c ls ps) (hs : ∀ q, Foot X ps ls.length q → w'.heap[q]? = w.heap[q]?) : OwnV e1 e2 w' B X c ls ps := by
  obtain ⟨⟨cells, hr, hc⟩, ho, ht⟩ := h
  exact ⟨⟨cells, hr.same fun q hq => hs q (.inl hq), hc⟩, fun j hj => Row.same (ho j hj) fun q hq => hs q (.inr ⟨j, hj, hq⟩), ht⟩
theorem OwnV.up (h : OwnV e1 e2 w B X c ls ps) (hs : ∀ q, Foot X ps ls.length q → B' ≤ q) : OwnV e1 e2 w B' X c ls ps := by
  obtain ⟨⟨cells, hr, hc⟩, ho, ht⟩ := h
  exact ⟨⟨cells, hr.up fun q hq => hs q (.inl hq), hc⟩, fun j hj => Row.up (ho j hj) fun q hq => hs q (.inr ⟨j, hj, hq⟩), ht⟩
theorem OwnV.mono (h : OwnV e1 e2 w B X c ls ps) (hb : B' ≤ B) : OwnV e1 e2 w B' X c ls ps := by
  obtain ⟨⟨cells, hr, hc⟩, ho, ht⟩ := h
  exact ⟨⟨cells, Row.mono hr hb, hc⟩, fun j hj => Row.mono (ho j hj) hb, ht⟩
theorem OwnV.foot (h : OwnV e1 e2 w B X c ls ps) {q : Nat} (hq : Foot X ps ls.length q) : B ≤ q ∧ q < w.heap.size := by
  obtain ⟨⟨cells, hr, hc⟩, ho, ht⟩ := h
  rcases hq with hq | ⟨l, hl, hq⟩
  · exact hr.ge hq
  · exact Row.ge (ho l hl) hq
theorem OwnV.ptr (h : OwnV e1 e2 w B X c ls ps) (hl : 0 < ls.length) : X = some (ad X) := by
  obtain ⟨⟨cells, hr, hc⟩, _⟩ := h
  exact hr.ptr hl
theorem OwnV.cell (h : OwnV e1 e2 w B X c ls ps) {j : Nat} (hj : j < ls.length) : w.cell? ((ad X).add j) = some (.slice (ps j).1 (vls ls j).length (ps j).2) := by
  obtain ⟨⟨cells, hr, hc⟩, _⟩ := h
  exact hr.src.cell _ _ (hc j hj)
/-- One value of one slice is written. -/
theorem OwnV.put {i m : Nat} {v : Value} (h : OwnV e1 e2 w B X c ls ps) (he : e1 ≠ e2) (hi : i < ls.length) (hr : Row w' B e2 1 (ps i).1 (vls ls i).length (ps i).2 ((vls ls i).set m v)) (g : w.grownBy w' (blk (ps i).1)) : OwnV e1 e2 w' B X c (ls.set i ((vls ls i).set m v)) ps := by
  obtain ⟨⟨cells, hr0, hc⟩, ho, ht⟩ := h
  refine ⟨⟨cells, by rw [List.length_set]; exact Row.kept hr0 g (row_ne hr0 (ho i hi) he), fun j hj => ?_⟩, fun j hj => ?_, fun a b ha hb hab => ?_⟩
  · rw [List.length_set] at hj
    rw [hc j hj, vls_set hi]
    by_cases hij : j = i
    · subst hij
      rw [if_pos rfl, List.length_set]
    · rw [if_neg hij]
  · rw [List.length_set] at hj
    rw [vls_set hi]
    by_cases hij : j = i
    · subst hij
      rw [if_pos rfl, List.length_set]
      exact hr
    · rw [if_neg hij]
      exact Row.kept (ho j hj) g (ht j i hj hi hij)
  · rw [List.length_set] at ha hb
    exact ht a b ha hb hab
/-- One slice comes to a place. -/
theorem OwnV.setRow {i d B2 : Nat} {Y : Option Addr} {l cells : List Value} (h : OwnV e1 e2 w B X c ls ps) (he : e1 ≠ e2) (hi : i < ls.length) (ho : Row w B2 e2 1 Y l.length d l) (hne : ∀ j, j < ls.length → blk (ps j).1 = none ∨ blk (ps j).1 ≠ blk Y)
    (hr0 : Row w B e1 1 X ls.length c cells) (hc : ∀ j, j < ls.length → cells[j]? = some (.slice (ps j).1 (vls ls j).length (ps j).2)) (hr : Row w' B e1 1 X ls.length c (cells.set i (.slice Y l.length d))) (g : w.grownBy w' (blk X)) : OwnV e1 e2 w' 0 X c (ls.set i l) (fun j => if j = i then (Y, d) else ps j) := by
  have hlen := hr0.len
  refine ⟨⟨_, by rw [List.length_set]; exact Row.mono hr (Nat.zero_le _), fun j hj => ?_⟩, fun j hj => ?_, fun a b ha hb hab => ?_⟩
  · rw [List.length_set] at hj
    rw [vls_set hi]
    by_cases hij : j = i
    · subst hij
      simp only [if_true]
      rw [List.getElem?_set_self (by omega)]
    · simp only [hij, if_false]
      rw [List.getElem?_set_ne (fun e => hij e.symm)]
      exact hc j hj
  · rw [List.length_set] at hj
    rw [vls_set hi]
    by_cases hij : j = i
    · subst hij
      simp only [if_true]
      exact Row.mono (Row.kept ho g (row_ne ho hr0 fun e => he e.symm)) (Nat.zero_le _)
    · simp only [hij, if_false]
      exact Row.mono (Row.kept (h.own j hj) g (row_ne (h.own j hj) hr0 fun e => he e.symm)) (Nat.zero_le _)
  · rw [List.length_set] at ha hb
    by_cases hai : a = i <;> by_cases hbi : b = i
    · omega
    · simp only [hai, hbi, if_true, if_false]
      exact blk_sym (hne b hb)
    · simp only [hai, hbi, if_true, if_false]
      exact hne a ha
    · simp only [hai, hbi, if_false]
      exact h.two a b ha hb hab
end
def vvi (e1 e2 : Nat) (X : Option Addr) (c : Nat) (ls : List (List Value)) (ps : Nat → Option Addr × Nat) : Thing := ⟨fun w => OwnV e1 e2 w 0 X c ls ps, Foot X ps ls.length⟩
theorem vvi_kept {w : World} {B e1 e2 c : Nat} {X : Option Addr} {ls : List (List Value)} {ps : Nat → Option Addr × Nat} (h : OwnV e1 e2 w B X c ls ps) : ∀ w', (∀ q, (vvi e1 e2 X c ls ps).ft q → w'.heap[q]? = w.heap[q]?) → (vvi e1 e2 X c ls ps).P w' := fun w' hq => (h.mono (Nat.zero_le B)).same hq
theorem Apt.vv {w0 w : World} {L : List Thing} (H : Apt w0 w L) (i : Nat) {e1 e2 c : Nat} {X : Option Addr} {ls : List (List Value)} {ps : Nat → Option Addr × Nat} (hi : L[i]? = some (vvi e1 e2 X c ls ps)) : OwnV e1 e2 w w0.heap.size X c ls ps := OwnV.up (H.get i hi) (H.ok i _ hi).lo
/-- A row of nil slices. -/
theorem Apt.nilVV {w0 w : World} {L : List Thing} (H : Apt w0 w L) (i : Nat) {e1 c n : Nat} (e2 : Nat) {X : Option Addr} (hi : L[i]? = some (rwi e1 1 X n c (List.replicate n (.slice none 0 0)))) : Apt w0 w (L.set i (vvi e1 e2 X c (List.replicate n []) fun _ => (none, 0))) := by
  have hr := H.row i hi
  have hv : ∀ j, vls (List.replicate n []) j = [] := fun j => by
    simp only [vls, List.getD_eq_getElem?_getD, List.getElem?_replicate]
    split <;> rfl
  have o : OwnV e1 e2 w w0.heap.size X c (List.replicate n []) fun _ => (none, 0) := by
    refine ⟨⟨_, by rw [List.length_replicate]; exact hr, fun j hj => ?_⟩, fun j hj => ?_, fun i j hi hj hij => .inl rfl⟩
    · rw [List.length_replicate] at hj
      rw [hv]
      simp [hj]
    · rw [hv]
      exact Row.nil _ _ _ _
  refine H.set hi (Gx.refl _ w) (fun q hq => ?_) (fun q hq => (o.foot hq).2) (vvi_kept o)
  rcases hq with hq | ⟨l, hl, hq⟩
  · exact .inl hq
  · cases hq
section
variable {P : Program} {k : Value → World → Prop} {w0 w : World} {L : List Thing}
/-- A store of one value into one slice among slices. -/
theorem storeVV (H : Apt w0 w L) (i j : Nat) {t e1 e2 m c : Nat} {X : Option Addr} {ls : List (List Value)} {ps : Nat → Option Addr × Nat} {v : Value} (hi : L[i]? = some (vvi e1 e2 X c ls ps)) (he : e1 ≠ e2) (hs : szOf P t 1) (hv : v.cells.toList = [v]) (h1 : v.oneCell' = true) (hj : j < ls.length) (hm : m < (vls ls j).length)
    (h : ∀ w', Apt w0 w' (L.set i (vvi e1 e2 X c (ls.set j ((vls ls j).set m v)) ps)) → k undef w') : Do P (sStore t (.pointer (some ((ad (ps j).1).add m))) v) k w := by
  have o := H.vv i hi
  refine do_store_row hs hv h1 (o.own j hj) (by omega) fun w' g hsz hr => ?_
  have o' := o.put he hj hr g
  refine h w' (H.set hi (gx_of g fun q hq => .inr ⟨j, hj, hq⟩) (fun q hq => .inl ?_) (fun q hq => (o'.foot hq).2) (vvi_kept o'))
  rcases hq with hq | ⟨l, hl, hq⟩
  · exact .inl hq
  · rw [List.length_set] at hl
    exact .inr ⟨l, hl, hq⟩
/-- A store of an owned slice into a row of slices. -/
theorem setRowVV (H : Apt w0 w L) (i j x : Nat) (hij : i ≠ j) {t e1 e2 c d n : Nat} {X Y : Option Addr} {ls : List (List Value)} {l : List Value} {ps : Nat → Option Addr × Nat} (hi : L[i]? = some (vvi e1 e2 X c ls ps)) (hj : L[j]? = some (rwi e2 1 Y n d l)) (hn : n = l.length) (he : e1 ≠ e2) (hs : szOf P t 1) (hx : x < ls.length)
    (h : ∀ w' ps', Apt w0 w' ((L.set i (vvi e1 e2 X c (ls.set x l) ps')).set j emp) → k undef w') : Do P (sStore t (.pointer (some ((ad X).add x))) (.slice Y n d)) k w := by
  subst hn
  have o := H.vv i hi
  obtain ⟨⟨cells, hr0, hc⟩, _⟩ := id o
  refine do_store_row hs rfl rfl hr0 (by omega) fun w' g hsz hr => ?_
  have o' := o.setRow he hx (H.row j hj) (fun m hm => by
    cases hq : blk (ps m).1 with
    | none => exact .inl rfl
    | some q => exact .inr fun e => H.two i j _ _ hij hi hj q (.inr ⟨m, hm, hq⟩) (show blk Y = some q from e.symm)) hr0 hc hr g
  refine h w' _ (H.join hij hi hj (gx_of g fun q hq => .inl (.inl hq)) (fun q hq => ?_) (fun q hq => (o'.foot hq).2) (vvi_kept o'))
  rcases hq with hq | ⟨m, hm, hq⟩
  · exact .inl (.inl hq)
  · rw [List.length_set] at hm
    by_cases e : m = x
    · simp only [e, if_true] at hq
      exact .inr (.inl hq)
    · simp only [e, if_false] at hq
      exact .inl (.inr ⟨m, hm, hq⟩)
end
end Go.Sh

/- Plain: what derives what, by passes until nothing changes. -/
set_option linter.unusedVariables false
set_option linter.unusedSimpArgs false
namespace Go.Sh
/-! A table of what derives what: nonterminal, from, to. -/
abbrev Tab := Nat → Nat → Nat → Bool
def Tab.put (T : Tab) (x i j : Nat) : Tab := fun a b c => if a = x ∧ b = i ∧ c = j then true else T a b c
def symT (T : Tab) (w : List Int) (x : Int) (i j : Nat) : Bool := if x < 0 then decide (j = i + 1) && decide (w.getD i 0 = -1 - x) else T x.toNat i j
def fitsT (T : Tab) (w : List Int) : List Int → Nat → Nat → Bool
  | [], i, j => decide (i = j)
  | x :: xs, i, j => (List.range' i (j + 1 - i)).any fun m => symT T w x i m && fitsT T w xs m j
theorem fits_tok {T : Tab} {w : List Int} {x : Int} {xs : List Int} {i j : Nat} (hx : x < 0) : fitsT T w (x :: xs) i j = (decide (i < j) && (decide (w.getD i 0 = -1 - x) && fitsT T w xs (i + 1) j)) := by
  rw [Bool.eq_iff_iff]
  simp only [fitsT, symT, hx, if_true, List.any_eq_true, List.mem_range'_1, Bool.and_eq_true, decide_eq_true_eq]
  constructor
  · rintro ⟨m, ⟨h1, h2⟩, ⟨rfl, h4⟩, h5⟩
    exact ⟨by omega, h4, h5⟩
  · rintro ⟨h1, h2, h3⟩
    exact ⟨i + 1, ⟨by omega, by omega⟩, ⟨rfl, h2⟩, h3⟩
theorem fits_non {T : Tab} {w : List Int} {x : Int} {xs : List Int} {i j : Nat} (hx : ¬ x < 0) : fitsT T w (x :: xs) i j = (List.range' i (j + 1 - i)).any fun m => T x.toNat i m && fitsT T w xs m j := by
  simp only [fitsT, symT, hx, if_false]
/-- Whether a place ahead of one holds. -/
theorem any_upto {p : Nat → Bool} {i j : Nat} (h : ∀ m, i ≤ m → m ≤ j → p m = false) : (List.range' i (j + 1 - i)).any p = false := by
  rw [List.any_eq_false]
  intro m hm
  rw [List.mem_range'_1] at hm
  rw [h m hm.1 (by omega)]
  decide
theorem any_at {p : Nat → Bool} {i j m : Nat} (h1 : i ≤ m) (h2 : m ≤ j) (h : p m = true) : (List.range' i (j + 1 - i)).any p = true := by
  rw [List.any_eq_true]
  exact ⟨m, List.mem_range'_1.2 ⟨h1, by omega⟩, h⟩

/-! One pass over all rules and places. -/
abbrev TS := Tab × Bool
def stepT (w : List Int) (r : Int × List Int) (i : Nat) (s : TS) (j : Nat) : TS := if !s.1 r.1.toNat i j && fitsT s.1 w r.2 i j then (s.1.put r.1.toNat i j, true) else s
def rowT (w : List Int) (r : Int × List Int) (s : TS) (i : Nat) : TS := (List.range' i (w.length + 1 - i)).foldl (stepT w r i) s
def ruleT (w : List Int) (s : TS) (r : Int × List Int) : TS := (List.range (w.length + 1)).foldl (rowT w r) s
def passT (rs : List (Int × List Int)) (w : List Int) (s : TS) : TS := rs.foldl (ruleT w) s
def cellT (T : Tab) (p : Nat) : Bool := T (p / 121) (p / 11 % 11) (p % 11)
def openT (T : Tab) : Nat := (List.range 726).countP fun p => !cellT T p
theorem count_le {α : Type} {p q : α → Bool} {l : List α} (h : ∀ a ∈ l, p a = true → q a = true) : l.countP p ≤ l.countP q := List.countP_mono_left h
theorem count_lt {α : Type} {p q : α → Bool} {l : List α} (h : ∀ a ∈ l, p a = true → q a = true) {b : α} (hb : b ∈ l) (hq : q b = true) (hp : p b = false) : l.countP p < l.countP q := by
  induction l with
  | nil => cases hb
  | cons a l ih =>
    have ht : ∀ a ∈ l, p a = true → q a = true := fun x hx => h x (List.mem_cons_of_mem _ hx)
    rw [List.countP_cons, List.countP_cons]
    rcases List.mem_cons.1 hb with rfl | hb
    · have := count_le ht
      rw [hp, hq]
      simp
      omega
    · have := ih ht hb
      have ha := h a (List.mem_cons_self ..)
      by_cases hpa : p a = true
      · rw [if_pos hpa, if_pos (ha hpa)]
        omega
      · rw [if_neg hpa]
        split <;> omega
theorem open_put {T : Tab} {x i j : Nat} (hx : x < 6) (hi : i < 11) (hj : j < 11) (h : T x i j = false) : openT (T.put x i j) < openT T := by
  unfold openT
  refine count_lt (b := x * 121 + i * 11 + j) (fun p hp hh => ?_) (List.mem_range.2 (by omega)) ?_ ?_
  · simp only [cellT, Tab.put, Bool.not_eq_true'] at hh ⊢
    split at hh
    · cases hh
    · exact hh
  · have e1 : (x * 121 + i * 11 + j) / 121 = x := by omega
    have e2 : (x * 121 + i * 11 + j) / 11 % 11 = i := by omega
    have e3 : (x * 121 + i * 11 + j) % 11 = j := by omega
    simp [cellT, e1, e2, e3, h]
  · have e1 : (x * 121 + i * 11 + j) / 121 = x := by omega
    have e2 : (x * 121 + i * 11 + j) / 11 % 11 = i := by omega
    have e3 : (x * 121 + i * 11 + j) % 11 = j := by omega
    simp [cellT, Tab.put, e1, e2, e3]
def Inc (s s' : TS) : Prop := s' = s ∨ (s'.2 = true ∧ openT s'.1 < openT s.1)
theorem Inc.refl (s : TS) : Inc s s := .inl rfl
theorem Inc.trans {a b c : TS} (h : Inc a b) (g : Inc b c) : Inc a c := by
  rcases h with rfl | ⟨h1, h2⟩
  · exact g
  · rcases g with rfl | ⟨g1, g2⟩
    · exact .inr ⟨h1, h2⟩
    · exact .inr ⟨g1, by omega⟩
theorem Inc.fold {α : Type} {f : TS → α → TS} {l : List α} (h : ∀ a ∈ l, ∀ s, Inc s (f s a)) : ∀ s, Inc s (l.foldl f s) := by
  induction l with
  | nil => exact fun s => Inc.refl s
  | cons a l ih =>
    intro s
    exact (h a (List.mem_cons_self ..) s).trans (ih (fun b hb => h b (List.mem_cons_of_mem _ hb)) _)
theorem stepT_inc {w : List Int} {r : Int × List Int} {i j : Nat} {s : TS} (hr : r.1.toNat < 6) (hi : i < 11) (hj : j < 11) : Inc s (stepT w r i s j) := by
  unfold stepT
  split
  · rename_i h
    simp only [Bool.and_eq_true, Bool.not_eq_true'] at h
    exact .inr ⟨rfl, open_put hr hi hj h.1⟩
  · exact .inl rfl
theorem rowT_inc {w : List Int} {r : Int × List Int} {i : Nat} (hr : r.1.toNat < 6) (hw : w.length ≤ 10) (hi : i < 11) (s : TS) : Inc s (rowT w r s i) :=
  Inc.fold (fun j hj s => by
    rw [List.mem_range'_1] at hj
    exact stepT_inc hr hi (by omega)) s
theorem ruleT_inc {w : List Int} {r : Int × List Int} (hr : r.1.toNat < 6) (hw : w.length ≤ 10) (s : TS) : Inc s (ruleT w s r) :=
  Inc.fold (fun i hi s => rowT_inc hr hw (by have := List.mem_range.1 hi; omega) s) s
theorem passT_inc {rs : List (Int × List Int)} {w : List Int} (hr : ∀ r ∈ rs, r.1.toNat < 6) (hw : w.length ≤ 10) (s : TS) : Inc s (passT rs w s) :=
  Inc.fold (fun r h s => ruleT_inc (hr r h) hw s) s
/-- Passes until nothing changes. -/
inductive Span (rs : List (Int × List Int)) (w : List Int) : Tab → Tab → Prop
  | done {T : Tab} : (passT rs w (T, false)).2 = false → Span rs w T (passT rs w (T, false)).1
  | more {T U : Tab} : (passT rs w (T, false)).2 = true → Span rs w (passT rs w (T, false)).1 U → Span rs w T U
theorem Span.det {rs : List (Int × List Int)} {w : List Int} {T U V : Tab} (h : Span rs w T U) (g : Span rs w T V) : U = V := by
  induction h with
  | done h1 =>
    cases g with
    | done g1 => rfl
    | more g1 g2 => rw [h1] at g1; cases g1
  | more h1 h2 ih =>
    cases g with
    | done g1 => rw [h1] at g1; cases g1
    | more g1 g2 => exact ih g2
theorem Span.ex {rs : List (Int × List Int)} {w : List Int} (hr : ∀ r ∈ rs, r.1.toNat < 6) (hw : w.length ≤ 10) : ∀ (n : Nat) (T : Tab), openT T ≤ n → ∃ U, Span rs w T U := by
  intro n
  induction n with
  | zero =>
    intro T hT
    rcases passT_inc hr hw (T, false) with h | ⟨_, h⟩
    · exact ⟨_, .done (by rw [h])⟩
    · exact absurd h (by simp at hT ⊢; omega)
  | succ n ih =>
    intro T hT
    rcases passT_inc hr hw (T, false) with h | ⟨h1, h2⟩
    · exact ⟨_, .done (by rw [h])⟩
    · obtain ⟨U, hU⟩ := ih (passT rs w (T, false)).1 (by simp at h2; omega)
      exact ⟨U, .more h1 hU⟩
def noTab : Tab := fun _ _ _ => false
open Classical in
noncomputable def spanT (rs : List (Int × List Int)) (w : List Int) : Tab := if h : ∃ U, Span rs w noTab U then Classical.choose h else noTab
theorem Span.eq {rs : List (Int × List Int)} {w : List Int} {U : Tab} (h : Span rs w noTab U) : U = spanT rs w := by
  have hx : ∃ U, Span rs w noTab U := ⟨U, h⟩
  unfold spanT
  rw [dif_pos hx]
  exact h.det (Classical.choose_spec hx)
/-- Whether a word is of the language. -/
noncomputable def inL (rs : List (Int × List Int)) (w : List Int) : Bool := spanT rs w 0 0 w.length
end Go.Sh
