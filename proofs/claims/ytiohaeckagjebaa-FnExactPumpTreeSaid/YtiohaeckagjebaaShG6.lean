/- Contracts: the program's own check of a grammar. -/
import Derived.Test.YtiohaeckagjebaaShG5
set_option linter.unusedVariables false
set_option linter.unusedSimpArgs false
set_option maxRecDepth 100000
namespace Go.Proofs.Ytiohaeckagjebaa
open Go Go.Sh Go.RowKit

/-- A function value that tells of a rule, in whatever world has grown. -/
def PredR (t : Nat) (fv : Value) (p : RuleL → Bool) (w : World) : Prop := ∀ w1, Gr w w1 → ∀ (E : Nat → Prop) (v : Value) (r : RuleL), RuleV E w1 v r → ∀ (k : Value → World → Prop), (∀ w2, Gr w1 w2 → k (.bool (p r)) w2) → Do Try.prog (sCallV fv [v] t) k w1
theorem indexFuncR_c {F : Nat → Prop} {w : World} {X : Option Addr} {c : Nat} {rs : List RuleL} {fv : Value} {p : RuleL → Bool} (hx : RulesF F w X rs) (hp : PredR 4 fv p w) {k : Value → World → Prop}
    (hk : ∀ (r : Int) w', Gr w w' → decide (0 ≤ r) = rs.any p → k (.int .i64 r) w') :
    CallK Try.prog 176 [.slice X rs.length c, fv] k w := by
  refine enter176 ?_
  unfold S176
  simp only [go_sem, Nat.reduceEqDiff]
  refine ⟨fun f w' => ∃ i : Nat, i ≤ rs.length ∧ f 8 = .int .i64 i ∧ Gr w w' ∧ ∀ j, j < i → p (rul rs j) = false, fun f _ => rs.length - (intOf (f 8)).toNat, ⟨0, Nat.zero_le _, rfl, Gr.refl w, fun j hj => absurd hj (Nat.not_lt_zero j)⟩, ?_⟩
  rintro f w1 hag ⟨i, hi, h8, hg, hpre⟩
  have f0 : f 0 = .slice X rs.length c := hag 0 (by decide)
  have f1 : f 1 = fv := hag 1 (by decide)
  have f7 : f 7 = .int .i64 rs.length := hag 7 (by decide)
  simp only [f0, f1, f7, h8, go_sem, Nat.reduceEqDiff]
  by_cases hlt : i < rs.length
  · have hlt' : (i : Int) < rs.length := by omega
    have := hx.le
    simp only [hlt', decide_true, go_sem, Nat.reduceEqDiff]
    rw [ixn35 hx.ptr hlt]
    refine ld_rule agg77 sz77 (hx.gr hg) hlt fun v hv => ?_
    refine hp w1 hg _ _ _ hv _ fun w2 g2 => ?_
    have g2' := gr_trans hg g2
    cases hb : p (rul rs i)
    · simp only [go_sem, Nat.reduceEqDiff]
      rw [i64_of (by omega) (by omega)]
      refine ⟨⟨i + 1, hlt, rfl, g2', fun j hj => ?_⟩, ?_⟩
      · rcases Nat.lt_succ_iff_lt_or_eq.1 hj with h | rfl
        · exact hpre j h
        · exact hb
      · simp only [intOf]
        omega
    · simp only [go_sem, Nat.reduceEqDiff]
      refine hk i w2 g2' ?_
      rw [decide_eq_true (by omega), any_of_rul hlt hb]
  · simp only [show ¬ (i : Int) < rs.length from by omega, decide_false, go_sem, Nat.reduceEqDiff]
    refine hk (-1) w1 hg ?_
    rw [decide_eq_false (by decide), any_none_rul fun j hj => hpre j (by omega)]
theorem containsFuncR_c {F : Nat → Prop} {w : World} {X : Option Addr} {c : Nat} {rs : List RuleL} {fv : Value} {p : RuleL → Bool} (hx : RulesF F w X rs) (hp : PredR 4 fv p w) {k : Value → World → Prop}
    (hk : ∀ w', Gr w w' → k (.bool (rs.any p)) w') : CallK Try.prog 136 [.slice X rs.length c, fv] k w := by
  refine enter136 ?_
  unfold S136
  refine indexFuncR_c hx hp fun r w' g h => ?_
  simp only [go_sem, Nat.reduceEqDiff]
  rw [h]
  exact hk w' g
theorem isSymbol_c {w : World} {s n t : Int} (hn : inB n 1 6 = true) (ht : inB t 1 4 = true) {k : Value → World → Prop} (hk : k (.bool (symB n t s)) w) : CallK Try.prog 175 [.int .i64 s, .int .i64 n, .int .i64 t] k w := by
  have hn' : 1 ≤ n ∧ n ≤ 6 := by simpa [inB] using hn
  have ht' : 1 ≤ t ∧ t ≤ 4 := by simpa [inB] using ht
  refine enter175 ?_
  unfold S175
  simp only [go_sem, Nat.reduceEqDiff]
  rw [i64_of (by omega) (by omega), i64_of (by omega) (by omega)]
  exact in_c hk
theorem areSymbols1_c {w : World} {b b' e e' : Nat} {s n t : Int} (hB : Box w b [.int .i64 n] e) (hB' : Box w b' [.int .i64 t] e') (hn : inB n 1 6 = true) (ht : inB t 1 4 = true) {k : Value → World → Prop} (hk : k (.bool (!symB n t s)) w) :
    CallK Try.prog 174 [.int .i64 s, .pointer (some ⟨b, 0, none⟩), .pointer (some ⟨b', 0, none⟩)] k w := by
  refine enter174 ?_
  unfold S174
  rw [ldB3 hB rfl, ldB3 hB' rfl]
  refine isSymbol_c hn ht ?_
  simp only [go_sem, Nat.reduceEqDiff]
  exact hk
theorem areSymbols_c {w : World} {X : Option Addr} {c : Nat} {xs : List Int} {n t : Int} (hx : Ints w X xs) (hn : inB n 1 6 = true) (ht : inB t 1 4 = true) {k : Value → World → Prop} (hk : ∀ w', Gr w w' → k (.bool (xs.all (symB n t))) w') :
    CallK Try.prog 135 [.slice X xs.length c, .int .i64 n, .int .i64 t] k w := by
  refine enter135 ?_
  unfold S135
  refine do_box fun b w1 g1 hb1 hB => ?_
  refine do_box fun b' w2 g2 hb2 hB' => ?_
  have hB := hB.gr g2
  simp only [go_sem, Nat.reduceEqDiff]
  have hp : Pred 4 (.func (.func 174) [].toArray [.pointer (some ⟨b, 0, none⟩), .pointer (some ⟨b', 0, none⟩)].toArray) (fun x => !symB n t x) w2 := fun w3 g3 x k hk =>
    callVc (areSymbols1_c (hB.gr g3) (hB'.gr g3) hn ht (hk w3 (Gr.refl w3)))
  refine containsFunc_c (hx.gr (gr_trans g1 g2)) hp fun w3 g3 => ?_
  simp only [go_sem, Nat.reduceEqDiff]
  have := hk w3 (gr_trans (gr_trans g1 g2) g3)
  rwa [show xs.all (symB n t) = !xs.any (fun x => !symB n t x) from by simp [List.not_any_eq_all_not]] at this
theorem slicesEqual_c {w : World} {X Y : Option Addr} {c d : Nat} {xs ys : List Int} (hx : Ints w X xs) (hy : Ints w Y ys) {k : Value → World → Prop} (hk : ∀ w', Gr w w' → k (.bool (decide (xs = ys))) w') :
    CallK Try.prog 110 [.slice X xs.length c, .slice Y ys.length d] k w := by
  refine enter110 ?_
  unfold S110
  simp only [go_sem, Nat.reduceEqDiff]
  by_cases hl : xs.length = ys.length
  rotate_left
  · simp only [Int.ofNat_inj, hl, decide_false, Bool.not_false, go_sem, Nat.reduceEqDiff]
    have := hk _ (Gr.refl w)
    rwa [decide_eq_false (fun e => hl (by rw [e]))] at this
  simp only [Int.ofNat_inj, hl, decide_true, Bool.not_true, go_sem, Nat.reduceEqDiff]
  rw [← hl]
  refine ⟨fun f w' => ∃ i : Nat, i ≤ xs.length ∧ f 13 = .int .i64 i ∧ Gr w w' ∧ xs.take i = ys.take i, fun f _ => xs.length - (intOf (f 13)).toNat, ⟨0, Nat.zero_le _, rfl, Gr.refl w, rfl⟩, ?_⟩
  rintro f w1 hag ⟨i, hi, h13, hg, hpre⟩
  have h0 : f 0 = .slice X xs.length c := hag 0 (by decide)
  have h1 : f 1 = .slice Y xs.length d := hag 1 (by decide)
  have h12 : f 12 = .int .i64 xs.length := hag 12 (by decide)
  simp only [h0, h1, h12, h13, go_sem, Nat.reduceEqDiff]
  by_cases hlt : i < xs.length
  · have hlt' : (i : Int) < xs.length := by omega
    have := hx.le
    simp only [hlt', decide_true, go_sem, Nat.reduceEqDiff]
    rw [ixn22 hx.ptr hlt, ld3 ((hx.gr (gr_trans hg (gr_drew w1))).cell i hlt), ixn22 (hl ▸ hy.ptr) hlt, ld3 ((hy.gr (gr_trans hg (gr_drew w1))).cell i (by omega))]
    simp only [go_sem, Nat.reduceEqDiff]
    by_cases he : xs.getD i 0 = ys.getD i 0
    · simp only [he, decide_true, Bool.not_true, go_sem, Nat.reduceEqDiff]
      rw [i64_of (by omega) (by omega)]
      refine ⟨⟨i + 1, hlt, rfl, gr_trans hg (gr_drew w1), ?_⟩, ?_⟩
      · rw [take_snoc hlt, take_snoc (by omega), hpre, he]
      · simp only [intOf]
        omega
    · simp only [he, decide_false, Bool.not_false, go_sem, Nat.reduceEqDiff]
      have := hk _ (gr_trans hg (gr_drew w1))
      rwa [decide_eq_false (fun e => he (by rw [e]))] at this
  · simp only [show ¬ (i : Int) < xs.length from by omega, decide_false, go_sem, Nat.reduceEqDiff]
    have := hk _ hg
    rwa [decide_eq_true] at this
    rwa [List.take_of_length_le (by omega), List.take_of_length_le (by omega)] at hpre
theorem sameRule_c {F E : Nat → Prop} {w : World} {v u : Value} {r q : RuleL} (hv : RuleV F w v r) (hu : RuleV E w u q) {k : Value → World → Prop} (hk : ∀ w', Gr w w' → k (.bool (decide (r = q))) w') :
    CallK Try.prog 138 [v, u] k w := by
  obtain ⟨Y, c, rfl, hc, hy⟩ := hv
  obtain ⟨Z, d, rfl, hd, hz⟩ := hu
  refine enter138 ?_
  unfold S138
  refine do_box fun b w1 g1 hb1 hb => ?_
  refine do_box fun b' w2 g2 hb2 hb' => ?_
  have hb := hb.gr g2
  have g := gr_trans g1 g2
  simp only [go_sem, Nat.reduceEqDiff]
  rw [ldB3 hb rfl, ldB3 hb' rfl]
  simp only [go_sem, Nat.reduceEqDiff]
  by_cases h : r.1 = q.1
  · simp only [h, decide_true, go_sem, Nat.reduceEqDiff]
    rw [ldB22 hb rfl]
    rw [ldB22 hb' rfl]
    refine slicesEqual_c (hy.is.gr g) (hz.is.gr g) fun w3 g3 => ?_
    have := hk w3 (gr_trans g g3)
    by_cases h2 : r.2 = q.2
    · simp only [h2, decide_true, go_sem, Nat.reduceEqDiff]
      rwa [decide_eq_true (Prod.ext h h2)] at this
    · simp only [h2, decide_false, go_sem, Nat.reduceEqDiff]
      rwa [decide_eq_false (fun e => h2 (by rw [e]))] at this
  · simp only [h, decide_false, go_sem, Nat.reduceEqDiff]
    have := hk w2 g
    rwa [decide_eq_false (fun e => h (by rw [e]))] at this
theorem isGrammar1_c {E F : Nat → Prop} {w : World} {v : Value} {q r : RuleL} {Z : Option Addr} {b d e : Nat} (hv : RuleV E w v q) (hB : Box w b [.int .i64 r.1, .slice Z r.2.length d] e) (hz : IntsF F w Z r.2) (hd : r.2.length ≤ d) {k : Value → World → Prop} (hk : ∀ w', Gr w w' → k (.bool (decide (q = r))) w') :
    CallK Try.prog 137 ([v] ++ [.pointer (some ⟨b, 0, none⟩)]) k w := by
  refine enter137 ?_
  unfold S137
  obtain ⟨Y, c, rfl, hc, hy⟩ := hv
  refine do_box fun b1 w1 g1 hb1 hB1 => ?_
  rw [ldB_agg agg77 sz77 rfl hB1, ldB_agg agg77 sz77 rfl (hB.gr g1)]
  exact sameRule_c (r := q) (q := r) ⟨Y, c, rfl, hc, hy.gr g1⟩ ⟨Z, d, rfl, hd, hz.gr g1⟩ fun w2 g2 => hk w2 (gr_trans g1 g2)
theorem isGrammar_c {F : Nat → Prop} {w : World} {v : Value} {gm : Gram} (hv : GramV F w v gm) {k : Value → World → Prop} (hk : ∀ w', Gr w w' → k (.bool (goodG gm)) w') :
    CallK Try.prog 84 [v] k w := by
  have hv0 := hv
  obtain ⟨Y, c, rfl, hc, hy⟩ := hv
  refine enter84 ?_
  unfold S84
  refine do_box fun b w1 g1 hb1 hB => ?_
  simp only [go_sem, Nat.reduceEqDiff]
  rw [ldB3 hB rfl]
  refine in_c ?_
  cases hn : inB gm.nons 1 6
  · simp only [Bool.not_false, go_sem, Nat.reduceEqDiff]
    have := hk _ g1
    rwa [show goodG gm = false from by simp [goodG, hn]] at this
  simp only [Bool.not_true, go_sem, Nat.reduceEqDiff]
  rw [ldB3 hB rfl]
  refine in_c ?_
  cases ht : inB gm.toks 1 4
  · simp only [Bool.not_false, go_sem, Nat.reduceEqDiff]
    have := hk _ g1
    rwa [show goodG gm = false from by simp [goodG, ht]] at this
  simp only [Bool.not_true, go_sem, Nat.reduceEqDiff]
  rw [ldB35 hB rfl]
  simp only [go_sem, Nat.reduceEqDiff]
  by_cases hl : gm.rules.length ≤ 16
  rotate_left
  · simp only [show (16 : Int) < gm.rules.length from by omega, decide_true, go_sem, Nat.reduceEqDiff]
    have := hk _ g1
    rwa [show goodG gm = false from by simp [goodG, hl]] at this
  simp only [show ¬ (16 : Int) < gm.rules.length from by omega, decide_false, go_sem, Nat.reduceEqDiff]
  rw [ldB35 hB rfl]
  simp only [go_sem, Nat.reduceEqDiff]
  have hn' : 1 ≤ gm.nons ∧ gm.nons ≤ 6 := by simpa [inB] using hn
  have ht' : 1 ≤ gm.toks ∧ gm.toks ≤ 4 := by simpa [inB] using ht
  refine ⟨fun f w' => ∃ i : Nat, i ≤ gm.rules.length ∧ f 24 = .int .i64 i ∧ Gr w1 w' ∧ ∀ j, j < i → goodR gm.nons gm.toks gm.rules j = true, fun f _ => gm.rules.length - (intOf (f 24)).toNat, ⟨0, Nat.zero_le _, rfl, Gr.refl w1, fun j hj => absurd hj (Nat.not_lt_zero j)⟩, ?_⟩
  rintro f w2 hag ⟨i, hi, h28, g2, hpre⟩
  have f1 : f 1 = .pointer (some ⟨b, 0, none⟩) := hag 1 (by decide)
  have f26 : f 22 = .slice Y gm.rules.length c := hag 22 (by decide)
  have f27 : f 23 = .int .i64 gm.rules.length := hag 23 (by decide)
  simp only [f1, f26, f27, h28, go_sem, Nat.reduceEqDiff]
  by_cases hlt : i < gm.rules.length
  · have hlt' : (i : Int) < gm.rules.length := by omega
    simp only [hlt', decide_true, go_sem, Nat.reduceEqDiff]
    have g := gr_trans g1 g2
    rw [ixn35 hy.ptr hlt]
    refine ld_rule agg77 sz77 (hy.gr g) hlt fun v hv => ?_
    obtain ⟨Z, d, rfl, hd, hz⟩ := hv
    refine do_alloc_of inf77 fun b3 w3 g3 hb3 h3 => ?_
    have n3 := (hB.gr g2).ne hb3
    refine do_store sz77 rfl (by intro u hu; simp [Value.cells] at hu; rcases hu with rfl | rfl <;> rfl) h3 (by simp [Value.cells]) fun w4 g4 s4 h4 => ?_
    have hB2 := (hB.gr (gr_trans g2 g3)).put g4 n3
    have g' := gr_put (gr_trans g g3) g4 (Nat.le_trans g.size hb3)
    have k0 : goodR gm.nons gm.toks gm.rules i = false → ∀ w', Gr w w' → k (.bool false) w' := fun h w' gw => by
      have := hk w' gw
      rwa [show goodG gm = false from by simp only [goodG, range_not hlt h, Bool.and_false]] at this
    simp only [go_sem, Nat.reduceEqDiff]
    rw [ldB3 h4 rfl, ldB3 hB2 rfl]
    simp only [go_sem, Nat.reduceEqDiff]
    rw [i64_of (by omega) (by omega)]
    refine in_c ?_
    cases hr : inB (rul gm.rules i).1 0 (gm.nons - 1)
    · simp only [Bool.not_false, go_sem, Nat.reduceEqDiff]
      exact k0 (by simp [goodR, hr]) _ g'
    simp only [Bool.not_true, go_sem, Nat.reduceEqDiff]
    rw [ldB22 h4 rfl]
    simp only [go_sem, Nat.reduceEqDiff]
    by_cases h5 : (rul gm.rules i).2.length ≤ 4
    rotate_left
    · simp only [show (4 : Int) < (rul gm.rules i).2.length from by omega, decide_true, go_sem, Nat.reduceEqDiff]
      exact k0 (by simp [goodR, h5]) _ g'
    simp only [show ¬ (4 : Int) < (rul gm.rules i).2.length from by omega, decide_false, go_sem, Nat.reduceEqDiff]
    rw [ldB22 h4 rfl]
    rw [ldB3 hB2 rfl]
    rw [ldB3 hB2 rfl]
    have g24 := gr_put g3 g4 hb3
    refine areSymbols_c (hz.is.gr g24) hn ht fun w5 g5 => ?_
    simp only [go_sem, Nat.reduceEqDiff]
    cases hs : (rul gm.rules i).2.all (symB gm.nons gm.toks)
    · simp only [Bool.not_false, go_sem, Nat.reduceEqDiff]
      exact k0 (by simp only [goodR, hs, Bool.and_false, Bool.false_and]) _ (gr_trans g' g5)
    simp only [Bool.not_true, go_sem, Nat.reduceEqDiff]
    have gw5 := gr_trans g' g5
    rw [ldB35 (hB2.gr g5) rfl]
    rw [slh35 (by omega) (by omega), sub_zero]
    simp only [Int.toNat_natCast, go_sem, Nat.reduceEqDiff]
    have hti : (gm.rules.take i).length = i := by simp; omega
    have hyt : RulesF F w5 Y (gm.rules.take i) := (hy.gr gw5).take i
    have hp : PredR 4 (.func (.func 137) [].toArray [.pointer (some ⟨b3, 0, none⟩)].toArray) (fun q => decide (q = rul gm.rules i)) w5 := fun w6 g6 E v q hv k hk =>
      callVc (isGrammar1_c hv (h4.gr (gr_trans g5 g6)) (hz.gr (gr_trans g24 (gr_trans g5 g6))) hd hk)
    have hcf := containsFuncR_c (c := c) hyt hp (k := ?k)
    rw [hti] at hcf
    refine hcf ?_
    intro w6 g6
    have e : (gm.rules.take i).any (fun q => decide (q = rul gm.rules i)) = (gm.rules.take i).any (fun q => decide (rul gm.rules i = q)) := by
      congr 1
      funext q
      exact decide_eq_decide.2 ⟨fun h => h.symm, fun h => h.symm⟩
    rw [e]
    cases ha : (gm.rules.take i).any (fun q => decide (rul gm.rules i = q))
    · simp only [go_sem, Nat.reduceEqDiff]
      have d28 : f 24 = .int .i64 i := h28
      rw [i64_of (by omega) (by omega)]
      refine ⟨⟨i + 1, hlt, rfl, gr_trans (gr_trans g2 g24) (gr_trans g5 g6), fun l hl => ?_⟩, ?_⟩
      · rcases Nat.lt_succ_iff_lt_or_eq.1 hl with h | rfl
        · exact hpre l h
        · simp only [goodR, hr, h5, hs, ha, decide_true, Bool.not_false, Bool.and_self]
      · simp only [intOf]
        omega
    · simp only [go_sem, Nat.reduceEqDiff]
      exact k0 (by simp only [goodR, ha, Bool.not_true, Bool.and_false]) _ (gr_trans gw5 g6)
  · simp only [show ¬ (i : Int) < gm.rules.length from by omega, decide_false, go_sem, Nat.reduceEqDiff]
    have := hk _ (gr_trans g1 g2)
    rwa [show goodG gm = true from by simp only [goodG, hn, ht, hl, decide_true, Bool.true_and]; exact range_all fun j hj => hpre j (by omega)] at this
end Go.Proofs.Ytiohaeckagjebaa
