/- Texts of this repository put together: ShG2, ShG3, ShG4, ShA2, ShH0, Bc, ShH7, ShK, ShC1, ShC2, ShG5, ShG6, ShH1, ShH2, ShH3, ShH4, ShH5, ShK2, ShP2, ShK3, ShH6, ShG7, ShG8, ShH8, Be, ShLK, ShP1, ShX1, ShM1, ShM2, ShM3, ShV, ShQ1, ShQ2, Bf. -/
import Derived.Test.YtiohaeckagjebaaK22a
import Derived.ArgAppend
import Derived.Test.YtiohaeckagjebaaProg

/- Contracts: how large a grammar is, whether two are the same, and a copy of one. -/
set_option linter.unusedVariables false
set_option linter.unusedSimpArgs false
set_option maxRecDepth 100000
namespace Go.Sh
open Go
def lens (rs : List RuleL) : Nat := (rs.map fun r => r.2.length).sum
def sizeR (rs : List RuleL) : Nat := rs.length + lens rs
def left (n : Int) (s : Nat) : Int := if n < s then -1 else n - s
theorem take_rul {rs : List RuleL} {i : Nat} (h : i < rs.length) : rs.take (i + 1) = rs.take i ++ [rul rs i] := by
  rw [List.take_succ_eq_append_getElem h, rul_eq h]
theorem lens_take {rs : List RuleL} {i : Nat} (h : i < rs.length) : lens (rs.take (i + 1)) = lens (rs.take i) + (rul rs i).2.length := by
  rw [take_rul h]
  simp [lens]
theorem lens_le {rs : List RuleL} {i : Nat} : lens (rs.take i) ≤ lens rs := by
  unfold lens
  conv => rhs; rw [← List.take_append_drop i rs]
  rw [List.map_append, List.sum_append]
  omega
theorem lens_one {rs : List RuleL} {i : Nat} (h : i < rs.length) : (rul rs i).2.length ≤ lens rs := by
  have := lens_take h
  have := @lens_le rs (i + 1)
  omega
theorem rul_take {rs : List RuleL} {i j : Nat} (h : j < i) : rul (rs.take i) j = rul rs j := by
  simp [rul, List.getD_eq_getElem?_getD, List.getElem?_take, h]
end Go.Sh
namespace Go.Proofs.Ytiohaeckagjebaa
open Go Go.Sh Go.RowKit

theorem szIntS_c {w : World} {X : Option Addr} {c l : Nat} {n : Int} (h0 : 0 ≤ n) (h1 : n ≤ 9223372036854775807) (hl : l ≤ 9223372036854775807) {k : Value → World → Prop} (hk : k (.int .i64 (left n l)) w) :
    CallK Try.prog 172 [.slice X l c, .int .i64 n] k w := by
  refine enter172 ?_
  unfold S172
  simp only [go_sem, Nat.reduceEqDiff]
  rw [i64_of (by omega) (by omega)]
  unfold left at hk
  by_cases h : n - l < 0
  · simp only [h, decide_true, go_sem, Nat.reduceEqDiff]
    rwa [if_pos (by omega)] at hk
  · simp only [h, decide_false, go_sem, Nat.reduceEqDiff]
    rwa [if_neg (by omega)] at hk
theorem szRule_c {F : Nat → Prop} {w : World} {v : Value} {r : RuleL} {n : Int} (hv : RuleV F w v r) (h0 : 0 ≤ n) (h1 : n ≤ 9223372036854775807) {k : Value → World → Prop} (hk : ∀ w', Gr w w' → k (.int .i64 (left n r.2.length)) w') :
    CallK Try.prog 131 [v, .int .i64 n] k w := by
  obtain ⟨Y, c, rfl, hc, hy⟩ := hv
  refine enter131 ?_
  unfold S131
  refine do_box fun b w1 g1 hb1 hb => ?_
  simp only [go_sem, Nat.reduceEqDiff]
  rw [ldB22 hb rfl]
  refine szIntS_c h0 h1 hy.is.le ?_
  simp only [go_sem, Nat.reduceEqDiff]
  have := hk _ g1
  by_cases h : left n r.2.length < 0
  · simp only [h, decide_true, go_sem, Nat.reduceEqDiff]
    have e : left n r.2.length = -1 := by
      unfold left at h ⊢
      split at h
      · rw [if_pos (by assumption)]
      · omega
    rwa [e] at this
  · simp only [h, decide_false, go_sem, Nat.reduceEqDiff]
    exact this
theorem szRuleS_c {F : Nat → Prop} {w : World} {X : Option Addr} {c : Nat} {rs : List RuleL} {n : Int} (hx : RulesF F w X rs) (h0 : 0 ≤ n) (h1 : n ≤ 9223372036854775807) {k : Value → World → Prop} (hk : ∀ w', Gr w w' → k (.int .i64 (left n (sizeR rs))) w') :
    CallK Try.prog 80 [.slice X rs.length c, .int .i64 n] k w := by
  refine enter80 ?_
  unfold S80
  simp only [go_sem, Nat.reduceEqDiff]
  have hle := hx.le
  rw [i64_of (by omega) (by omega)]
  by_cases h : n - rs.length < 0
  · simp only [h, decide_true, go_sem, Nat.reduceEqDiff]
    have := hk _ (Gr.refl w)
    rwa [show left n (sizeR rs) = -1 from if_pos (by unfold sizeR; omega)] at this
  simp only [h, decide_false, go_sem, Nat.reduceEqDiff]
  refine ⟨fun f w' => ∃ i : Nat, i ≤ rs.length ∧ f 5 = .int .i64 i ∧ f 1 = .int .i64 (n - rs.length - lens (rs.take i)) ∧ 0 ≤ n - rs.length - lens (rs.take i) ∧ Gr w w', fun f _ => rs.length - (intOf (f 5)).toNat, ⟨0, Nat.zero_le _, rfl, by simp [lens]; rfl, by simp [lens]; omega, Gr.refl w⟩, ?_⟩
  rintro f w1 hag ⟨i, hi, h5, hf1, hpos, g1⟩
  have f0 : f 0 = .slice X rs.length c := hag 0 (by decide)
  simp only [f0, hf1, h5, go_sem, Nat.reduceEqDiff]
  by_cases hlt : i < rs.length
  · have hlt' : (i : Int) < rs.length := by omega
    simp only [hlt', decide_true, go_sem, Nat.reduceEqDiff]
    rw [ixn29 hx.ptr hlt]
    refine ld_rule agg148 sz148 (hx.gr g1) hlt fun v hv => ?_
    refine szRule_c hv hpos (by omega) fun w2 g2 => ?_
    simp only [go_sem, Nat.reduceEqDiff]
    have e := lens_take hlt
    by_cases hs : left (n - rs.length - lens (rs.take i)) (rul rs i).2.length < 0
    · simp only [hs, decide_true, go_sem, Nat.reduceEqDiff]
      have := hk _ (gr_trans g1 g2)
      have h2 := @lens_le rs (i + 1)
      have e2 : n < sizeR rs := by
        unfold left at hs
        unfold sizeR
        split at hs <;> omega
      rwa [show left n (sizeR rs) = -1 from if_pos e2] at this
    · simp only [hs, decide_false, go_sem, Nat.reduceEqDiff]
      rw [i64_of (by omega) (by omega)]
      have e3 : left (n - rs.length - lens (rs.take i)) (rul rs i).2.length = n - rs.length - lens (rs.take (i + 1)) := by
        unfold left at hs ⊢
        split at hs
        · omega
        · rw [if_neg (by assumption)]; omega
      rw [e3] at hs ⊢
      refine ⟨⟨i + 1, hlt, rfl, rfl, by omega, gr_trans g1 g2⟩, ?_⟩
      simp only [intOf]
      omega
  · simp only [show ¬ (i : Int) < rs.length from by omega, decide_false, go_sem, Nat.reduceEqDiff]
    have := hk _ g1
    have hi' : i = rs.length := by omega
    subst hi'
    rw [List.take_length] at hpos ⊢
    rwa [show left n (sizeR rs) = n - rs.length - lens rs from by unfold left sizeR; rw [if_neg (by omega)]; omega] at this
theorem szGrammar_c {F : Nat → Prop} {w : World} {v : Value} {gm : Gram} {n : Int} (hv : GramV F w v gm) (h0 : 0 ≤ n) (h1 : n ≤ 9223372036854775807) {k : Value → World → Prop} (hk : ∀ w', Gr w w' → k (.int .i64 (left n (sizeR gm.rules))) w') :
    CallK Try.prog 29 [v, .int .i64 n] k w := by
  obtain ⟨Y, c, rfl, hc, hy⟩ := hv
  refine enter29 ?_
  unfold S29
  refine do_box fun b w1 g1 hb1 hb => ?_
  simp only [go_sem, Nat.reduceEqDiff]
  rw [ldB29 hb rfl]
  refine szRuleS_c (hy.gr g1) h0 h1 fun w2 g2 => ?_
  simp only [go_sem, Nat.reduceEqDiff]
  have := hk _ (gr_trans g1 g2)
  by_cases h : left n (sizeR gm.rules) < 0
  · simp only [h, decide_true, go_sem, Nat.reduceEqDiff]
    have e : left n (sizeR gm.rules) = -1 := by
      unfold left at h ⊢
      split at h
      · rw [if_pos (by assumption)]
      · omega
    rwa [e] at this
  · simp only [h, decide_false, go_sem, Nat.reduceEqDiff]
    exact this
end Go.Proofs.Ytiohaeckagjebaa

/- Contracts: equality of grammars, copies of grammars. -/
set_option linter.unusedVariables false
set_option linter.unusedSimpArgs false
set_option maxRecDepth 100000
namespace Go.Sh
open Go
theorem rules_ext {rs qs : List RuleL} (hl : rs.length = qs.length) (h : ∀ j, j < rs.length → rul rs j = rul qs j) : rs = qs := by
  apply List.ext_getElem hl
  intro j h1 h2
  have := h j h1
  rwa [rul_eq h1, rul_eq h2] at this
end Go.Sh
namespace Go.Proofs.Ytiohaeckagjebaa
open Go Go.Sh Go.RowKit

theorem eqRule_c {F E : Nat → Prop} {w : World} {v u : Value} {r q : RuleL} (hv : RuleV F w v r) (hu : RuleV E w u q) {k : Value → World → Prop} (hk : ∀ w', Gr w w' → k (.bool (decide (r = q))) w') :
    CallK Try.prog 139 [v, u] k w := by
  obtain ⟨Y, c, rfl, hc, hy⟩ := hv
  obtain ⟨Z, d, rfl, hd, hz⟩ := hu
  refine enter139 ?_
  unfold S139
  refine do_box fun b w1 g1 hb1 hb => ?_
  refine do_box fun b' w2 g2 hb2 hb' => ?_
  have hb := hb.gr g2
  have g := gr_trans g1 g2
  simp only [go_sem, Nat.reduceEqDiff]
  rw [ldB3 hb rfl, ldB3 hb' rfl]
  simp only [go_sem, Nat.reduceEqDiff]
  by_cases h : r.1 = q.1
  · simp only [h, decide_true, go_sem, Nat.reduceEqDiff]
    rw [ldB22 hb rfl, ldB22 hb' rfl]
    refine eqIntS_c (hy.is.gr g) (hz.is.gr g) fun w3 g3 => ?_
    have := hk w3 (gr_trans g g3)
    simp only [go_sem, Nat.reduceEqDiff]
    by_cases h2 : r.2 = q.2
    · simp only [h2, decide_true, go_sem, Nat.reduceEqDiff]
      rwa [decide_eq_true (Prod.ext h h2)] at this
    · simp only [h2, decide_false, Bool.not_false, go_sem, Nat.reduceEqDiff]
      rwa [decide_eq_false (fun e => h2 (by rw [e]))] at this
  · simp only [h, decide_false, Bool.not_false, go_sem, Nat.reduceEqDiff]
    have := hk w2 g
    rwa [decide_eq_false (fun e => h (by rw [e]))] at this
theorem eqRuleS_c {F E : Nat → Prop} {w : World} {X Y : Option Addr} {c d : Nat} {rs qs : List RuleL} (hx : RulesF F w X rs) (hy : RulesF E w Y qs) {k : Value → World → Prop} (hk : ∀ w', Gr w w' → k (.bool (decide (rs = qs))) w') :
    CallK Try.prog 85 [.slice X rs.length c, .slice Y qs.length d] k w := by
  refine enter85 ?_
  unfold S85
  simp only [go_sem, Nat.reduceEqDiff]
  by_cases hl : rs.length = qs.length
  rotate_left
  · simp only [Int.ofNat_inj, hl, decide_false, Bool.not_false, go_sem, Nat.reduceEqDiff]
    have := hk _ (Gr.refl w)
    rwa [decide_eq_false (fun e => hl (by rw [e]))] at this
  simp only [Int.ofNat_inj, hl, decide_true, Bool.not_true, go_sem, Nat.reduceEqDiff]
  refine ⟨fun f w' => ∃ i : Nat, i ≤ rs.length ∧ f 5 = .int .i64 i ∧ Gr w w' ∧ ∀ j, j < i → rul rs j = rul qs j, fun f _ => rs.length - (intOf (f 5)).toNat, ⟨0, Nat.zero_le _, rfl, Gr.refl w, fun j hj => absurd hj (Nat.not_lt_zero j)⟩, ?_⟩
  rintro f w1 hag ⟨i, hi, h5, g1, hpre⟩
  have f0 : f 0 = .slice X rs.length c := (hag 0 (by decide)).trans (by rw [hl]; rfl)
  have f1 : f 1 = .slice Y qs.length d := hag 1 (by decide)
  simp only [f0, f1, h5, go_sem, Nat.reduceEqDiff]
  by_cases hlt : i < rs.length
  · have hlt' : (i : Int) < rs.length := by omega
    have := hx.le
    simp only [hlt', decide_true, go_sem, Nat.reduceEqDiff]
    have gd := gr_trans g1 (gr_drew w1)
    rw [ixn35 hx.ptr hlt]
    refine ld_rule agg77 sz77 (hx.gr gd) hlt fun v hv => ?_
    rw [ixn35 hy.ptr (by omega)]
    refine ld_rule agg77 sz77 (hy.gr gd) (by omega) fun u hu => ?_
    refine eqRule_c hv hu fun w2 g2 => ?_
    have g2' := gr_trans gd g2
    by_cases he : rul rs i = rul qs i
    · simp only [he, decide_true, Bool.not_true, go_sem, Nat.reduceEqDiff]
      rw [i64_of (by omega) (by omega)]
      refine ⟨⟨i + 1, hlt, rfl, g2', fun j hj => ?_⟩, ?_⟩
      · rcases Nat.lt_succ_iff_lt_or_eq.1 hj with h | rfl
        · exact hpre j h
        · exact he
      · simp only [intOf]
        omega
    · simp only [he, decide_false, Bool.not_false, go_sem, Nat.reduceEqDiff]
      have := hk _ g2'
      rwa [decide_eq_false (fun e => he (by rw [e]))] at this
  · simp only [show ¬ (i : Int) < rs.length from by omega, decide_false, go_sem, Nat.reduceEqDiff]
    have := hk _ g1
    rwa [decide_eq_true (rules_ext hl fun j hj => hpre j (by omega))] at this
theorem eqGrammar_c {F E : Nat → Prop} {w : World} {v u : Value} {a b : Gram} (hv : GramV F w v a) (hu : GramV E w u b) {k : Value → World → Prop} (hk : ∀ w', Gr w w' → k (.bool (decide (a = b))) w') :
    CallK Try.prog 33 [v, u] k w := by
  obtain ⟨Y, c, rfl, hc, hy⟩ := hv
  obtain ⟨Z, d, rfl, hd, hz⟩ := hu
  obtain ⟨n1, t1, r1⟩ := a
  obtain ⟨n2, t2, r2⟩ := b
  refine enter33 ?_
  unfold S33
  refine do_box fun b w1 g1 hb1 hb => ?_
  refine do_box fun b' w2 g2 hb2 hb' => ?_
  have hb := hb.gr g2
  have g := gr_trans g1 g2
  simp only [go_sem, Nat.reduceEqDiff]
  rw [ldB3 hb rfl, ldB3 hb' rfl]
  simp only [go_sem, Nat.reduceEqDiff]
  by_cases h : n1 = n2
  rotate_left
  · simp only [h, decide_false, Bool.not_false, go_sem, Nat.reduceEqDiff]
    have := hk w2 g
    rwa [decide_eq_false (fun e => h (by injection e))] at this
  simp only [h, decide_true, go_sem, Nat.reduceEqDiff]
  rw [ldB3 hb rfl, ldB3 hb' rfl]
  simp only [go_sem, Nat.reduceEqDiff]
  by_cases h2 : t1 = t2
  rotate_left
  · simp only [h2, decide_false, Bool.not_false, go_sem, Nat.reduceEqDiff]
    have := hk w2 g
    rwa [decide_eq_false (fun e => h2 (by injection e))] at this
  simp only [h2, decide_true, go_sem, Nat.reduceEqDiff]
  rw [ldB35 hb rfl, ldB35 hb' rfl]
  refine eqRuleS_c (hy.gr g) (hz.gr g) fun w3 g3 => ?_
  have := hk w3 (gr_trans g g3)
  simp only [go_sem, Nat.reduceEqDiff]
  by_cases h3 : r1 = r2
  · simp only [h3, decide_true, Bool.not_true, go_sem, Nat.reduceEqDiff]
    rwa [decide_eq_true (by rw [h, h2, h3])] at this
  · simp only [h3, decide_false, Bool.not_false, go_sem, Nat.reduceEqDiff]
    rwa [decide_eq_false (fun e => h3 (by injection e))] at this
end Go.Proofs.Ytiohaeckagjebaa

/- Contracts: a copy of a grammar, that the call owns. -/
set_option linter.unusedVariables false
set_option linter.unusedSimpArgs false
set_option maxRecDepth 100000
namespace Go.Sh
open Go
/-- A grammar as a value, of the call's own. -/
def GramO (w : World) (B : Nat) (v : Value) (g : Gram) : Prop := ∃ X c ps, v = .agg #[.int .i64 g.nons, .int .i64 g.toks, .slice X g.rules.length c] ∧ OwnR 77 3 w B X c g.rules ps
theorem GramO.gx {D : Nat → Prop} {w w' : World} {B : Nat} {v : Value} {r : Gram} (h : GramO w B v r) (g : Gx D w w') (hn : ∀ b, B ≤ b → b < w.heap.size → ¬ D b) : GramO w' B v r := by
  obtain ⟨X, c, ps, h1, h2⟩ := h
  exact ⟨X, c, ps, h1, h2.gx g hn⟩
theorem GramO.gr {w w' : World} {B : Nat} {v : Value} {r : Gram} (h : GramO w B v r) (g : Gr w w') : GramO w' B v r := by
  obtain ⟨X, c, ps, h1, h2⟩ := h
  exact ⟨X, c, ps, h1, h2.gr g⟩
theorem GramO.mono {w : World} {B B' : Nat} {v : Value} {r : Gram} (h : GramO w B v r) (hb : B' ≤ B) : GramO w B' v r := by
  obtain ⟨X, c, ps, h1, h2⟩ := h
  exact ⟨X, c, ps, h1, h2.mono hb⟩
theorem GramO.read {w : World} {B : Nat} {v : Value} {r : Gram} (h : GramO w B v r) : GramV (fun b => B ≤ b ∧ b < w.heap.size) w v r := by
  obtain ⟨X, c, ps, h1, h2⟩ := h
  obtain ⟨⟨cells, hr, _⟩, _⟩ := h2
  exact ⟨X, c, h1, (Row.cap hr).1, OwnR.read ⟨⟨cells, hr, by assumption⟩, by assumption, by assumption⟩⟩
theorem zeros_rules {n j : Nat} (h : j < n) : (madeCells (Value.cells (.agg #[.int .i64 0, .slice none 0 0])) (n * 2)).toList[j * 2]? = some (.int .i64 0) ∧ (madeCells (Value.cells (.agg #[.int .i64 0, .slice none 0 0])) (n * 2)).toList[j * 2 + 1]? = some (.slice none 0 0) := by
  constructor
  · simp [madeCells, Value.cells]
    rw [List.getElem?_range (by omega)]
    simp
  · simp [madeCells, Value.cells]
    rw [List.getElem?_range (by omega)]
    simp [Nat.add_mod]
theorem rul_replicate {n j : Nat} : rul (List.replicate n (0, [])) j = (0, []) := by
  simp only [rul, List.getD_eq_getElem?_getD, List.getElem?_replicate]
  split <;> rfl
end Go.Sh
namespace Go.Proofs.Ytiohaeckagjebaa
open Go Go.Sh Go.RowKit

theorem toRule_c {F : Nat → Prop} {w : World} {v : Value} {r : RuleL} (hv : RuleV F w v r) (hb : r.2.length * 8 ≤ 281474976710656) {k : Value → World → Prop}
    (hk : ∀ Y d w', Gr w w' → Own 3 w' w.heap.size Y d r.2 → k (.agg #[.int .i64 r.1, .slice Y r.2.length d]) w') :
    CallK Try.prog 134 [v] k w := by
  obtain ⟨Y, c, rfl, hc, hy⟩ := hv
  refine enter134 ?_
  unfold S134
  refine do_box fun b w1 g1 hb1 hB => ?_
  refine do_alloc_of inf77 fun b3 w2 g2 hb2 h3 => ?_
  have n1 := hB.ne hb2
  have hB := hB.gr g2
  refine do_alloc_of inf77 fun b5 w3 g3 hb3 h5 => ?_
  have n2 := hB.ne hb3
  have n3 := h3.ne hb3
  have hB := hB.gr g3
  have h3 := h3.gr g3
  have g := gr_trans g1 (gr_trans g2 g3)
  have q3 := Nat.le_trans g1.size hb2
  have q5 := Nat.le_trans (gr_trans g1 g2).size hb3
  simp only [go_sem, Nat.reduceEqDiff]
  rw [ldB3 hB rfl]
  refine do_store sz3 rfl (by intro u hu; simp [Value.cells] at hu; subst hu; rfl) h5 (by simp [Value.cells]) fun w4 g4 s4 h5 => ?_
  have hB := hB.put g4 n2
  have h3 := h3.put g4 n3
  have g := gr_put g g4 q5
  rw [ldB22 hB rfl]
  refine toIntS_c (hy.is.gr g) rfl (by assumption) fun X' c' w5 g5 o5 => ?_
  have l5 := h5.lt
  have l3 := h3.lt
  refine do_store sz22 rfl (by intro u hu; simp [Value.cells] at hu; subst hu; rfl) (h5.gr g5) (by simp [Value.cells]) fun w6 g6 s6 h5 => ?_
  have h3 := (h3.gr g5).put g6 n3
  have o6 := Row.kept_old o5 g6 l5
  have g := gr_put (gr_trans g g5) g6 q5
  rw [ldB_agg agg77 sz77 rfl h5]
  refine do_store sz77 rfl (by intro u hu; simp [Value.cells] at hu; rcases hu with rfl | rfl <;> rfl) h3 (by simp [Value.cells]) fun w7 g7 s7 h3 => ?_
  have o7 := Row.kept_old o6 g7 l3
  have g := gr_put g g7 q3
  rw [rd_loadVar, ldB_agg agg77 sz77 rfl h3]
  exact hk X' c' w7 g (Row.mono o7 (by have := g.size; omega))
theorem toRuleS_c {F : Nat → Prop} {w : World} {X : Option Addr} {c : Nat} {rs : List RuleL} (hx : RulesF F w X rs) (hb : sizeR rs ≤ 1048576) {k : Value → World → Prop}
    (hk : ∀ X' c' ps w', Gr w w' → OwnR 77 3 w' w.heap.size X' c' rs ps → k (.slice X' rs.length c') w') :
    CallK Try.prog 83 [.slice X rs.length c] k w := by
  have hn : rs.length ≤ 1048576 := by unfold sizeR at hb; omega
  refine enter83 ?_
  unfold S83
  simp only [go_sem, Nat.reduceEqDiff]
  refine mk35 (by omega) fun b w1 hb1 hb2 g1 hrow => ?_
  have o1 := hrow _ (Nat.le_refl _)
  refine ⟨fun f w' => ∃ i : Nat, i ≤ rs.length ∧ f 4 = .int .i64 i ∧ Gr w w' ∧ ∃ ps, (∀ j, i ≤ j → ps j = (none, 0)) ∧ OwnR 77 3 w' w.heap.size (some ⟨b, 0, none⟩) rs.length (rs.take i ++ (List.replicate rs.length ((0 : Int), ([] : List Int))).drop i) ps, fun f _ => rs.length - (intOf (f 4)).toNat,
    ⟨0, Nat.zero_le _, rfl, g1, fun _ => (none, 0), fun _ _ => rfl, ?_⟩, ?_⟩
  · rw [List.take_zero, List.nil_append, List.drop_zero]
    refine ⟨⟨_, by rw [List.length_replicate]; exact o1, fun j hj => ?_⟩, fun j hj => ?_, fun i j hi hj hij => .inl rfl⟩
    · rw [List.length_replicate] at hj
      rw [rul_replicate]
      exact zeros_rules hj
    · rw [rul_replicate]
      exact Row.nil _ _ _ _
  rintro f w2 hag ⟨i, hi, h4, g2, ps, hps, o2⟩
  have f0 : f 0 = .slice X rs.length c := hag 0 (by decide)
  have f3 : f 3 = .slice (some ⟨b, 0, none⟩) rs.length rs.length := hag 3 (by decide)
  simp only [f0, f3, h4, go_sem, Nat.reduceEqDiff]
  have hlen : (rs.take i ++ (List.replicate rs.length ((0 : Int), ([] : List Int))).drop i).length = rs.length := by simp; omega
  by_cases hlt : i < rs.length
  · have hlt' : (i : Int) < rs.length := by omega
    simp only [hlt', decide_true, go_sem, Nat.reduceEqDiff]
    rw [ixn29 hx.ptr hlt]
    refine ld_rule agg148 sz148 (hx.gr g2) hlt fun v hv => ?_
    have hone := lens_one hlt
    refine toRule_c hv (by unfold sizeR at hb; omega) fun Y d w3 g3 o3 => ?_
    rw [ixn35 (X := some ⟨b, 0, none⟩) (fun _ => rfl) hlt]
    refine do_store_rule sz77 (by decide) (o2.gr g3) (by rw [hlen]; exact hlt) (Row.mono o3 (Nat.le_refl _) |>.mono g2.size) (fun j hj hji => ?_) fun w4 g4 s4 o4 => ?_
    · cases hq : blk Y with
      | none => exact .inl rfl
      | some q =>
        refine .inr fun e => ?_
        have h1 := (Row.ge o3 hq).1
        have h2 := (Row.ge (o2.own j hj) e.symm).2
        omega
    rw [set_rul (by simpa using hlt) (by simp)] at o4
    have hq : w.heap.size ≤ b := hb1
    rw [i64_of (by omega) (by omega)]
    refine ⟨⟨i + 1, hlt, rfl, gr_put (gr_trans g2 g3) g4 hq, _, fun j hj => ?_, o4⟩, ?_⟩
    · rw [if_neg (by omega)]
      exact hps j (by omega)
    · simp only [intOf]
      omega
  · have hi' : i = rs.length := by omega
    subst hi'
    simp only [Int.lt_irrefl, decide_false, go_sem, Nat.reduceEqDiff]
    refine hk _ _ ps w2 g2 ?_
    simpa using o2
/-- A copy of a grammar. -/
theorem toGrammar_c {F : Nat → Prop} {w : World} {v : Value} {gm : Gram} (hv : GramV F w v gm) (hb : sizeR gm.rules ≤ 1048576) {k : Value → World → Prop}
    (hk : ∀ v' w', Gr w w' → GramO w' w.heap.size v' gm → k v' w') : CallK Try.prog 31 [v] k w := by
  obtain ⟨Y, c, rfl, hc, hy⟩ := hv
  refine enter31 ?_
  unfold S31
  refine do_box fun b w1 g1 hb1 hB => ?_
  refine do_alloc_of inf37 fun b3 w2 g2 hb2 h3 => ?_
  have n1 := hB.ne hb2
  have hB := hB.gr g2
  refine do_alloc_of inf37 fun b5 w3 g3 hb3 h5 => ?_
  have n2 := hB.ne hb3
  have n3 := h3.ne hb3
  have hB := hB.gr g3
  have h3 := h3.gr g3
  have g := gr_trans g1 (gr_trans g2 g3)
  have q3 := Nat.le_trans g1.size hb2
  have q5 := Nat.le_trans (gr_trans g1 g2).size hb3
  simp only [go_sem, Nat.reduceEqDiff]
  rw [ldB3 hB rfl]
  refine do_store sz3 rfl (by intro u hu; simp [Value.cells] at hu; subst hu; rfl) h5 (by simp [Value.cells]) fun w4 g4 s4 h5 => ?_
  have hB := hB.put g4 n2
  have h3 := h3.put g4 n3
  have g := gr_put g g4 q5
  rw [ldB3 hB rfl]
  refine do_store sz3 rfl (by intro u hu; simp [Value.cells] at hu; subst hu; rfl) h5 (by simp [Value.cells]) fun w4 g4 s4 h5 => ?_
  have hB := hB.put g4 n2
  have h3 := h3.put g4 n3
  have g := gr_put g g4 q5
  rw [ldB29 hB rfl]
  refine toRuleS_c (hy.gr g) (by assumption) fun X' c' ps w5 g5 o5 => ?_
  have l5 := h5.lt
  have l3 := h3.lt
  refine do_store sz35 rfl (by intro u hu; simp [Value.cells] at hu; subst hu; rfl) (h5.gr g5) (by simp [Value.cells]) fun w6 g6 s6 h5 => ?_
  have h3 := (h3.gr g5).put g6 n3
  have o6 := o5.gx (gx_of g6 (D := fun q => q = b5) fun q hq => by simpa using hq.symm) (fun q h1 h2 h3 => by omega)
  have g := gr_put (gr_trans g g5) g6 q5
  rw [ldB_agg agg37 sz37 rfl h5]
  refine do_store sz37 rfl (by intro u hu; simp [Value.cells] at hu; rcases hu with rfl | rfl | rfl <;> rfl) h3 (by simp [Value.cells]) fun w7 g7 s7 h3 => ?_
  have o7 := o6.gx (gx_of g7 (D := fun q => q = b3) fun q hq => by simpa using hq.symm) (fun q h1 h2 h3 => by omega)
  have g := gr_put g g7 q3
  rw [rd_loadVar, ldB_agg agg37 sz37 rfl h3]
  exact hk _ w7 g ⟨X', c', ps, rfl, o7.mono (by have := g.size; omega)⟩
end Go.Proofs.Ytiohaeckagjebaa

/- append to a row of the call's own, once more: the row stays in its block, or is new. -/
set_option linter.unusedVariables false
set_option linter.unusedSimpArgs false
set_option maxRecDepth 100000
namespace Go.Sh
open Go
/-- Same block, or a new one. -/
def Moved (w : World) (X X' : Option Addr) : Prop := blk X' = blk X ∨ ∀ q, blk X' = some q → w.heap.size ≤ q
section
variable {P : Program} {k : Value → World → Prop} {w : World}
theorem do_append2 {t e u sz by' : Nat} {z : Value} (ht : P.underlying t = some (.slice e)) (H : Inf P e z sz by') (hzs : z.cells.size = sz) (hsz : 0 < sz)
    {cs : List Bool} {B n c m d : Nat} {X Y : Option Addr} {cells news : List Value} (hO : Row w B e sz X n c cells) (hS : Src w Y news) (hl : news.length = m * sz) (h1 : ∀ v ∈ news, v.oneCell' = true) (hm : (n + m) * by' ≤ 140737488355328) (hmax : n + m ≤ 9223372036854775807) (hB : B ≤ w.heap.size)
    (h : ∀ X' c' w', Row w' B e sz X' (n + m) c' (cells ++ news) → w.grownBy w' (blk X) → Moved w X X' → k (.slice X' (n + m) c') w') : Do P (sBuiltin .append #[t, t] u cs [.slice X n c, .slice Y m d]) k w := by
  obtain ⟨i, hi, hz, hsize, hby⟩ := H
  have hfin : ∀ (v' : Value) (w' : World), (Builtin.append_ #[t, t] u #[.slice X n c, .slice Y m d]).run P w = .ok v' w' → w'.ownsRow B e sz v' (n + m) (cells ++ news) → w.grownBy w' (blk X) → (v'.ownBlock = blk X ∨ ∀ q, v'.ownBlock = some q → w.heap.size ≤ q) → Do P (sBuiltin .append #[t, t] u cs [.slice X n c, .slice Y m d]) k w := by
    intro v' w' hr ho hg hv
    have e' : (sBuiltin .append #[t, t] u cs [.slice X n c, .slice Y m d]).run P w = .ok (.value v') w' := by
      simp only [sBuiltin, builtin, Sem.run_bind]
      rw [show [Value.slice X n c, Value.slice Y m d].toArray = #[.slice X n c, .slice Y m d] from rfl, hr]
      rfl
    rw [do_value e']
    rcases ho.2 with ⟨rfl, hn⟩ | ⟨g, cap, cur, rfl, rest⟩
    · have := h none 0 w' (by rw [hn] at ho ⊢; exact ho) hg hv
      rwa [hn] at this
    · exact h _ _ _ ho hg hv
  cases Y with
  | none =>
    have hn : news = [] := by
      cases news with
      | nil => rfl
      | cons v vs => have := hS.ptr (by simp); cases this
    subst hn
    have hm0 : m = 0 := by
      rcases Nat.mul_eq_zero.1 (show m * sz = 0 from hl.symm) with h | h
      · exact h
      · omega
    subst hm0
    exact hfin _ _ (run_append_none ht ⟨i, hi, hsize⟩ hO.cap.1) (by rw [List.append_nil, Nat.add_zero]; exact hO) (gr_any (Gr.refl w) _) (.inl own_eq)
  | some a =>
    have h63 : n + m ≤ maxLen := by unfold maxLen; omega
    rcases hO.at_ with ⟨rfl, rfl, rfl⟩ | ⟨g, rfl, hbg, hgl⟩
    · have hnil : cells = [] := List.eq_nil_of_length_eq_zero (by rw [hO.len]; omega)
      subst hnil
      obtain ⟨v', w', h1', h2', h3', _⟩ := run_append_own (P := P) (w := w) w.heap.size t u e i z sz by' ht hi hz hsize hby hzs hsz (.slice none 0 0) 0 [] (Row.nil w w.heap.size e sz) a m d news hl (fun j u hu => hS.cell j u hu) h1 h63 hm (Nat.le_refl _)
      refine hfin v' w' h1' ?_ h3' (.inr fun q hq => ?_)
      · rcases h2'.2 with ⟨rfl, hn⟩ | ⟨g, cap, cur, rfl, e2, rest⟩
        · exact ⟨h2'.1, .inl ⟨rfl, hn⟩⟩
        · exact ⟨h2'.1, .inr ⟨g, cap, cur, rfl, Nat.le_trans hB e2, rest⟩⟩
      · rcases h2'.2 with ⟨rfl, hn⟩ | ⟨g, cap, cur, rfl, e2, rest⟩
        · cases hq
        · have : g = q := by simpa [Value.ownBlock] using hq
          omega
    · by_cases hroom : n + m ≤ c
      · obtain ⟨v', w', h1', h2', h3', _⟩ := run_append_own (P := P) (w := w) B t u e i z sz by' ht hi hz hsize hby hzs hsz _ n cells hO a m d news hl (fun j u hu => hS.cell j u hu) h1 h63 hm hB
        refine hfin v' w' h1' h2' (by rw [← own_eq]; exact h3') (.inl ?_)
        rcases hO.2 with ⟨hbad, _⟩ | ⟨g', cap', cur, e1, e2, e3, e4, e5, e6, e7⟩
        · simp at hbad
        obtain ⟨rfl, _, rfl⟩ : g = g' ∧ n = n ∧ c = cap' := by simpa using e1
        subst hsize
        have hr := run_append_room (P := P) w t u e i ht hi g n c cur e3 a m d news hl (fun j u hu => hS.cell j u hu) h1 hroom (by rw [hl, e6, ← Nat.add_mul]; exact Nat.mul_le_mul_right _ hroom)
        rw [hr] at h1'
        injection h1' with hv _
        rw [← hv]
        rfl
      · obtain ⟨v', w', h1', h2', h3'⟩ := run_append_arg_grows (P := P) (w := w) t u e i z sz by' ht hi hz hsize hby hzs hsz ⟨g, 0, none⟩ n c cells hO.len (fun j u hu => by
          have := hO.src.cell j u hu
          exact this) a m d news hl (fun j u hu => hS.cell j u hu) (by omega) h63 hm
        refine hfin v' w' h1' ?_ (gr_any h3' _) (.inr fun q hq => ?_)
        · rcases h2'.2 with ⟨rfl, hn⟩ | ⟨g, cap, cur, rfl, e2, rest⟩
          · exact ⟨h2'.1, .inl ⟨rfl, hn⟩⟩
          · exact ⟨h2'.1, .inr ⟨g, cap, cur, rfl, Nat.le_trans hB e2, rest⟩⟩
        · rcases h2'.2 with ⟨rfl, hn⟩ | ⟨g, cap, cur, rfl, e2, rest⟩
          · cases hq
          · have : g = q := by simpa [Value.ownBlock] using hq
            omega
end
end Go.Sh

/- Rules that the call owns: appended. -/
set_option linter.unusedVariables false
set_option linter.unusedSimpArgs false
set_option maxRecDepth 100000
namespace Go.Sh
open Go
/-- The cells of a row of rules. -/
def RCells (cells : List Value) (rs : List RuleL) (ps : Nat → Option Addr × Nat) : Prop :=
  cells.length = rs.length * 2 ∧ ∀ j, j < rs.length → cells[j * 2]? = some (.int .i64 (rul rs j).1) ∧ cells[j * 2 + 1]? = some (.slice (ps j).1 (rul rs j).2.length (ps j).2)
def joinP (n : Nat) (ps qp : Nat → Option Addr × Nat) : Nat → Option Addr × Nat := fun i => if i < n then ps i else qp (i - n)
theorem rul_left {rs qs : List RuleL} {i : Nat} (h : i < rs.length) : rul (rs ++ qs) i = rul rs i := by
  simp [rul, List.getD_eq_getElem?_getD, List.getElem?_append_left h]
theorem rul_right {rs qs : List RuleL} {i : Nat} (h : rs.length ≤ i) : rul (rs ++ qs) i = rul qs (i - rs.length) := by
  simp [rul, List.getD_eq_getElem?_getD, List.getElem?_append_right h]
theorem RCells.append {cells news : List Value} {rs qs : List RuleL} {ps qp : Nat → Option Addr × Nat} (h : RCells cells rs ps) (g : RCells news qs qp) : RCells (cells ++ news) (rs ++ qs) (joinP rs.length ps qp) := by
  refine ⟨by rw [List.length_append, List.length_append, h.1, g.1, Nat.add_mul], fun j hj => ?_⟩
  have h1 := h.1
  by_cases hlt : j < rs.length
  · rw [List.getElem?_append_left (by omega), List.getElem?_append_left (by omega), rul_left hlt]
    simp only [joinP, hlt, if_true]
    exact h.2 j hlt
  · rw [List.getElem?_append_right (by omega), List.getElem?_append_right (by omega), rul_right (by omega), h1]
    simp only [joinP, hlt, if_false]
    have := g.2 (j - rs.length) (by rw [List.length_append] at hj; omega)
    rw [show j * 2 - rs.length * 2 = (j - rs.length) * 2 from by omega, show j * 2 + 1 - rs.length * 2 = (j - rs.length) * 2 + 1 from by omega]
    exact this
theorem RCells.one {cells : List Value} {rs : List RuleL} {ps : Nat → Option Addr × Nat} (h : RCells cells rs ps) : ∀ v ∈ cells, v.oneCell' = true := by
  intro v hv
  obtain ⟨k, hk, rfl⟩ := List.getElem_of_mem hv
  have hl := h.1
  obtain ⟨h1, h2⟩ := h.2 (k / 2) (by omega)
  rcases Nat.mod_two_eq_zero_or_one k with e | e
  · rw [show k / 2 * 2 = k from by omega, List.getElem?_eq_getElem hk] at h1
    rw [Option.some.inj h1]
    rfl
  · rw [show k / 2 * 2 + 1 = k from by omega, List.getElem?_eq_getElem hk] at h2
    rw [Option.some.inj h2]
    rfl
theorem OwnR.cells {e1 e2 : Nat} {w : World} {B : Nat} {X : Option Addr} {c : Nat} {rs : List RuleL} {ps : Nat → Option Addr × Nat} (h : OwnR e1 e2 w B X c rs ps) : ∃ cells, Row w B e1 2 X rs.length c cells ∧ RCells cells rs ps := by
  obtain ⟨cells, hr, hc⟩ := h.row
  exact ⟨cells, hr, hr.len, hc⟩
section
variable {P : Program} {S : WS} {k : Value → Prop}
end
/-- A box and a row of another type are different blocks. -/
theorem box_row {w : World} {b t B e sz n c : Nat} {cs xs : List Value} {X : Option Addr} (hb : Box w b cs t) (h : Row w B e sz X n c xs) (he : e ≠ t) : blk X ≠ some b := by
  intro hq
  rcases h.2 with h2 | ⟨q, cap, cur, e1, e2, e3, e4⟩
  · obtain ⟨rfl, _, _⟩ : X = none ∧ n = 0 ∧ c = 0 := by simpa using h2.1
    cases hq
  · obtain ⟨rfl, _, _⟩ : X = some ⟨q, 0, none⟩ ∧ n = n ∧ c = cap := by simpa using e1
    have : q = b := by simpa [blk] using hq
    subst this
    unfold Box at hb
    rw [hb] at e3
    simp at e3
    exact he e3.2.symm
theorem OwnR.put {e1 e2 : Nat} {w w' : World} {B b t : Nat} {X : Option Addr} {c : Nat} {rs : List RuleL} {ps : Nat → Option Addr × Nat} {cs : List Value} (h : OwnR e1 e2 w B X c rs ps) (hb : Box w b cs t) (h1 : e1 ≠ t) (h2 : e2 ≠ t) (g : w.grownBy w' (some b)) : OwnR e1 e2 w' B X c rs ps := by
  obtain ⟨⟨cells, hr, hc⟩, ho, ht⟩ := h
  exact ⟨⟨cells, Row.kept hr g (.inr (box_row hb hr h1)), hc⟩, fun j hj => Row.kept (ho j hj) g (.inr (box_row hb (ho j hj) h2)), ht⟩
section
variable {P : Program} {k : Value → World → Prop} {w : World}
end
theorem rng1 : Array.range 1 = #[0] := by decide
end Go.Sh
namespace Go.Proofs.Ytiohaeckagjebaa
open Go Go.Sh
end Go.Proofs.Ytiohaeckagjebaa

/- Bc: bodies of functions as terms of the frame calculus, printed by shgen.py of this repository. -/
set_option linter.unusedVariables false
set_option maxRecDepth 100000
namespace Go.Proofs.Ytiohaeckagjebaa
open Go Go.Sh

/-! loop.example/g00758/laws.FnExactStarOf -/
/-! loop.example/g00758/spec.StarOf -/
/-! loop.example/g00758/impl.StarOf -/
/-! loop.example/g00758/laws.markGrammar -/
def pl36 : Plans := fun _ => ⟨false, [], .nil⟩
def S36 (v0 v1 : Value) (k : Value → World → Prop) (w : World) : Prop :=
 Do Try.prog (sBox 37 v0) (fun t1 w2 =>
 Rd Try.prog (WS.at w2) (sFieldAddr 37 t1 2) fun t3 =>
 Rd Try.prog (WS.at w2) (sLoad 35 t3) fun t4 =>
 CallK Try.prog 88 [t4, v1] (fun t5 w6 =>
 k t5 w6) w2) w
theorem body36 : Try.f36.body = some (bodyOf Try.f36) := by kernel_rfl
theorem same36 (v0 v1 : Value) (k : Value → World → Prop) (w : World) : wpF Try.prog pl36 (bodyOf Try.f36) (bodyQ Try.prog Try.f36.results.toList k) (initF [v0, v1]) w = S36 v0 v1 k w := by kernel_rfl
theorem enter36 {v0 v1 : Value} {k : Value → World → Prop} {w : World} (h : S36 v0 v1 k w) : CallK Try.prog 36 [v0, v1] k w :=
  call_of_wpF (pl := pl36) mixed Try.func36 body36 (by kernel_rfl) (of_decide_eq_true (by kernel_rfl)) (by kernel_rfl) (by kernel_rfl) (same36 v0 v1 k w ▸ h)

/-! loop.example/g00758/laws.heldGrammar -/
/-! loop.example/g00758/spec.l20Made -/
/-! loop.example/g00758/impl.beside -/
/-! loop.example/g00758/laws.markRuleS -/
def pl88 : Plans := fun _ => ⟨false, [], .nil⟩
def S88 (v0 v1 : Value) (k : Value → World → Prop) (w : World) : Prop :=
 LoopF [6, 7, 8, 9, 12, 13, 14, 15, 16, 17, 18, 1, 19, 20, 21, 22, 23, 24, 25, 1, 10, 11, 5] (fun Q1 f2 w3 =>
  Rd Try.prog (WS.at w3) (sBuiltin .len #[35] 3 [false] [(f2 0)]) fun t4 =>
  Rd Try.prog (WS.at w3) (sBin .lss 3 false (f2 5) t4) fun t5 =>
  CondK t5
   (Rd Try.prog (WS.at w3) (sIndexAddr 35 (f2 0) (f2 5)) fun t6 =>
   Rd Try.prog (WS.at w3) (sFieldAddr 77 t6 0) fun t7 =>
   Do Try.prog (sStore 3 t7 (f2 1)) (fun _ w8 =>
   Rd Try.prog (WS.at w8) (sBin .add 3 true (f2 1) (.int .i64 1)) fun t9 =>
   Rd Try.prog (WS.at w8) (sIndexAddr 35 (f2 0) (f2 5)) fun t10 =>
   Rd Try.prog (WS.at w8) (sFieldAddr 77 t10 1) fun t11 =>
   Rd Try.prog (WS.at w8) (sLoad 22 t11) fun t12 =>
   CallK Try.prog 27 [t12, t9] (fun t13 w14 =>
   Rd Try.prog (WS.at w14) (sBin .add 3 true (f2 5) (.int .i64 1)) fun t15 =>
   Q1 .normal (F.upd (F.upd (F.upd (F.upd (F.upd (F.upd (F.upd (F.upd (F.upd (F.upd (F.upd (F.upd (F.upd (F.upd (F.upd (F.upd (F.upd (F.upd (F.upd (F.upd (F.upd (F.upd (F.upd f2 6 (f2 5)) 7 (f2 0)) 8 t4) 9 t5) 12 (f2 0)) 13 (f2 5)) 14 (f2 1)) 15 t6) 16 t7) 17 (f2 1)) 18 t9) 1 t9) 19 (f2 0)) 20 (f2 5)) 21 t10) 22 t11) 23 t12) 24 t9) 25 t13) 1 t13) 10 (f2 5)) 11 t15) 5 t15) w14) w8) w3)
   (Q1 (.exit 0) (F.upd (F.upd (F.upd (F.upd f2 6 (f2 5)) 7 (f2 0)) 8 t4) 9 t5) w3))
  (blockQ 0 (seqQ (fun f16 w17 =>
 k (f16 1) w17) (bodyQ Try.prog [.tmp 4] k)))
  (F.upd (F.upd (initF [v0, v1]) 4 (.int .i64 0)) 5 (.int .i64 0)) w
theorem body88 : Try.f88.body = some (bodyOf Try.f88) := by kernel_rfl
theorem same88 (v0 v1 : Value) (k : Value → World → Prop) (w : World) : wpF Try.prog pl88 (bodyOf Try.f88) (bodyQ Try.prog Try.f88.results.toList k) (initF [v0, v1]) w = S88 v0 v1 k w := by kernel_rfl
theorem enter88 {v0 v1 : Value} {k : Value → World → Prop} {w : World} (h : S88 v0 v1 k w) : CallK Try.prog 88 [v0, v1] k w :=
  call_of_wpF (pl := pl88) mixed Try.func88 body88 (by kernel_rfl) (of_decide_eq_true (by kernel_rfl)) (by kernel_rfl) (by kernel_rfl) (same88 v0 v1 k w ▸ h)

/-! loop.example/g00758/laws.heldRuleS -/
/-! loop.example/g00758/spec.l20Shift -/
/-! loop.example/g00758/impl.copyGrammar -/
end Go.Proofs.Ytiohaeckagjebaa

/- Contracts: marks in a grammar, and looks at them. -/
set_option linter.unusedVariables false
set_option linter.unusedSimpArgs false
set_option maxRecDepth 100000
namespace Go.Sh
open Go
def markAt (m : Int) (rs : List RuleL) (j : Nat) : RuleL := (m + sizeR (rs.take j), marks (m + sizeR (rs.take j) + 1) (rul rs j).2.length)
def markR (m : Int) (rs : List RuleL) : List RuleL := (List.range rs.length).map (markAt m rs)
theorem markR_length (m : Int) (rs : List RuleL) : (markR m rs).length = rs.length := by simp [markR]
theorem rul_markR {m : Int} {rs : List RuleL} {j : Nat} (h : j < rs.length) : rul (markR m rs) j = markAt m rs j := by
  rw [rul_eq (by rw [markR_length]; exact h)]
  simp [markR]
theorem sizeR_take {rs : List RuleL} {i : Nat} (h : i < rs.length) : sizeR (rs.take (i + 1)) = sizeR (rs.take i) + 1 + (rul rs i).2.length := by
  unfold sizeR
  rw [lens_take h]
  simp
  omega
theorem sizeR_le {rs : List RuleL} {i : Nat} : sizeR (rs.take i) ≤ sizeR rs := by
  unfold sizeR
  have := @lens_le rs i
  simp
  omega
/-- The left side of one rule is written. -/
theorem OwnR.left {e1 e2 : Nat} {w w' : World} {B c i : Nat} {X : Option Addr} {rs : List RuleL} {ps : Nat → Option Addr × Nat} {m : Int} {cells : List Value} (h : OwnR e1 e2 w B X c rs ps) (he : e1 ≠ e2) (hi : i < rs.length) (hc : RCells cells rs ps) (hr0 : Row w B e1 2 X rs.length c cells) (hr : Row w' B e1 2 X rs.length c (cells.set (i * 2) (.int .i64 m))) (g : w.grownBy w' (blk X)) : OwnR e1 e2 w' B X c (rs.set i (m, (rul rs i).2)) ps := by
  have hl := hc.1
  refine ⟨⟨_, by rw [List.length_set]; exact hr, fun j hj => ?_⟩, fun j hj => ?_, fun a b ha hb hab => ?_⟩
  · rw [List.length_set] at hj
    obtain ⟨h1, h2⟩ := hc.2 j hj
    rw [rul_set hi]
    by_cases hij : j = i
    · subst hij
      rw [if_pos rfl]
      exact ⟨by rw [List.getElem?_set_self (by omega)], by rw [List.getElem?_set_ne (by omega)]; exact h2⟩
    · rw [if_neg hij]
      exact ⟨by rw [List.getElem?_set_ne (by omega)]; exact h1, by rw [List.getElem?_set_ne (by omega)]; exact h2⟩
  · rw [List.length_set] at hj
    have := Row.kept (h.own j hj) g (row_ne (h.own j hj) hr0 (fun e => he e.symm))
    rw [rul_set hi]
    by_cases hij : j = i
    · subst hij
      rw [if_pos rfl]
      exact this
    · rw [if_neg hij]
      exact this
  · rw [List.length_set] at ha hb
    exact h.two a b ha hb hab
/-- The right side of one rule is written. -/
theorem OwnR.right {e1 e2 : Nat} {w w' : World} {B c i : Nat} {X : Option Addr} {rs : List RuleL} {ps : Nat → Option Addr × Nat} {ys : List Int} (h : OwnR e1 e2 w B X c rs ps) (he : e1 ≠ e2) (hi : i < rs.length) (hl : ys.length = (rul rs i).2.length) (ho : Own e2 w' B (ps i).1 (ps i).2 ys) (g : w.grownBy w' (blk (ps i).1)) : OwnR e1 e2 w' B X c (rs.set i ((rul rs i).1, ys)) ps := by
  obtain ⟨cells, hr, hc⟩ := h.cells
  refine ⟨⟨cells, by rw [List.length_set]; exact Row.kept hr g (row_ne hr (h.own i hi) he), fun j hj => ?_⟩, fun j hj => ?_, fun a b ha hb hab => ?_⟩
  · rw [List.length_set] at hj
    obtain ⟨h1, h2⟩ := hc.2 j hj
    rw [rul_set hi]
    by_cases hij : j = i
    · subst hij
      rw [if_pos rfl]
      exact ⟨h1, by rw [h2, hl]⟩
    · rw [if_neg hij]
      exact ⟨h1, h2⟩
  · rw [List.length_set] at hj
    rw [rul_set hi]
    by_cases hij : j = i
    · subst hij
      rw [if_pos rfl]
      exact ho
    · rw [if_neg hij]
      exact Row.kept (h.own j hj) g (h.two j i hj hi hij)
  · rw [List.length_set] at ha hb
    exact h.two a b ha hb hab
/-- The blocks of rules that the call owns. -/
def Foot (X : Option Addr) (ps : Nat → Option Addr × Nat) (n : Nat) (q : Nat) : Prop := blk X = some q ∨ ∃ l, l < n ∧ blk (ps l).1 = some q
theorem OwnR.foot {e1 e2 : Nat} {w : World} {B c : Nat} {X : Option Addr} {rs : List RuleL} {ps : Nat → Option Addr × Nat} (h : OwnR e1 e2 w B X c rs ps) {q : Nat} (hq : Foot X ps rs.length q) : B ≤ q ∧ q < w.heap.size := by
  rcases hq with hq | ⟨l, hl, hq⟩
  · obtain ⟨cells, hr, _⟩ := h.cells
    exact Row.ge hr hq
  · exact Row.ge (h.own l hl) hq
theorem rul_part {rs qs : List RuleL} {i : Nat} (hl : rs.length = qs.length) (h : i < qs.length) : rul (rs.take i ++ qs.drop i) i = rul qs i := by
  have : (rs.take i).length = i := by simp; omega
  rw [rul_right (by omega), this, Nat.sub_self]
  simp [rul, List.getD_eq_getElem?_getD]
end Go.Sh
namespace Go.Proofs.Ytiohaeckagjebaa
open Go Go.Sh Go.RowKit

theorem markRuleS_c {w : World} {B c n : Nat} {X : Option Addr} {rs : List RuleL} {ps : Nat → Option Addr × Nat} {m : Int} (hx : OwnR 77 3 w B X c rs ps) (hn : n = rs.length) (h0 : 0 ≤ m) (h1 : m + sizeR rs ≤ 9223372036854775807) {k : Value → World → Prop}
    (hk : ∀ w', Gx (Foot X ps rs.length) w w' → OwnR 77 3 w' B X c (markR m rs) ps → k (.int .i64 (m + sizeR rs)) w') : CallK Try.prog 88 [.slice X n c, .int .i64 m] k w := by
  subst hn
  refine enter88 ?_
  unfold S88
  refine ⟨fun f w' => ∃ i : Nat, i ≤ rs.length ∧ f 5 = .int .i64 i ∧ f 1 = .int .i64 (m + sizeR (rs.take i)) ∧ Gx (Foot X ps rs.length) w w' ∧ OwnR 77 3 w' B X c ((markR m rs).take i ++ rs.drop i) ps, fun f _ => rs.length - (intOf (f 5)).toNat,
    ⟨0, Nat.zero_le _, rfl, by simp [sizeR, lens]; rfl, Gx.refl _ w, by simpa using hx⟩, ?_⟩
  rintro f w2 hag ⟨i, hi, h5, hf1, g2, o2⟩
  have f0 : f 0 = .slice X rs.length c := hag 0 (by decide)
  have hlen : ((markR m rs).take i ++ rs.drop i).length = rs.length := by simp [markR_length]; omega
  have hcap := hx.read.le
  simp only [f0, hf1, h5, go_sem, Nat.reduceEqDiff]
  by_cases hlt : i < rs.length
  · have hlt' : (i : Int) < rs.length := by omega
    simp only [hlt', decide_true, go_sem, Nat.reduceEqDiff]
    have hsz := sizeR_take hlt
    have hsl := @sizeR_le rs (i + 1)
    obtain ⟨cells, hr, hc⟩ := o2.cells
    rw [hlen] at hr
    have hp : 0 < rs.length → X = some (ad X) := fun h => Row.ptr hr h
    rw [ixn35 hp hlt, fa77_0, add_zero']
    refine do_store_row sz3 rfl rfl hr (by omega) fun w3 g3 s3 hr3 => ?_
    have o3 := o2.left (w' := w3) (i := i) (m := m + sizeR (rs.take i)) (cells := cells) (by decide) (by omega) hc (by rw [hlen]; exact hr) (by rw [hlen]; exact hr3) g3
    rw [rul_part (markR_length _ _) hlt] at o3
    rw [i64_of (by omega) (by omega), ixn35 hp hlt, fa77_1, add_add]
    obtain ⟨cells3, hr3', hc3⟩ := o3.cells
    have hl3 : (((markR m rs).take i ++ rs.drop i).set i (m + sizeR (rs.take i), (rul rs i).2)).length = rs.length := by rw [List.length_set]; exact hlen
    have hrul3 : rul (((markR m rs).take i ++ rs.drop i).set i (m + sizeR (rs.take i), (rul rs i).2)) i = (m + sizeR (rs.take i), (rul rs i).2) := by rw [rul_set (by omega), if_pos rfl]
    obtain ⟨_, hc31⟩ := hc3.2 i (by omega)
    rw [hrul3] at hc31
    dsimp only at hc31
    rw [ld22 ((Row.src hr3').cell _ _ hc31)]
    have oi := o3.own i (by omega)
    rw [hrul3] at oi
    dsimp only at oi
    refine markIntS_c oi rfl (by omega) (by omega) fun w4 g4 o4 => ?_
    have o5 := o3.right (by decide) (by omega) (by rw [hrul3, marks_length]) o4 g4
    rw [hrul3, List.set_set] at o5
    have hset : ((markR m rs).take i ++ rs.drop i).set i (m + sizeR (rs.take i), marks (m + sizeR (rs.take i) + 1) (rul rs i).2.length) = (markR m rs).take (i + 1) ++ rs.drop (i + 1) := by
      have e : rul (markR m rs) i = (m + sizeR (rs.take i), marks (m + sizeR (rs.take i) + 1) (rul rs i).2.length) := rul_markR hlt
      rw [← e]
      exact set_rul hlt (markR_length _ _)
    rw [hset] at o5
    rw [i64_of (by omega) (by omega)]
    have hG3 : Gx (Foot X ps rs.length) w w3 := g2.after (gx_of g3 (D := fun q => blk X = some q) fun q hq => hq) fun q hq hl => .inl hq
    have hG4 : Gx (Foot X ps rs.length) w w4 := hG3.after (gx_of g4 (D := fun q => blk (ps i).1 = some q) fun q hq => hq) fun q hq hl => .inr ⟨i, hlt, hq⟩
    refine ⟨⟨i + 1, hlt, rfl, ?_, hG4, o5⟩, ?_⟩
    · rw [hsz]
      congr 1
      omega
    · simp only [intOf]
      omega
  · have hi' : i = rs.length := by omega
    subst hi'
    simp only [Int.lt_irrefl, decide_false, go_sem, Nat.reduceEqDiff]
    rw [List.take_length, List.drop_length, List.append_nil, List.take_of_length_le (by rw [markR_length]; exact Nat.le_refl _)] at *
    exact hk w2 g2 o2
theorem markGrammar_c {w : World} {B c n : Nat} {X : Option Addr} {ps : Nat → Option Addr × Nat} {gm : Gram} {m : Int} (ho : OwnR 77 3 w B X c gm.rules ps) (hn : n = gm.rules.length) (h0 : 0 ≤ m) (h1 : m + sizeR gm.rules ≤ 9223372036854775807) {k : Value → World → Prop}
    (hk : ∀ w', Gx (Foot X ps gm.rules.length) w w' → OwnR 77 3 w' B X c (markR m gm.rules) ps → k (.int .i64 (m + sizeR gm.rules)) w') : CallK Try.prog 36 [.agg #[.int .i64 gm.nons, .int .i64 gm.toks, .slice X n c], .int .i64 m] k w := by
  refine enter36 ?_
  unfold S36
  refine do_box fun b w1 g1 hb1 hB => ?_
  simp only [go_sem, Nat.reduceEqDiff]
  rw [ldB35 hB rfl]
  refine markRuleS_c (ho.gr g1) hn h0 h1 fun w2 g2 o2 => ?_
  exact hk w2 ((gx_of_gr g1 _).trans g2) o2
end Go.Proofs.Ytiohaeckagjebaa

/- Local state as a list of owned things that lie apart: what each operation does to it. -/
set_option linter.unusedVariables false
set_option linter.unusedSimpArgs false
set_option maxRecDepth 100000
namespace Go.Sh
open Go
/-- What is owned: a fact of the world, and the blocks that it lies in. -/
structure Thing where
  P : World → Prop
  ft : Nat → Prop
structure Thing.Ok (it : Thing) (w0 w : World) : Prop where
  lo : ∀ q, it.ft q → w0.heap.size ≤ q
  hi : ∀ q, it.ft q → q < w.heap.size
  kept : ∀ w', (∀ q, it.ft q → w'.heap[q]? = w.heap[q]?) → it.P w'
theorem Thing.Ok.step {it : Thing} {w0 w w' : World} (h : it.Ok w0 w) (hs : w.heap.size ≤ w'.heap.size) (hb : ∀ q, it.ft q → w'.heap[q]? = w.heap[q]?) : it.Ok w0 w' :=
  ⟨h.lo, fun q hq => Nat.lt_of_lt_of_le (h.hi q hq) hs, fun w'' h'' => h.kept w'' fun q hq => (h'' q hq).trans (hb q hq)⟩
/-- Things that lie apart, all of them younger than w0; nothing else has changed since w0. -/
structure Apt (w0 w : World) (L : List Thing) : Prop where
  gr : Gr w0 w
  ok : ∀ (i : Nat) (it : Thing), L[i]? = some it → it.Ok w0 w
  two : ∀ (i j : Nat) (a b : Thing), i ≠ j → L[i]? = some a → L[j]? = some b → ∀ q, a.ft q → ¬ b.ft q
theorem get_snoc {L : List Thing} {x a : Thing} {i : Nat} (h : (L ++ [x])[i]? = some a) : L[i]? = some a ∨ (i = L.length ∧ a = x) := by
  by_cases hi : i < L.length
  · rw [List.getElem?_append_left hi] at h
    exact .inl h
  · rw [List.getElem?_append_right (by omega)] at h
    have : i - L.length = 0 := by
      have := (List.getElem?_eq_some_iff.1 h).1
      simpa using this
    rw [this] at h
    refine .inr ⟨by omega, ?_⟩
    simpa using h.symm
theorem get_lt {L : List Thing} {a : Thing} {i : Nat} (h : L[i]? = some a) : i < L.length := (List.getElem?_eq_some_iff.1 h).1
theorem get_set {L : List Thing} {x a : Thing} {i j : Nat} (h : (L.set i x)[j]? = some a) : (j = i ∧ a = x) ∨ (j ≠ i ∧ L[j]? = some a) := by
  rw [List.getElem?_set] at h
  by_cases hij : i = j
  · rw [if_pos hij] at h
    split at h
    · exact .inl ⟨hij.symm, by simpa using h.symm⟩
    · cases h
  · rw [if_neg hij] at h
    exact .inr ⟨fun e => hij e.symm, h⟩
theorem Apt.nil (w : World) : Apt w w [] := ⟨Gr.refl w, fun i it h => by simp at h, fun i j a b _ h => by simp at h⟩
theorem Apt.step {w0 w w' : World} {L : List Thing} (H : Apt w0 w L) (g : Gr w w') : Apt w0 w' L :=
  ⟨gr_trans H.gr g, fun i it hi => (H.ok i it hi).step g.size fun q hq => g.block q ((H.ok i it hi).hi q hq) (by simp), H.two⟩
theorem Apt.drew {w0 w : World} {L : List Thing} (H : Apt w0 w L) : Apt w0 w.drew L := H.step (gr_drew w)
theorem Apt.get {w0 w : World} {L : List Thing} (H : Apt w0 w L) (i : Nat) {it : Thing} (hi : L[i]? = some it) : it.P w := (H.ok i it hi).kept w fun _ _ => rfl
theorem Apt.add {w0 w w' : World} {L : List Thing} (H : Apt w0 w L) (g : Gr w w') (it : Thing) (lo : ∀ q, it.ft q → w.heap.size ≤ q) (hi : ∀ q, it.ft q → q < w'.heap.size) (kept : ∀ w'', (∀ q, it.ft q → w''.heap[q]? = w'.heap[q]?) → it.P w'') : Apt w0 w' (L ++ [it]) := by
  have H' := H.step g
  refine ⟨H'.gr, fun i a ha => ?_, fun i j a b hij ha hb q hq hq' => ?_⟩
  · rcases get_snoc ha with h | ⟨_, rfl⟩
    · exact H'.ok i a h
    · exact ⟨fun q hq => Nat.le_trans H.gr.size (lo q hq), hi, kept⟩
  · rcases get_snoc ha with h | ⟨e, rfl⟩ <;> rcases get_snoc hb with h' | ⟨e', rfl⟩
    · exact H.two i j a b hij h h' q hq hq'
    · have := (H.ok i a h).hi q hq
      have := lo q hq'
      omega
    · have := (H.ok j b h').hi q hq'
      have := lo q hq
      omega
    · exact hij (e.trans e'.symm)
theorem Apt.set {w0 w w' : World} {L : List Thing} (H : Apt w0 w L) {i : Nat} {it it' : Thing} (hi : L[i]? = some it) (g : Gx it.ft w w') (lo : ∀ q, it'.ft q → it.ft q ∨ w.heap.size ≤ q) (hh : ∀ q, it'.ft q → q < w'.heap.size) (kept : ∀ w'', (∀ q, it'.ft q → w''.heap[q]? = w'.heap[q]?) → it'.P w'') : Apt w0 w' (L.set i it') := by
  have hit := H.ok i it hi
  have hsz := H.gr.size
  refine ⟨Gx.gr_after H.gr g fun q hq => hit.lo q hq, fun j a ha => ?_, fun j l a b hjl ha hb q hq hq' => ?_⟩
  · rcases get_set ha with ⟨rfl, rfl⟩ | ⟨hj, h⟩
    · refine ⟨fun q hq => ?_, hh, kept⟩
      rcases lo q hq with h | h
      · exact hit.lo q h
      · omega
    · have := H.ok j a h
      exact this.step g.size fun q hq => g.block q (this.hi q hq) fun hq' => H.two j i a it hj h hi q hq hq'
  · rcases get_set ha with ⟨rfl, rfl⟩ | ⟨hj, h⟩ <;> rcases get_set hb with ⟨rfl, rfl⟩ | ⟨hl, h'⟩
    · exact hjl rfl
    · rcases lo q hq with h2 | h2
      · exact H.two _ _ _ _ (fun e => hl e.symm) hi h' q h2 hq'
      · have := (H.ok l b h').hi q hq'
        omega
    · rcases lo q hq' with h2 | h2
      · exact H.two _ _ _ _ hj h hi q hq h2
      · have := (H.ok j a h).hi q hq
        omega
    · exact H.two j l a b hjl h h' q hq hq'
/-- Some of the things alone, in another order. -/
theorem Apt.pick {w0 w : World} {L L' : List Thing} (H : Apt w0 w L) (m : Nat → Nat) (h : ∀ i a, L'[i]? = some a → L[m i]? = some a) (hm : ∀ i j, i < L'.length → j < L'.length → m i = m j → i = j) : Apt w0 w L' :=
  ⟨H.gr, fun i a ha => H.ok _ a (h i a ha), fun i j a b hij ha hb => H.two _ _ a b (fun e => hij (hm i j (get_lt ha) (get_lt hb) e)) (h i a ha) (h j b hb)⟩
theorem Apt.take {w0 w : World} {L : List Thing} (H : Apt w0 w L) (n : Nat) : Apt w0 w (L.take n) := by
  have h : ∀ (i : Nat) (a : Thing), (L.take n)[i]? = some a → L[i]? = some a := fun i a ha => by
    rw [List.getElem?_take] at ha
    split at ha
    · exact ha
    · cases ha
  exact ⟨H.gr, fun i a ha => H.ok i a (h i a ha), fun i j a b hij ha hb => H.two i j a b hij (h i a ha) (h j b hb)⟩

/-- Things of a later stretch beside those of an earlier one. -/
theorem Apt.append {w0 w1 w2 : World} {L M : List Thing} (H : Apt w0 w1 L) (G : Apt w1 w2 M) : Apt w0 w2 (L ++ M) := by
  have H' := H.step G.gr
  have get : ∀ (i : Nat) (a : Thing), (L ++ M)[i]? = some a → (i < L.length ∧ L[i]? = some a) ∨ (L.length ≤ i ∧ M[i - L.length]? = some a) := fun i a ha => by
    by_cases h : i < L.length
    · rw [List.getElem?_append_left h] at ha
      exact .inl ⟨h, ha⟩
    · rw [List.getElem?_append_right (by omega)] at ha
      exact .inr ⟨by omega, ha⟩
  refine ⟨H'.gr, fun i a ha => ?_, fun i j a b hij ha hb q hq hq' => ?_⟩
  · rcases get i a ha with ⟨_, h⟩ | ⟨_, h⟩
    · exact H'.ok i a h
    · have := G.ok _ a h
      exact ⟨fun q hq => Nat.le_trans H.gr.size (this.lo q hq), this.hi, this.kept⟩
  · rcases get i a ha with ⟨h1, h⟩ | ⟨h1, h⟩ <;> rcases get j b hb with ⟨h2, h'⟩ | ⟨h2, h'⟩
    · exact H.two i j a b hij h h' q hq hq'
    · have := (H.ok i a h).hi q hq
      have := (G.ok _ b h').lo q hq'
      omega
    · have := (H.ok j b h').hi q hq'
      have := (G.ok _ a h).lo q hq
      omega
    · exact G.two _ _ a b (by omega) h h' q hq hq'
/-- A join: what holds at each way out. -/
theorem join_as {b : (F → World → Prop) → Prop} {n : F → World → Prop} (C : F → World → Prop) (hb : ∀ K, (∀ f w, C f w → K f w) → b K) (hn : ∀ f w, C f w → n f w) : Join b n := hb n hn
/-! ### Things -/
theorem Row.same {w w' : World} {B e sz n c : Nat} {X : Option Addr} {cells : List Value} (h : Row w B e sz X n c cells) (hs : ∀ q, blk X = some q → w'.heap[q]? = w.heap[q]?) : Row w' B e sz X n c cells := by
  obtain ⟨hl, h2⟩ := h
  refine ⟨hl, ?_⟩
  rcases h2 with h2 | ⟨q, cap, cur, e1, e2, e3, e4⟩
  · exact .inl h2
  · refine .inr ⟨q, cap, cur, e1, e2, ?_, e4⟩
    obtain ⟨rfl, _, _⟩ : X = some ⟨q, 0, none⟩ ∧ n = n ∧ c = cap := by simpa using e1
    rw [hs q rfl]
    exact e3
theorem Row.up {w : World} {B B' e sz n c : Nat} {X : Option Addr} {cells : List Value} (h : Row w B e sz X n c cells) (hb : ∀ q, blk X = some q → B' ≤ q) : Row w B' e sz X n c cells := by
  obtain ⟨hl, h2⟩ := h
  refine ⟨hl, ?_⟩
  rcases h2 with h2 | ⟨q, cap, cur, e1, e2, e3⟩
  · exact .inl h2
  · obtain ⟨rfl, _, _⟩ : X = some ⟨q, 0, none⟩ ∧ n = n ∧ c = cap := by simpa using e1
    exact .inr ⟨q, cap, cur, e1, hb q rfl, e3⟩
theorem OwnR.same {e1 e2 : Nat} {w w' : World} {B : Nat} {X : Option Addr} {c : Nat} {rs : List RuleL} {ps : Nat → Option Addr × Nat} (h : OwnR e1 e2 w B X c rs ps) (hs : ∀ q, Foot X ps rs.length q → w'.heap[q]? = w.heap[q]?) : OwnR e1 e2 w' B X c rs ps := by
  obtain ⟨⟨cells, hr, hc⟩, ho, ht⟩ := h
  exact ⟨⟨cells, hr.same fun q hq => hs q (.inl hq), hc⟩, fun j hj => Row.same (ho j hj) fun q hq => hs q (.inr ⟨j, hj, hq⟩), ht⟩
theorem OwnR.up {e1 e2 : Nat} {w : World} {B B' : Nat} {X : Option Addr} {c : Nat} {rs : List RuleL} {ps : Nat → Option Addr × Nat} (h : OwnR e1 e2 w B X c rs ps) (hs : ∀ q, Foot X ps rs.length q → B' ≤ q) : OwnR e1 e2 w B' X c rs ps := by
  obtain ⟨⟨cells, hr, hc⟩, ho, ht⟩ := h
  exact ⟨⟨cells, hr.up fun q hq => hs q (.inl hq), hc⟩, fun j hj => Row.up (ho j hj) fun q hq => hs q (.inr ⟨j, hj, hq⟩), ht⟩
def bx (b : Nat) (cs : List Value) (t : TypeId) : Thing := ⟨fun w => Box w b cs t, fun q => q = b⟩
def rwi (e sz : Nat) (X : Option Addr) (n c : Nat) (cells : List Value) : Thing := ⟨fun w => Row w 0 e sz X n c cells, fun q => blk X = some q⟩
def rls (e1 e2 : Nat) (X : Option Addr) (c : Nat) (rs : List RuleL) (ps : Nat → Option Addr × Nat) : Thing := ⟨fun w => OwnR e1 e2 w 0 X c rs ps, Foot X ps rs.length⟩
theorem bx_kept {w : World} {b t : Nat} {cs : List Value} (h : Box w b cs t) : ∀ w', (∀ q, (bx b cs t).ft q → w'.heap[q]? = w.heap[q]?) → (bx b cs t).P w' := fun w' hq => (hq b rfl).trans h
theorem rwi_kept {w : World} {B e sz n c : Nat} {X : Option Addr} {cells : List Value} (h : Row w B e sz X n c cells) : ∀ w', (∀ q, (rwi e sz X n c cells).ft q → w'.heap[q]? = w.heap[q]?) → (rwi e sz X n c cells).P w' := fun w' hq => (Row.mono h (Nat.zero_le B)).same hq
theorem rls_kept {w : World} {B e1 e2 c : Nat} {X : Option Addr} {rs : List RuleL} {ps : Nat → Option Addr × Nat} (h : OwnR e1 e2 w B X c rs ps) : ∀ w', (∀ q, (rls e1 e2 X c rs ps).ft q → w'.heap[q]? = w.heap[q]?) → (rls e1 e2 X c rs ps).P w' := fun w' hq => (h.mono (Nat.zero_le B)).same hq
section
variable {w0 w w' : World} {L : List Thing}
theorem Apt.box (H : Apt w0 w L) (i : Nat) {b t : Nat} {cs : List Value} (hi : L[i]? = some (bx b cs t)) : Box w b cs t := H.get i hi
theorem Apt.row (H : Apt w0 w L) (i : Nat) {e sz n c : Nat} {X : Option Addr} {cells : List Value} (hi : L[i]? = some (rwi e sz X n c cells)) : Row w w0.heap.size e sz X n c cells := Row.up (H.get i hi) (H.ok i _ hi).lo
theorem Apt.rules (H : Apt w0 w L) (i : Nat) {e1 e2 c : Nat} {X : Option Addr} {rs : List RuleL} {ps : Nat → Option Addr × Nat} (hi : L[i]? = some (rls e1 e2 X c rs ps)) : OwnR e1 e2 w w0.heap.size X c rs ps := OwnR.up (H.get i hi) (H.ok i _ hi).lo
theorem Apt.addBox (H : Apt w0 w L) (g : Gr w w') {b t : Nat} {cs : List Value} (hb : w.heap.size ≤ b) (h : Box w' b cs t) : Apt w0 w' (L ++ [bx b cs t]) := H.add g _ (fun q hq => (show q = b from hq) ▸ hb) (fun q hq => (show q = b from hq) ▸ h.lt) (bx_kept h)
theorem Apt.addRow (H : Apt w0 w L) (g : Gr w w') {e sz n c : Nat} {X : Option Addr} {cells : List Value} (h : Row w' w.heap.size e sz X n c cells) : Apt w0 w' (L ++ [rwi e sz X n c cells]) := H.add g _ (fun q hq => (Row.ge h hq).1) (fun q hq => (Row.ge h hq).2) (rwi_kept h)
theorem Apt.addRules (H : Apt w0 w L) (g : Gr w w') {e1 e2 c : Nat} {X : Option Addr} {rs : List RuleL} {ps : Nat → Option Addr × Nat} (h : OwnR e1 e2 w' w.heap.size X c rs ps) : Apt w0 w' (L ++ [rls e1 e2 X c rs ps]) := H.add g _ (fun q hq => (h.foot hq).1) (fun q hq => (h.foot hq).2) (rls_kept h)
end
/-! ### Loops -/
/-- A loop over a state of the prover's own that counts down. -/
theorem loop_ghost {σ : Type} {W : List Nat} {body : (Exit → F → World → Prop) → F → World → Prop} {Q : Exit → F → World → Prop} {f0 : F} {w0 : World} (J : σ → F → World → Prop) (m : σ → Nat) (s0 : σ) (h0 : J s0 f0 w0)
    (h : ∀ s f w (N : F → World → Prop), Agree W f0 f → J s f w → (∀ s' f' w', J s' f' w' → m s' < m s → N f' w') → body (seqQ N Q) f w) : LoopF W body Q f0 w0 := by
  classical
  have hm : ∃ μ : F → World → Nat, (∀ f w s, J s f w → μ f w ≤ m s) ∧ ∀ f w, (∃ s, J s f w) → ∃ s, J s f w ∧ m s = μ f w := by
    have key : ∀ f w, ∃ n, (∀ s, J s f w → n ≤ m s) ∧ ((∃ s, J s f w) → ∃ s, J s f w ∧ m s = n) := fun f w => by
      by_cases hx : ∃ s, J s f w
      · have : ∃ n, ∃ s, J s f w ∧ m s = n := by
          obtain ⟨s, hs⟩ := hx
          exact ⟨_, s, hs, rfl⟩
        have ind : ∀ n, (∃ s, J s f w ∧ m s = n) → ∃ n, (∀ s, J s f w → n ≤ m s) ∧ ∃ s, J s f w ∧ m s = n := by
          intro n
          induction n using Nat.strongRecOn with
          | _ n ih =>
            intro hn
            by_cases hlt : ∃ s, J s f w ∧ m s < n
            · obtain ⟨s, hs, hl⟩ := hlt
              exact ih _ hl ⟨s, hs, rfl⟩
            · exact ⟨n, fun s hs => Classical.byContradiction fun hc => hlt ⟨s, hs, by omega⟩, hn⟩
        obtain ⟨n, hn⟩ := this
        obtain ⟨n', h1, h2⟩ := ind n hn
        exact ⟨n', h1, fun _ => h2⟩
      · exact ⟨0, fun s hs => absurd ⟨s, hs⟩ hx, fun e => absurd e hx⟩
    exact ⟨fun f w => Classical.choose (key f w), fun f w s hs => (Classical.choose_spec (key f w)).1 s hs, fun f w hx => (Classical.choose_spec (key f w)).2 hx⟩
  obtain ⟨μ, hμ1, hμ2⟩ := hm
  refine ⟨fun f w => ∃ s, J s f w, μ, ⟨s0, h0⟩, fun f w hag hx => ?_⟩
  obtain ⟨s, hs, hms⟩ := hμ2 f w hx
  refine h s f w _ hag hs fun s' f' w' hs' hlt => ⟨⟨s', hs'⟩, ?_⟩
  have := hμ1 f' w' s' hs'
  omega
/-- A loop that counts up to n. -/
theorem loop_to {W : List Nat} {body : (Exit → F → World → Prop) → F → World → Prop} {Q : Exit → F → World → Prop} {f0 : F} {w0 : World} (n a : Nat) (J : Nat → F → World → Prop) (h0 : J a f0 w0)
    (h : ∀ i f w (N : F → World → Prop), Agree W f0 f → J i f w → (∀ f' w', i < n → J (i + 1) f' w' → N f' w') → body (seqQ N Q) f w) : LoopF W body Q f0 w0 :=
  loop_ghost J (fun i => n - i) a h0 fun i f w N hag hJ hN => by
    by_cases hlt : i < n
    · exact h i f w N hag hJ fun f' w' _ hJ' => hN (i + 1) f' w' hJ' (by omega)
    · exact h i f w N hag hJ fun f' w' hlt' _ => absurd hlt' hlt
theorem rdi {A B : Prop} (e : A = B) (h : B) : A := e ▸ h
theorem all_one {vs : List Value} (h : vs.all Value.oneCell' = true) : ∀ v ∈ vs, v.oneCell' = true := fun v hv => List.all_eq_true.1 h v hv
section
variable {P : Program} {k : Value → World → Prop} {w0 w : World} {L : List Thing}
theorem boxH (H : Apt w0 w L) {t : TypeId} {v : Value} (h : ∀ b w', Apt w0 w' (L ++ [bx b v.cells.toList t]) → k (.pointer (some ⟨b, 0, none⟩)) w') : Do P (sBox t v) k w :=
  do_box fun b w' g hb hB => h b w' (H.addBox g hb hB)
theorem allocH (H : Apt w0 w L) {t sz by' : Nat} {z : Value} (I : Inf P t z sz by') (h : ∀ b w', Apt w0 w' (L ++ [bx b z.cells.toList t]) → k (.pointer (some ⟨b, 0, none⟩)) w') : Do P (sAlloc t) k w :=
  do_alloc_of I fun b w' g hb hB => h b w' (H.addBox g hb hB)
theorem storeH (H : Apt w0 w L) (i : Nat) {b e : Nat} {cs : List Value} (hi : L[i]? = some (bx b cs e)) {t n off : Nat} {v : Value} (hs : szOf P t n) (hv : v.cells.size = n) (h1 : v.cells.toList.all Value.oneCell' = true) (hl : Nat.ble (off + n) cs.length = true)
    (h : ∀ w', Apt w0 w' (L.set i (bx b (cs.take off ++ v.cells.toList ++ cs.drop (off + n)) e)) → k undef w') : Do P (sStore t (.pointer (some ⟨b, off, none⟩)) v) k w :=
  do_store hs hv (all_one h1) (H.box i hi) (Nat.le_of_ble_eq_true hl) fun w' g hsz hb => h w' (H.set hi (gx_of g fun q hq => by cases hq; rfl) (fun q hq => .inl hq) (fun q hq => (show q = b from hq) ▸ hb.lt) (bx_kept hb))
theorem appendH (H : Apt w0 w L) (i : Nat) {t e u sz by' n c m d : Nat} {X Y : Option Addr} {cells news : List Value} {z : Value} (hi : L[i]? = some (rwi e sz X n c cells)) (ht : P.underlying t = some (.slice e)) (I : Inf P e z sz by') (hzs : z.cells.size = sz) (hsz : 0 < sz)
    {cs : List Bool} (hS : Src w Y news) (hl : news.length = m * sz) (h1 : ∀ v ∈ news, v.oneCell' = true) (hm : (n + m) * by' ≤ 140737488355328) (hmax : n + m ≤ 9223372036854775807)
    (h : ∀ X' c' w', Apt w0 w' (L.set i (rwi e sz X' (n + m) c' (cells ++ news))) → k (.slice X' (n + m) c') w') : Do P (sBuiltin .append #[t, t] u cs [.slice X n c, .slice Y m d]) k w :=
  do_append2 ht I hzs hsz (H.row i hi) hS hl h1 hm hmax H.gr.size fun X' c' w' hr hg hmv => h X' c' w' (H.set hi (gx_of hg fun q hq => hq) (fun q hq => by
    rcases hmv with e | e
    · exact .inl (show blk X = some q from e ▸ (show blk X' = some q from hq))
    · exact .inr (e q hq)) (fun q hq => (Row.ge hr hq).2) (rwi_kept hr))
theorem makeH (H : Apt w0 w L) {t e sz by' : Nat} {z : Value} (ht : P.underlying t = some (.slice e)) (I : Inf P e z sz by') {kl kc : IntKind} {n : Nat} (hm : by' * n ≤ 281474976710656) (hmax : n ≤ 9223372036854775807)
    (h : ∀ b w', Apt w0 w' (L ++ [rwi e sz (some ⟨b, 0, none⟩) n n (madeCells z.cells (n * sz)).toList]) → k (.slice (some ⟨b, 0, none⟩) n n) w') : Do P (sMakeSlice t (.int kl n) (.int kc n)) k w :=
  do_make_of ht I hm hmax fun b w' hb hb' g hr => h b w' (H.addRow g (hr _ (Nat.le_refl _)))
theorem buildH (H : Apt w0 w L) {t e sz by' n : Nat} {z : Value} (ht : P.underlying t = some (.slice e)) (I : Inf P e z sz by') {ps : List (Nat × Value)} (cells : List Value) (hn : n * sz ≤ 16777216) (hn' : n ≤ 9223372036854775807)
    (hf : Instr.fill (fun j => some (j * sz, sz)) (madeCells (if n * sz = 0 then #[] else z.cells) (n * sz)) ps = some cells.toArray) (hl : cells.length = n * sz)
    (h : ∀ b w', Apt w0 w' (L ++ [rwi e sz (some ⟨b, 0, none⟩) n n cells]) → k (.slice (some ⟨b, 0, none⟩) n n) w') : Do P (sBuildSlice t n ps) k w :=
  do_build_of ht I hn hn' hf hl fun b w' hb hb' g hB hr => h b w' (H.addRow g (hr _ (Nat.le_refl _)))
end
section
variable {P : Program} {k : Value → Prop}
theorem rdG {w : World} {h : Gr w w} {t off b e : Nat} {cs : List Value} {v : Value} (ht : one P t) (hb : Box w b cs e) (hc : cs[off]? = some v) : Rd P ⟨fun w' => Gr w w', w, h⟩ (sLoad t (.pointer (some ⟨b, off, none⟩))) k = k v :=
  rd_load1 ht fun w' hw => ((hb.gr hw).cell off).trans hc
theorem rdG_agg {w : World} {h : Gr w w} {t b e n : Nat} {cs : List Value} (ht : agg P t) (hs : szOf P t n) (hn : cs.length = n) (hb : Box w b cs e) : Rd P ⟨fun w' => Gr w w', w, h⟩ (sLoad t (.pointer (some ⟨b, 0, none⟩))) k = k (.agg cs.toArray) :=
  rd_loadAgg ht hs hn fun w' hw j hj => by
    rw [add_plain, Nat.zero_add, (hb.gr hw).cell]
    exact List.getElem?_eq_getElem hj
end
theorem rls_gramV {e1 e2 : Nat} {w : World} {B c : Nat} {X : Option Addr} {ps : Nat → Option Addr × Nat} {gm : Gram} (h : OwnR e1 e2 w B X c gm.rules ps) : GramV (fun _ => True) w (.agg #[.int .i64 gm.nons, .int .i64 gm.toks, .slice X gm.rules.length c]) gm := by
  obtain ⟨cells, hr, _⟩ := h.cells
  exact ⟨X, c, rfl, (Row.cap hr).1, h.read.mono fun _ _ => trivial⟩
end Go.Sh
namespace Go.Proofs.Ytiohaeckagjebaa
open Go Go.Sh Go.RowKit
def ows (X : Option Addr) (c : Nat) (xs : List Int) : Thing := rwi 3 1 X xs.length c (ints xs)
section
variable {k : Value → World → Prop} {w0 w w' : World} {L : List Thing}
theorem _root_.Go.Sh.Apt.own (H : Apt w0 w L) (i : Nat) {c : Nat} {X : Option Addr} {xs : List Int} (hi : L[i]? = some (ows X c xs)) : Own 3 w w0.heap.size X c xs := H.row i hi
theorem _root_.Go.Sh.Apt.ints (H : Apt w0 w L) (i : Nat) {c : Nat} {X : Option Addr} {xs : List Int} (hi : L[i]? = some (ows X c xs)) : Ints w X xs := Own.ints (H.own i hi)
theorem _root_.Go.Sh.Apt.addOwn (H : Apt w0 w L) (g : Gr w w') {c : Nat} {X : Option Addr} {xs : List Int} (h : Own 3 w' w.heap.size X c xs) : Apt w0 w' (L ++ [ows X c xs]) := H.addRow g h
/-- append of numbers to numbers. -/
theorem apH (H : Apt w0 w L) (i : Nat) {u n c m d : Nat} {X Y : Option Addr} {xs ys : List Int} (hi : L[i]? = some (ows X c xs)) {cs : List Bool} (hY : Ints w Y ys) (hn : n = xs.length) (hm : m = ys.length) (hb : (xs.length + ys.length) * 8 ≤ 140737488355328)
    (h : ∀ X' c' w', Apt w0 w' (L.set i (ows X' c' (xs ++ ys))) → k (.slice X' (xs ++ ys).length c') w') : Do Try.prog (sBuiltin .append #[22, 22] u cs [.slice X n c, .slice Y m d]) k w := by
  subst hn
  subst hm
  refine appendH H i hi u22 inf3 rfl (by decide) hY.src (by rw [ints_length, Nat.mul_one]) (ints_one ys) hb (by omega) fun X' c' w' H' => ?_
  rw [← ints_append, ← List.length_append] at H'
  rw [← List.length_append]
  exact h X' c' w' H'
/-- append of one number. -/
theorem pushH {k : Value → Value → World → Prop} (H : Apt w0 w L) (i : Nat) {u n c : Nat} {X : Option Addr} {xs : List Int} {x : Int} (hi : L[i]? = some (ows X c xs)) {cs : List Bool} (hn : n = xs.length) (hb : xs.length ≤ 1000000000)
    (h : ∀ t X' c' w', Apt w0 w' (L.set i (ows X' c' (xs ++ [x]))) → k t (.slice X' (xs ++ [x]).length c') w') : Do Try.prog (sBuildSlice 22 1 [(0, .int .i64 x)]) (fun t w1 => Do Try.prog (sBuiltin .append #[22, 22] u cs [.slice X n c, t]) (k t) w1) w := by
  refine bs22 [.int .i64 x] (by decide) (by simp [Instr.fill, madeCells, Value.cells, rng1]) rfl fun b w1 hb1 hb2 g hB hr => ?_
  refine apH (H.step g) i hi (ys := [x]) (Own.ints (show Own 3 w1 w.heap.size (some ⟨b, 0, none⟩) 1 [x] from hr _ (Nat.le_refl _))) hn rfl (by simp; omega) fun X' c' w' H' => h _ X' c' w' H'
end
end Go.Proofs.Ytiohaeckagjebaa

/- Contracts of what PumpWord reaches. -/
set_option linter.unusedVariables false
set_option linter.unusedSimpArgs false
set_option maxRecDepth 100000
namespace Go.Sh
open Go
structure Cuts (cs : List Int) (n : Nat) : Prop where
  len : cs.length = 4
  lo : 0 ≤ cs.getD 0 0
  h01 : cs.getD 0 0 ≤ cs.getD 1 0
  h12 : cs.getD 1 0 ≤ cs.getD 2 0
  h23 : cs.getD 2 0 ≤ cs.getD 3 0
  hi : cs.getD 3 0 ≤ n
instance (cs : List Int) (n : Nat) : Decidable (Cuts cs n) :=
  decidable_of_iff (cs.length = 4 ∧ 0 ≤ cs.getD 0 0 ∧ cs.getD 0 0 ≤ cs.getD 1 0 ∧ cs.getD 1 0 ≤ cs.getD 2 0 ∧ cs.getD 2 0 ≤ cs.getD 3 0 ∧ cs.getD 3 0 ≤ n)
    ⟨fun ⟨a, b, c, d, e, f⟩ => ⟨a, b, c, d, e, f⟩, fun h => ⟨h.len, h.lo, h.h01, h.h12, h.h23, h.hi⟩⟩
end Go.Sh
namespace Go.Proofs.Ytiohaeckagjebaa
open Go Go.Sh Go.RowKit

theorem l1Own_c {w : World} {X : Option Addr} {c n : Nat} {xs : List Int} (hx : Ints w X xs) (hn : n = xs.length) (hb : xs.length * 8 ≤ 140737488355328) {k : Value → World → Prop}
    (hk : ∀ X' c' w', Gr w w' → Own 3 w' w.heap.size X' c' xs → k (.slice X' xs.length c') w') : CallK Try.prog 116 [.slice X n c] k w := by
  subst hn
  refine enter116 ?_
  unfold S116
  refine bs22 [] (by decide) (by simp [Instr.fill, madeCells]) rfl fun b w1 hb1 hb2 hg hbox hrow => ?_
  refine ap22 (hrow _ (Nat.le_refl _)) (hx.gr hg).src (by rw [ints_length, Nat.mul_one]) (ints_one xs) (by omega) hg.size fun X' c' w2 hr hg2 => ?_
  rw [Nat.zero_add] at hr ⊢
  exact hk X' c' w2 (gr_mod hg hg2 fun q hq => by simp [blk] at hq; omega) hr

end Go.Proofs.Ytiohaeckagjebaa

/- Contracts of what PumpWord reaches, second part. -/
set_option linter.unusedVariables false
set_option linter.unusedSimpArgs false
set_option maxRecDepth 100000
namespace Go.Sh
open Go
end Go.Sh
namespace Go.Proofs.Ytiohaeckagjebaa
open Go Go.Sh Go.RowKit

/-- A function value that tells of a number, in whatever world has grown. -/
def Pred (t : Nat) (fv : Value) (p : Int → Bool) (w : World) : Prop := ∀ w1, Gr w w1 → ∀ (x : Int) (k : Value → World → Prop), (∀ w2, Gr w1 w2 → k (.bool (p x)) w2) → Do Try.prog (sCallV fv [.int .i64 x] t) k w1
theorem indexFunc_c {w : World} {X : Option Addr} {c : Nat} {xs : List Int} {fv : Value} {p : Int → Bool} (hx : Ints w X xs) (hp : Pred 4 fv p w) {k : Value → World → Prop}
    (hk : ∀ (r : Int) w', Gr w w' → decide (0 ≤ r) = xs.any p → (0 ≤ r → r < xs.length ∧ p (xs.getD r.toNat 0) = true ∧ ∀ j : Nat, j < r → p (xs.getD j 0) = false) → k (.int .i64 r) w') :
    CallK Try.prog 171 [.slice X xs.length c, fv] k w := by
  refine enter171 ?_
  unfold S171
  simp only [go_sem, Nat.reduceEqDiff]
  refine ⟨fun f w' => ∃ i : Nat, i ≤ xs.length ∧ f 8 = .int .i64 i ∧ Gr w w' ∧ ∀ j, j < i → p (xs.getD j 0) = false, fun f _ => xs.length - (intOf (f 8)).toNat, ⟨0, Nat.zero_le _, rfl, Gr.refl w, fun j hj => absurd hj (Nat.not_lt_zero j)⟩, ?_⟩
  rintro f w1 hag ⟨i, hi, h8, hg, hpre⟩
  have f0 : f 0 = .slice X xs.length c := hag 0 (by decide)
  have f1 : f 1 = fv := hag 1 (by decide)
  have f7 : f 7 = .int .i64 xs.length := hag 7 (by decide)
  simp only [f0, f1, f7, h8, go_sem, Nat.reduceEqDiff]
  by_cases hlt : i < xs.length
  · have hlt' : (i : Int) < xs.length := by omega
    have := hx.le
    simp only [hlt', decide_true, go_sem, Nat.reduceEqDiff]
    rw [ixn22 hx.ptr hlt, ld3 ((hx.gr hg).cell i hlt)]
    refine hp w1 hg _ _ fun w2 g2 => ?_
    have g2' := gr_trans hg g2
    cases hb : p (xs.getD i 0)
    · simp only [go_sem, Nat.reduceEqDiff]
      rw [i64_of (by omega) (by omega)]
      refine ⟨⟨i + 1, hlt, rfl, g2', fun j hj => ?_⟩, ?_⟩
      · rcases Nat.lt_succ_iff_lt_or_eq.1 hj with h | rfl
        · exact hpre j h
        · exact hb
      · simp only [intOf]
        omega
    · simp only [go_sem, Nat.reduceEqDiff]
      refine hk i w2 g2' ?_ fun _ => ⟨hlt', hb, fun j hj => hpre j (by omega)⟩
      rw [decide_eq_true (by omega), eq_comm, List.any_eq_true]
      exact ⟨_, getD_mem hlt, hb⟩
  · simp only [show ¬ (i : Int) < xs.length from by omega, decide_false, go_sem, Nat.reduceEqDiff]
    refine hk (-1) w1 hg ?_ fun h => absurd h (by decide)
    rw [decide_eq_false (by decide), eq_comm, List.any_eq_false]
    intro x hx'
    obtain ⟨j, hj, rfl⟩ := List.getElem_of_mem hx'
    have := hpre j (by omega)
    rw [List.getD_eq_getElem?_getD, List.getElem?_eq_getElem hj] at this
    simpa using this
theorem containsFunc_c {w : World} {X : Option Addr} {c : Nat} {xs : List Int} {fv : Value} {p : Int → Bool} (hx : Ints w X xs) (hp : Pred 4 fv p w) {k : Value → World → Prop}
    (hk : ∀ w', Gr w w' → k (.bool (xs.any p)) w') : CallK Try.prog 129 [.slice X xs.length c, fv] k w := by
  refine enter129 ?_
  unfold S129
  refine indexFunc_c hx hp fun r w' g h _ => ?_
  simp only [go_sem, Nat.reduceEqDiff]
  rw [h]
  exact hk w' g
end Go.Proofs.Ytiohaeckagjebaa

/- Contracts: what a good grammar is, by the reference and by the program. -/
set_option linter.unusedVariables false
set_option linter.unusedSimpArgs false
set_option maxRecDepth 100000
namespace Go.Sh
open Go
def symB (nons toks s : Int) : Bool := inB s (-toks) (nons - 1)
def goodR (nons toks : Int) (rs : List RuleL) (i : Nat) : Bool :=
  inB (rul rs i).1 0 (nons - 1) && decide ((rul rs i).2.length ≤ 4) && (rul rs i).2.all (symB nons toks) && !(rs.take i).any fun q => decide (rul rs i = q)
def goodG (g : Gram) : Bool := inB g.nons 1 6 && inB g.toks 1 4 && decide (g.rules.length ≤ 16) && (List.range g.rules.length).all (goodR g.nons g.toks g.rules)
theorem range_all {n : Nat} {p : Nat → Bool} (h : ∀ j, j < n → p j = true) : (List.range n).all p = true := by
  rw [List.all_eq_true]
  intro x hx
  exact h x (List.mem_range.1 hx)
theorem range_not {n i : Nat} {p : Nat → Bool} (hi : i < n) (h : p i = false) : (List.range n).all p = false := by
  rw [List.all_eq_false]
  exact ⟨i, List.mem_range.2 hi, by rw [h]; decide⟩
theorem any_of_rul {rs : List RuleL} {p : RuleL → Bool} {i : Nat} (hi : i < rs.length) (h : p (rul rs i) = true) : rs.any p = true := by
  rw [List.any_eq_true]
  exact ⟨_, by rw [rul_eq hi]; exact List.getElem_mem hi, h⟩
theorem any_none_rul {rs : List RuleL} {p : RuleL → Bool} (h : ∀ j, j < rs.length → p (rul rs j) = false) : rs.any p = false := by
  rw [List.any_eq_false]
  intro x hx
  obtain ⟨j, hj, rfl⟩ := List.getElem_of_mem hx
  have := h j hj
  rw [rul_eq hj] at this
  simp [this]
theorem sub_zero (Y : Option Addr) (c sz : Nat) : sub Y 0 c sz = Y := by
  unfold sub
  split
  · rfl
  · cases Y <;> simp [add_zero']
theorem RulesF.take {F : Nat → Prop} {w : World} {X : Option Addr} {rs : List RuleL} (h : RulesF F w X rs) (i : Nat) : RulesF F w X (rs.take i) := by
  have hl : (rs.take i).length ≤ rs.length := by simp; omega
  refine ⟨by have := h.le; omega, fun hp => h.ptr (by omega), fun hp => h.foot (by omega), fun j hj => ?_⟩
  have hji : j < i := by simp at hj; omega
  rw [rul_take hji]
  exact h.row j (by omega)
end Go.Sh
namespace Go.Proofs.Ytiohaeckagjebaa
open Go Go.Sh Go.RowKit

theorem l1Symbol_c {F : Nat → Prop} {w : World} {v : Value} {gm : Gram} {s : Int} (hv : GramV F w v gm) (hn : inB gm.nons 1 6 = true) (ht : inB gm.toks 1 4 = true) {k : Value → World → Prop} (hk : ∀ w', Gr w w' → k (.bool (symB gm.nons gm.toks s)) w') :
    CallK Try.prog 132 [v, .int .i64 s] k w := by
  obtain ⟨Y, c, rfl, hc, hy⟩ := hv
  have hn' : 1 ≤ gm.nons ∧ gm.nons ≤ 6 := by simpa [inB] using hn
  have ht' : 1 ≤ gm.toks ∧ gm.toks ≤ 4 := by simpa [inB] using ht
  refine enter132 ?_
  unfold S132
  refine do_box fun b w1 g1 hb1 hB => ?_
  simp only [go_sem, Nat.reduceEqDiff]
  rw [ldB3 hB rfl]
  simp only [go_sem, Nat.reduceEqDiff]
  rw [ldB3 hB rfl]
  simp only [go_sem, Nat.reduceEqDiff]
  rw [i64_of (by omega) (by omega), i64_of (by omega) (by omega)]
  exact l1In_c (hk _ g1)
theorem l1Same_c {w : World} {X Y : Option Addr} {c d : Nat} {xs ys : List Int} (hx : Ints w X xs) (hy : Ints w Y ys) {k : Value → World → Prop} (hk : ∀ w', Gr w w' → k (.bool (decide (xs = ys))) w') :
    CallK Try.prog 173 [.slice X xs.length c, .slice Y ys.length d] k w := by
  refine enter173 ?_
  unfold S173
  simp only [go_sem, Nat.reduceEqDiff]
  by_cases hl : xs.length = ys.length
  rotate_left
  · simp only [Int.ofNat_inj, hl, decide_false, Bool.not_false, go_sem, Nat.reduceEqDiff]
    have := hk _ (Gr.refl w)
    rwa [decide_eq_false (fun e => hl (by rw [e]))] at this
  simp only [Int.ofNat_inj, hl, decide_true, Bool.not_true, go_sem, Nat.reduceEqDiff]
  rw [← hl]
  refine ⟨fun f w' => ∃ i : Nat, i ≤ xs.length ∧ f 13 = .int .i64 i ∧ Gr w w' ∧ xs.take i = ys.take i, fun f _ => xs.length - (intOf (f 13)).toNat, ⟨0, Nat.zero_le _, rfl, Gr.refl w, rfl⟩, ?_⟩
  rintro f w1 hag ⟨i, hi, h13, hg, hpre⟩
  have h0 : f 0 = .slice X xs.length c := hag 0 (by decide)
  have h1 : f 1 = .slice Y xs.length d := hag 1 (by decide)
  have h12 : f 12 = .int .i64 xs.length := hag 12 (by decide)
  simp only [h0, h1, h12, h13, go_sem, Nat.reduceEqDiff]
  by_cases hlt : i < xs.length
  · have hlt' : (i : Int) < xs.length := by omega
    have := hx.le
    simp only [hlt', decide_true, go_sem, Nat.reduceEqDiff]
    rw [ixn22 hx.ptr hlt, ld3 ((hx.gr (gr_trans hg (gr_drew w1))).cell i hlt), ixn22 (hl ▸ hy.ptr) hlt, ld3 ((hy.gr (gr_trans hg (gr_drew w1))).cell i (by omega))]
    simp only [go_sem, Nat.reduceEqDiff]
    by_cases he : xs.getD i 0 = ys.getD i 0
    · simp only [he, decide_true, Bool.not_true, go_sem, Nat.reduceEqDiff]
      rw [i64_of (by omega) (by omega)]
      refine ⟨⟨i + 1, hlt, rfl, gr_trans hg (gr_drew w1), ?_⟩, ?_⟩
      · rw [take_snoc hlt, take_snoc (by omega), hpre, he]
      · simp only [intOf]
        omega
    · simp only [he, decide_false, Bool.not_false, go_sem, Nat.reduceEqDiff]
      have := hk _ (gr_trans hg (gr_drew w1))
      rwa [decide_eq_false (fun e => he (by rw [e]))] at this
  · simp only [show ¬ (i : Int) < xs.length from by omega, decide_false, go_sem, Nat.reduceEqDiff]
    have := hk _ hg
    rwa [decide_eq_true] at this
    rwa [List.take_of_length_le (by omega), List.take_of_length_le (by omega)] at hpre
theorem l1SameRule_c {F E : Nat → Prop} {w : World} {v u : Value} {r q : RuleL} (hv : RuleV F w v r) (hu : RuleV E w u q) {k : Value → World → Prop} (hk : ∀ w', Gr w w' → k (.bool (decide (r = q))) w') :
    CallK Try.prog 133 [v, u] k w := by
  obtain ⟨Y, c, rfl, hc, hy⟩ := hv
  obtain ⟨Z, d, rfl, hd, hz⟩ := hu
  refine enter133 ?_
  unfold S133
  refine do_box fun b w1 g1 hb1 hb => ?_
  refine do_box fun b' w2 g2 hb2 hb' => ?_
  have hb := hb.gr g2
  have g := gr_trans g1 g2
  simp only [go_sem, Nat.reduceEqDiff]
  rw [ldB3 hb rfl, ldB3 hb' rfl]
  simp only [go_sem, Nat.reduceEqDiff]
  by_cases h : r.1 = q.1
  · simp only [h, decide_true, go_sem, Nat.reduceEqDiff]
    rw [ldB22 hb rfl]
    rw [ldB22 hb' rfl]
    refine l1Same_c (hy.is.gr g) (hz.is.gr g) fun w3 g3 => ?_
    have := hk w3 (gr_trans g g3)
    by_cases h2 : r.2 = q.2
    · simp only [h2, decide_true, go_sem, Nat.reduceEqDiff]
      rwa [decide_eq_true (Prod.ext h h2)] at this
    · simp only [h2, decide_false, go_sem, Nat.reduceEqDiff]
      rwa [decide_eq_false (fun e => h2 (by rw [e]))] at this
  · simp only [h, decide_false, go_sem, Nat.reduceEqDiff]
    have := hk w2 g
    rwa [decide_eq_false (fun e => h (by rw [e]))] at this
theorem goodGrammar_c {F : Nat → Prop} {w : World} {v : Value} {gm : Gram} (hv : GramV F w v gm) {k : Value → World → Prop} (hk : ∀ w', Gr w w' → k (.bool (goodG gm)) w') :
    CallK Try.prog 81 [v] k w := by
  have hv0 := hv
  obtain ⟨Y, c, rfl, hc, hy⟩ := hv
  refine enter81 ?_
  unfold S81
  refine do_box fun b w1 g1 hb1 hB => ?_
  simp only [go_sem, Nat.reduceEqDiff]
  rw [ldB3 hB rfl]
  refine l1In_c ?_
  cases hn : inB gm.nons 1 6
  · simp only [Bool.not_false, go_sem, Nat.reduceEqDiff]
    have := hk _ g1
    rwa [show goodG gm = false from by simp [goodG, hn]] at this
  simp only [Bool.not_true, go_sem, Nat.reduceEqDiff]
  rw [ldB3 hB rfl]
  refine l1In_c ?_
  cases ht : inB gm.toks 1 4
  · simp only [Bool.not_false, go_sem, Nat.reduceEqDiff]
    have := hk _ g1
    rwa [show goodG gm = false from by simp [goodG, ht]] at this
  simp only [Bool.not_true, go_sem, Nat.reduceEqDiff]
  rw [ldB35 hB rfl]
  simp only [go_sem, Nat.reduceEqDiff]
  by_cases hl : gm.rules.length ≤ 16
  rotate_left
  · simp only [show (16 : Int) < gm.rules.length from by omega, decide_true, go_sem, Nat.reduceEqDiff]
    have := hk _ g1
    rwa [show goodG gm = false from by simp [goodG, hl]] at this
  simp only [show ¬ (16 : Int) < gm.rules.length from by omega, decide_false, go_sem, Nat.reduceEqDiff]
  rw [ldB35 hB rfl]
  simp only [go_sem, Nat.reduceEqDiff]
  have hn' : 1 ≤ gm.nons ∧ gm.nons ≤ 6 := by simpa [inB] using hn
  have ht' : 1 ≤ gm.toks ∧ gm.toks ≤ 4 := by simpa [inB] using ht
  refine ⟨fun f w' => ∃ i : Nat, i ≤ gm.rules.length ∧ f 28 = .int .i64 i ∧ Gr w1 w' ∧ ∀ j, j < i → goodR gm.nons gm.toks gm.rules j = true, fun f _ => gm.rules.length - (intOf (f 28)).toNat, ⟨0, Nat.zero_le _, rfl, Gr.refl w1, fun j hj => absurd hj (Nat.not_lt_zero j)⟩, ?_⟩
  rintro f w2 hag ⟨i, hi, h28, g2, hpre⟩
  have f1 : f 1 = .pointer (some ⟨b, 0, none⟩) := hag 1 (by decide)
  have f26 : f 26 = .slice Y gm.rules.length c := hag 26 (by decide)
  have f27 : f 27 = .int .i64 gm.rules.length := hag 27 (by decide)
  simp only [f1, f26, f27, h28, go_sem, Nat.reduceEqDiff]
  by_cases hlt : i < gm.rules.length
  · have hlt' : (i : Int) < gm.rules.length := by omega
    simp only [hlt', decide_true, go_sem, Nat.reduceEqDiff]
    have g := gr_trans g1 g2
    rw [ixn35 hy.ptr hlt]
    refine ld_rule agg77 sz77 (hy.gr g) hlt fun v hv => ?_
    obtain ⟨Z, d, rfl, hd, hz⟩ := hv
    refine do_alloc_of inf77 fun b3 w3 g3 hb3 h3 => ?_
    have n3 := (hB.gr g2).ne hb3
    refine do_store sz77 rfl (by intro u hu; simp [Value.cells] at hu; rcases hu with rfl | rfl <;> rfl) h3 (by simp [Value.cells]) fun w4 g4 s4 h4 => ?_
    have hB2 := (hB.gr (gr_trans g2 g3)).put g4 n3
    have g' := gr_put (gr_trans g g3) g4 (Nat.le_trans g.size hb3)
    have k0 : goodR gm.nons gm.toks gm.rules i = false → ∀ w', Gr w w' → k (.bool false) w' := fun h w' gw => by
      have := hk w' gw
      rwa [show goodG gm = false from by simp only [goodG, range_not hlt h, Bool.and_false]] at this
    simp only [go_sem, Nat.reduceEqDiff]
    rw [ldB3 h4 rfl, ldB3 hB2 rfl]
    simp only [go_sem, Nat.reduceEqDiff]
    rw [i64_of (by omega) (by omega)]
    refine l1In_c ?_
    cases hr : inB (rul gm.rules i).1 0 (gm.nons - 1)
    · simp only [Bool.not_false, go_sem, Nat.reduceEqDiff]
      exact k0 (by simp [goodR, hr]) _ g'
    simp only [Bool.not_true, go_sem, Nat.reduceEqDiff]
    rw [ldB22 h4 rfl]
    simp only [go_sem, Nat.reduceEqDiff]
    by_cases h5 : (rul gm.rules i).2.length ≤ 4
    rotate_left
    · simp only [show (4 : Int) < (rul gm.rules i).2.length from by omega, decide_true, go_sem, Nat.reduceEqDiff]
      exact k0 (by simp [goodR, h5]) _ g'
    simp only [show ¬ (4 : Int) < (rul gm.rules i).2.length from by omega, decide_false, go_sem, Nat.reduceEqDiff]
    rw [ldB22 h4 rfl]
    simp only [go_sem, Nat.reduceEqDiff]
    refine ⟨fun f' w' => ∃ j : Nat, j ≤ (rul gm.rules i).2.length ∧ f' 49 = .int .i64 j ∧ Gr w4 w' ∧ ∀ l, l < j → symB gm.nons gm.toks ((rul gm.rules i).2.getD l 0) = true, fun f' _ => (rul gm.rules i).2.length - (intOf (f' 49)).toNat, ⟨0, Nat.zero_le _, rfl, Gr.refl w4, fun j hj => absurd hj (Nat.not_lt_zero j)⟩, ?_⟩
    rintro f' w5 hag' ⟨j, hj, h49, g5, hpre'⟩
    have e1 : f' 1 = .pointer (some ⟨b, 0, none⟩) := (hag' 1 (by decide)).trans f1
    have e3 : f' 3 = .int .i64 i := hag' 3 (by decide)
    have e4 : f' 4 = .pointer (some ⟨b3, 0, none⟩) := hag' 4 (by decide)
    have e28 : f' 28 = .int .i64 i := (hag' 28 (by decide)).trans h28
    have e47 : f' 47 = .slice Z (rul gm.rules i).2.length d := hag' 47 (by decide)
    have e48 : f' 48 = .int .i64 (rul gm.rules i).2.length := hag' 48 (by decide)
    have gw5 := gr_trans g' g5
    have gw45 : Gr w2 w5 := gr_trans (gr_put g3 g4 hb3) g5
    simp only [e1, e47, e48, h49, go_sem, Nat.reduceEqDiff]
    by_cases hlt2 : j < (rul gm.rules i).2.length
    · have hlt2' : (j : Int) < (rul gm.rules i).2.length := by omega
      simp only [hlt2', decide_true, go_sem, Nat.reduceEqDiff]
      rw [ixn22 hz.is.ptr hlt2, ld3 ((hz.is.gr gw45).cell j hlt2), ldB_agg agg37 sz37 rfl (hB2.gr g5)]
      refine l1Symbol_c (gm := gm) ⟨Y, c, rfl, hc, hy.gr gw5⟩ hn ht fun w6 g6 => ?_
      simp only [go_sem, Nat.reduceEqDiff]
      cases hs : symB gm.nons gm.toks ((rul gm.rules i).2.getD j 0)
      · simp only [Bool.not_false, go_sem, Nat.reduceEqDiff]
        exact k0 (by simp only [goodR, not_all_of hlt2 hs, Bool.and_false, Bool.false_and]) _ (gr_trans gw5 g6)
      · simp only [Bool.not_true, go_sem, Nat.reduceEqDiff]
        rw [i64_of (by omega) (by omega)]
        refine ⟨⟨j + 1, hlt2, rfl, gr_trans g5 g6, fun l hl => ?_⟩, ?_⟩
        · rcases Nat.lt_succ_iff_lt_or_eq.1 hl with h | rfl
          · exact hpre' l h
          · exact hs
        · simp only [intOf]
          omega
    simp only [show ¬ (j : Int) < (rul gm.rules i).2.length from by omega, decide_false, go_sem, Nat.reduceEqDiff]
    have hall : (rul gm.rules i).2.all (symB gm.nons gm.toks) = true := all_of fun l hl => hpre' l (by omega)
    simp only [e1, e3, go_sem, Nat.reduceEqDiff]
    rw [ldB35 (hB2.gr g5) rfl]
    rw [slh35 (by omega) (by omega), sub_zero]
    simp only [Int.toNat_natCast, go_sem, Nat.reduceEqDiff]
    have hti : (gm.rules.take i).length = i := by simp; omega
    have hyt : RulesF F w5 Y (gm.rules.take i) := (hy.gr gw5).take i
    refine ⟨fun f' w' => ∃ j : Nat, j ≤ i ∧ f' 63 = .int .i64 j ∧ Gr w5 w' ∧ ∀ l, l < j → decide (rul gm.rules i = rul gm.rules l) = false, fun f' _ => i - (intOf (f' 63)).toNat, ⟨0, Nat.zero_le _, rfl, Gr.refl w5, fun j hj => absurd hj (Nat.not_lt_zero j)⟩, ?_⟩
    rintro f2 w6 hag2 ⟨m, hm, h63, g6, hpre2⟩
    have d4 : f2 4 = .pointer (some ⟨b3, 0, none⟩) := (hag2 4 (by decide)).trans e4
    have d28 : f2 28 = .int .i64 i := (hag2 28 (by decide)).trans e28
    have d61 : f2 61 = .slice Y i c := hag2 61 (by decide)
    have d62 : f2 62 = .int .i64 i := hag2 62 (by decide)
    have gw6 := gr_trans gw5 g6
    simp only [d4, d28, d61, d62, h63, go_sem, Nat.reduceEqDiff]
    by_cases hlt3 : m < i
    · have hlt3' : (m : Int) < i := by omega
      simp only [hlt3', decide_true, go_sem, Nat.reduceEqDiff]
      rw [ixn35 (fun _ => hy.ptr (by omega)) hlt3]
      refine ld_rule agg77 sz77 (hy.gr gw6) (show m < gm.rules.length by omega) fun v hv => ?_
      obtain ⟨Z', d', rfl, hd', hz'⟩ := hv
      refine do_alloc_of inf77 fun b7 w7 g7 hb7 h7 => ?_
      have h46 := (h4.gr (gr_trans g5 g6))
      have n7 := h46.ne hb7
      have h47 := h46.gr g7
      refine do_store sz77 rfl (by intro u hu; simp [Value.cells] at hu; rcases hu with rfl | rfl <;> rfl) h7 (by simp [Value.cells]) fun w8 g8 s8 h8 => ?_
      have h48 := h47.put g8 n7
      have gw8 := gr_put (gr_trans gw6 g7) g8 (Nat.le_trans gw6.size hb7)
      have g58 := gr_put (gr_trans g6 g7) g8 (Nat.le_trans g6.size hb7)
      rw [ldB_agg agg77 sz77 rfl h48, ldB_agg agg77 sz77 rfl h8]
      refine l1SameRule_c (r := rul gm.rules i) (q := rul gm.rules m) (F := F) (E := F) ⟨Z, d, rfl, hd, hz.gr (gr_trans gw45 g58)⟩ ⟨Z', d', rfl, hd', hz'.gr (gr_put g7 g8 hb7)⟩ fun w9 g9 => ?_
      by_cases he : rul gm.rules i = rul gm.rules m
      · simp only [he, decide_true, go_sem, Nat.reduceEqDiff]
        refine k0 ?_ _ (gr_trans gw8 g9)
        have : (gm.rules.take i).any (fun q => decide (rul gm.rules i = q)) = true := any_of_rul (i := m) (by omega) (by rw [rul_take hlt3]; exact decide_eq_true he)
        simp only [goodR, this, Bool.not_true, Bool.and_false]
      · simp only [he, decide_false, go_sem, Nat.reduceEqDiff]
        rw [i64_of (by omega) (by omega)]
        refine ⟨⟨m + 1, hlt3, rfl, gr_trans g58 g9, fun l hl => ?_⟩, ?_⟩
        · rcases Nat.lt_succ_iff_lt_or_eq.1 hl with h | rfl
          · exact hpre2 l h
          · exact decide_eq_false he
        · simp only [intOf]
          omega
    · simp only [show ¬ (m : Int) < i from by omega, decide_false, go_sem, Nat.reduceEqDiff]
      rw [i64_of (by omega) (by omega)]
      refine ⟨⟨i + 1, hlt, rfl, gr_trans (gr_trans g2 gw45) g6, fun l hl => ?_⟩, ?_⟩
      · rcases Nat.lt_succ_iff_lt_or_eq.1 hl with h | rfl
        · exact hpre l h
        · have : (gm.rules.take l).any (fun q => decide (rul gm.rules l = q)) = false := any_none_rul fun m' hm' => by
            rw [rul_take (by omega)]
            exact hpre2 m' (by omega)
          simp only [goodR, hr, h5, hall, this, decide_true, Bool.not_false, Bool.and_self]
      · simp only [intOf]
        omega
  · simp only [show ¬ (i : Int) < gm.rules.length from by omega, decide_false, go_sem, Nat.reduceEqDiff]
    have := hk _ (gr_trans g1 g2)
    rwa [show goodG gm = true from by simp only [goodG, hn, ht, hl, decide_true, Bool.true_and]; exact range_all fun j hj => hpre j (by omega)] at this
end Go.Proofs.Ytiohaeckagjebaa

/- Contracts: the program's own check of a grammar. -/
set_option linter.unusedVariables false
set_option linter.unusedSimpArgs false
set_option maxRecDepth 100000
namespace Go.Proofs.Ytiohaeckagjebaa
open Go Go.Sh Go.RowKit

/-- A function value that tells of a rule, in whatever world has grown. -/
def PredR (t : Nat) (fv : Value) (p : RuleL → Bool) (w : World) : Prop := ∀ w1, Gr w w1 → ∀ (E : Nat → Prop) (v : Value) (r : RuleL), RuleV E w1 v r → ∀ (k : Value → World → Prop), (∀ w2, Gr w1 w2 → k (.bool (p r)) w2) → Do Try.prog (sCallV fv [v] t) k w1
theorem indexFuncR_c {F : Nat → Prop} {w : World} {X : Option Addr} {c : Nat} {rs : List RuleL} {fv : Value} {p : RuleL → Bool} (hx : RulesF F w X rs) (hp : PredR 4 fv p w) {k : Value → World → Prop}
    (hk : ∀ (r : Int) w', Gr w w' → decide (0 ≤ r) = rs.any p → k (.int .i64 r) w') :
    CallK Try.prog 176 [.slice X rs.length c, fv] k w := by
  refine enter176 ?_
  unfold S176
  simp only [go_sem, Nat.reduceEqDiff]
  refine ⟨fun f w' => ∃ i : Nat, i ≤ rs.length ∧ f 8 = .int .i64 i ∧ Gr w w' ∧ ∀ j, j < i → p (rul rs j) = false, fun f _ => rs.length - (intOf (f 8)).toNat, ⟨0, Nat.zero_le _, rfl, Gr.refl w, fun j hj => absurd hj (Nat.not_lt_zero j)⟩, ?_⟩
  rintro f w1 hag ⟨i, hi, h8, hg, hpre⟩
  have f0 : f 0 = .slice X rs.length c := hag 0 (by decide)
  have f1 : f 1 = fv := hag 1 (by decide)
  have f7 : f 7 = .int .i64 rs.length := hag 7 (by decide)
  simp only [f0, f1, f7, h8, go_sem, Nat.reduceEqDiff]
  by_cases hlt : i < rs.length
  · have hlt' : (i : Int) < rs.length := by omega
    have := hx.le
    simp only [hlt', decide_true, go_sem, Nat.reduceEqDiff]
    rw [ixn35 hx.ptr hlt]
    refine ld_rule agg77 sz77 (hx.gr hg) hlt fun v hv => ?_
    refine hp w1 hg _ _ _ hv _ fun w2 g2 => ?_
    have g2' := gr_trans hg g2
    cases hb : p (rul rs i)
    · simp only [go_sem, Nat.reduceEqDiff]
      rw [i64_of (by omega) (by omega)]
      refine ⟨⟨i + 1, hlt, rfl, g2', fun j hj => ?_⟩, ?_⟩
      · rcases Nat.lt_succ_iff_lt_or_eq.1 hj with h | rfl
        · exact hpre j h
        · exact hb
      · simp only [intOf]
        omega
    · simp only [go_sem, Nat.reduceEqDiff]
      refine hk i w2 g2' ?_
      rw [decide_eq_true (by omega), any_of_rul hlt hb]
  · simp only [show ¬ (i : Int) < rs.length from by omega, decide_false, go_sem, Nat.reduceEqDiff]
    refine hk (-1) w1 hg ?_
    rw [decide_eq_false (by decide), any_none_rul fun j hj => hpre j (by omega)]
theorem containsFuncR_c {F : Nat → Prop} {w : World} {X : Option Addr} {c : Nat} {rs : List RuleL} {fv : Value} {p : RuleL → Bool} (hx : RulesF F w X rs) (hp : PredR 4 fv p w) {k : Value → World → Prop}
    (hk : ∀ w', Gr w w' → k (.bool (rs.any p)) w') : CallK Try.prog 136 [.slice X rs.length c, fv] k w := by
  refine enter136 ?_
  unfold S136
  refine indexFuncR_c hx hp fun r w' g h => ?_
  simp only [go_sem, Nat.reduceEqDiff]
  rw [h]
  exact hk w' g
theorem isSymbol_c {w : World} {s n t : Int} (hn : inB n 1 6 = true) (ht : inB t 1 4 = true) {k : Value → World → Prop} (hk : k (.bool (symB n t s)) w) : CallK Try.prog 175 [.int .i64 s, .int .i64 n, .int .i64 t] k w := by
  have hn' : 1 ≤ n ∧ n ≤ 6 := by simpa [inB] using hn
  have ht' : 1 ≤ t ∧ t ≤ 4 := by simpa [inB] using ht
  refine enter175 ?_
  unfold S175
  simp only [go_sem, Nat.reduceEqDiff]
  rw [i64_of (by omega) (by omega), i64_of (by omega) (by omega)]
  exact in_c hk
theorem areSymbols1_c {w : World} {b b' e e' : Nat} {s n t : Int} (hB : Box w b [.int .i64 n] e) (hB' : Box w b' [.int .i64 t] e') (hn : inB n 1 6 = true) (ht : inB t 1 4 = true) {k : Value → World → Prop} (hk : k (.bool (!symB n t s)) w) :
    CallK Try.prog 174 [.int .i64 s, .pointer (some ⟨b, 0, none⟩), .pointer (some ⟨b', 0, none⟩)] k w := by
  refine enter174 ?_
  unfold S174
  rw [ldB3 hB rfl, ldB3 hB' rfl]
  refine isSymbol_c hn ht ?_
  simp only [go_sem, Nat.reduceEqDiff]
  exact hk
theorem areSymbols_c {w : World} {X : Option Addr} {c : Nat} {xs : List Int} {n t : Int} (hx : Ints w X xs) (hn : inB n 1 6 = true) (ht : inB t 1 4 = true) {k : Value → World → Prop} (hk : ∀ w', Gr w w' → k (.bool (xs.all (symB n t))) w') :
    CallK Try.prog 135 [.slice X xs.length c, .int .i64 n, .int .i64 t] k w := by
  refine enter135 ?_
  unfold S135
  refine do_box fun b w1 g1 hb1 hB => ?_
  refine do_box fun b' w2 g2 hb2 hB' => ?_
  have hB := hB.gr g2
  simp only [go_sem, Nat.reduceEqDiff]
  have hp : Pred 4 (.func (.func 174) [].toArray [.pointer (some ⟨b, 0, none⟩), .pointer (some ⟨b', 0, none⟩)].toArray) (fun x => !symB n t x) w2 := fun w3 g3 x k hk =>
    callVc (areSymbols1_c (hB.gr g3) (hB'.gr g3) hn ht (hk w3 (Gr.refl w3)))
  refine containsFunc_c (hx.gr (gr_trans g1 g2)) hp fun w3 g3 => ?_
  simp only [go_sem, Nat.reduceEqDiff]
  have := hk w3 (gr_trans (gr_trans g1 g2) g3)
  rwa [show xs.all (symB n t) = !xs.any (fun x => !symB n t x) from by simp [List.not_any_eq_all_not]] at this
theorem slicesEqual_c {w : World} {X Y : Option Addr} {c d : Nat} {xs ys : List Int} (hx : Ints w X xs) (hy : Ints w Y ys) {k : Value → World → Prop} (hk : ∀ w', Gr w w' → k (.bool (decide (xs = ys))) w') :
    CallK Try.prog 110 [.slice X xs.length c, .slice Y ys.length d] k w := by
  refine enter110 ?_
  unfold S110
  simp only [go_sem, Nat.reduceEqDiff]
  by_cases hl : xs.length = ys.length
  rotate_left
  · simp only [Int.ofNat_inj, hl, decide_false, Bool.not_false, go_sem, Nat.reduceEqDiff]
    have := hk _ (Gr.refl w)
    rwa [decide_eq_false (fun e => hl (by rw [e]))] at this
  simp only [Int.ofNat_inj, hl, decide_true, Bool.not_true, go_sem, Nat.reduceEqDiff]
  rw [← hl]
  refine ⟨fun f w' => ∃ i : Nat, i ≤ xs.length ∧ f 13 = .int .i64 i ∧ Gr w w' ∧ xs.take i = ys.take i, fun f _ => xs.length - (intOf (f 13)).toNat, ⟨0, Nat.zero_le _, rfl, Gr.refl w, rfl⟩, ?_⟩
  rintro f w1 hag ⟨i, hi, h13, hg, hpre⟩
  have h0 : f 0 = .slice X xs.length c := hag 0 (by decide)
  have h1 : f 1 = .slice Y xs.length d := hag 1 (by decide)
  have h12 : f 12 = .int .i64 xs.length := hag 12 (by decide)
  simp only [h0, h1, h12, h13, go_sem, Nat.reduceEqDiff]
  by_cases hlt : i < xs.length
  · have hlt' : (i : Int) < xs.length := by omega
    have := hx.le
    simp only [hlt', decide_true, go_sem, Nat.reduceEqDiff]
    rw [ixn22 hx.ptr hlt, ld3 ((hx.gr (gr_trans hg (gr_drew w1))).cell i hlt), ixn22 (hl ▸ hy.ptr) hlt, ld3 ((hy.gr (gr_trans hg (gr_drew w1))).cell i (by omega))]
    simp only [go_sem, Nat.reduceEqDiff]
    by_cases he : xs.getD i 0 = ys.getD i 0
    · simp only [he, decide_true, Bool.not_true, go_sem, Nat.reduceEqDiff]
      rw [i64_of (by omega) (by omega)]
      refine ⟨⟨i + 1, hlt, rfl, gr_trans hg (gr_drew w1), ?_⟩, ?_⟩
      · rw [take_snoc hlt, take_snoc (by omega), hpre, he]
      · simp only [intOf]
        omega
    · simp only [he, decide_false, Bool.not_false, go_sem, Nat.reduceEqDiff]
      have := hk _ (gr_trans hg (gr_drew w1))
      rwa [decide_eq_false (fun e => he (by rw [e]))] at this
  · simp only [show ¬ (i : Int) < xs.length from by omega, decide_false, go_sem, Nat.reduceEqDiff]
    have := hk _ hg
    rwa [decide_eq_true] at this
    rwa [List.take_of_length_le (by omega), List.take_of_length_le (by omega)] at hpre
theorem sameRule_c {F E : Nat → Prop} {w : World} {v u : Value} {r q : RuleL} (hv : RuleV F w v r) (hu : RuleV E w u q) {k : Value → World → Prop} (hk : ∀ w', Gr w w' → k (.bool (decide (r = q))) w') :
    CallK Try.prog 138 [v, u] k w := by
  obtain ⟨Y, c, rfl, hc, hy⟩ := hv
  obtain ⟨Z, d, rfl, hd, hz⟩ := hu
  refine enter138 ?_
  unfold S138
  refine do_box fun b w1 g1 hb1 hb => ?_
  refine do_box fun b' w2 g2 hb2 hb' => ?_
  have hb := hb.gr g2
  have g := gr_trans g1 g2
  simp only [go_sem, Nat.reduceEqDiff]
  rw [ldB3 hb rfl, ldB3 hb' rfl]
  simp only [go_sem, Nat.reduceEqDiff]
  by_cases h : r.1 = q.1
  · simp only [h, decide_true, go_sem, Nat.reduceEqDiff]
    rw [ldB22 hb rfl]
    rw [ldB22 hb' rfl]
    refine slicesEqual_c (hy.is.gr g) (hz.is.gr g) fun w3 g3 => ?_
    have := hk w3 (gr_trans g g3)
    by_cases h2 : r.2 = q.2
    · simp only [h2, decide_true, go_sem, Nat.reduceEqDiff]
      rwa [decide_eq_true (Prod.ext h h2)] at this
    · simp only [h2, decide_false, go_sem, Nat.reduceEqDiff]
      rwa [decide_eq_false (fun e => h2 (by rw [e]))] at this
  · simp only [h, decide_false, go_sem, Nat.reduceEqDiff]
    have := hk w2 g
    rwa [decide_eq_false (fun e => h (by rw [e]))] at this
theorem isGrammar1_c {E F : Nat → Prop} {w : World} {v : Value} {q r : RuleL} {Z : Option Addr} {b d e : Nat} (hv : RuleV E w v q) (hB : Box w b [.int .i64 r.1, .slice Z r.2.length d] e) (hz : IntsF F w Z r.2) (hd : r.2.length ≤ d) {k : Value → World → Prop} (hk : ∀ w', Gr w w' → k (.bool (decide (q = r))) w') :
    CallK Try.prog 137 ([v] ++ [.pointer (some ⟨b, 0, none⟩)]) k w := by
  refine enter137 ?_
  unfold S137
  obtain ⟨Y, c, rfl, hc, hy⟩ := hv
  refine do_box fun b1 w1 g1 hb1 hB1 => ?_
  rw [ldB_agg agg77 sz77 rfl hB1, ldB_agg agg77 sz77 rfl (hB.gr g1)]
  exact sameRule_c (r := q) (q := r) ⟨Y, c, rfl, hc, hy.gr g1⟩ ⟨Z, d, rfl, hd, hz.gr g1⟩ fun w2 g2 => hk w2 (gr_trans g1 g2)
theorem isGrammar_c {F : Nat → Prop} {w : World} {v : Value} {gm : Gram} (hv : GramV F w v gm) {k : Value → World → Prop} (hk : ∀ w', Gr w w' → k (.bool (goodG gm)) w') :
    CallK Try.prog 84 [v] k w := by
  have hv0 := hv
  obtain ⟨Y, c, rfl, hc, hy⟩ := hv
  refine enter84 ?_
  unfold S84
  refine do_box fun b w1 g1 hb1 hB => ?_
  simp only [go_sem, Nat.reduceEqDiff]
  rw [ldB3 hB rfl]
  refine in_c ?_
  cases hn : inB gm.nons 1 6
  · simp only [Bool.not_false, go_sem, Nat.reduceEqDiff]
    have := hk _ g1
    rwa [show goodG gm = false from by simp [goodG, hn]] at this
  simp only [Bool.not_true, go_sem, Nat.reduceEqDiff]
  rw [ldB3 hB rfl]
  refine in_c ?_
  cases ht : inB gm.toks 1 4
  · simp only [Bool.not_false, go_sem, Nat.reduceEqDiff]
    have := hk _ g1
    rwa [show goodG gm = false from by simp [goodG, ht]] at this
  simp only [Bool.not_true, go_sem, Nat.reduceEqDiff]
  rw [ldB35 hB rfl]
  simp only [go_sem, Nat.reduceEqDiff]
  by_cases hl : gm.rules.length ≤ 16
  rotate_left
  · simp only [show (16 : Int) < gm.rules.length from by omega, decide_true, go_sem, Nat.reduceEqDiff]
    have := hk _ g1
    rwa [show goodG gm = false from by simp [goodG, hl]] at this
  simp only [show ¬ (16 : Int) < gm.rules.length from by omega, decide_false, go_sem, Nat.reduceEqDiff]
  rw [ldB35 hB rfl]
  simp only [go_sem, Nat.reduceEqDiff]
  have hn' : 1 ≤ gm.nons ∧ gm.nons ≤ 6 := by simpa [inB] using hn
  have ht' : 1 ≤ gm.toks ∧ gm.toks ≤ 4 := by simpa [inB] using ht
  refine ⟨fun f w' => ∃ i : Nat, i ≤ gm.rules.length ∧ f 24 = .int .i64 i ∧ Gr w1 w' ∧ ∀ j, j < i → goodR gm.nons gm.toks gm.rules j = true, fun f _ => gm.rules.length - (intOf (f 24)).toNat, ⟨0, Nat.zero_le _, rfl, Gr.refl w1, fun j hj => absurd hj (Nat.not_lt_zero j)⟩, ?_⟩
  rintro f w2 hag ⟨i, hi, h28, g2, hpre⟩
  have f1 : f 1 = .pointer (some ⟨b, 0, none⟩) := hag 1 (by decide)
  have f26 : f 22 = .slice Y gm.rules.length c := hag 22 (by decide)
  have f27 : f 23 = .int .i64 gm.rules.length := hag 23 (by decide)
  simp only [f1, f26, f27, h28, go_sem, Nat.reduceEqDiff]
  by_cases hlt : i < gm.rules.length
  · have hlt' : (i : Int) < gm.rules.length := by omega
    simp only [hlt', decide_true, go_sem, Nat.reduceEqDiff]
    have g := gr_trans g1 g2
    rw [ixn35 hy.ptr hlt]
    refine ld_rule agg77 sz77 (hy.gr g) hlt fun v hv => ?_
    obtain ⟨Z, d, rfl, hd, hz⟩ := hv
    refine do_alloc_of inf77 fun b3 w3 g3 hb3 h3 => ?_
    have n3 := (hB.gr g2).ne hb3
    refine do_store sz77 rfl (by intro u hu; simp [Value.cells] at hu; rcases hu with rfl | rfl <;> rfl) h3 (by simp [Value.cells]) fun w4 g4 s4 h4 => ?_
    have hB2 := (hB.gr (gr_trans g2 g3)).put g4 n3
    have g' := gr_put (gr_trans g g3) g4 (Nat.le_trans g.size hb3)
    have k0 : goodR gm.nons gm.toks gm.rules i = false → ∀ w', Gr w w' → k (.bool false) w' := fun h w' gw => by
      have := hk w' gw
      rwa [show goodG gm = false from by simp only [goodG, range_not hlt h, Bool.and_false]] at this
    simp only [go_sem, Nat.reduceEqDiff]
    rw [ldB3 h4 rfl, ldB3 hB2 rfl]
    simp only [go_sem, Nat.reduceEqDiff]
    rw [i64_of (by omega) (by omega)]
    refine in_c ?_
    cases hr : inB (rul gm.rules i).1 0 (gm.nons - 1)
    · simp only [Bool.not_false, go_sem, Nat.reduceEqDiff]
      exact k0 (by simp [goodR, hr]) _ g'
    simp only [Bool.not_true, go_sem, Nat.reduceEqDiff]
    rw [ldB22 h4 rfl]
    simp only [go_sem, Nat.reduceEqDiff]
    by_cases h5 : (rul gm.rules i).2.length ≤ 4
    rotate_left
    · simp only [show (4 : Int) < (rul gm.rules i).2.length from by omega, decide_true, go_sem, Nat.reduceEqDiff]
      exact k0 (by simp [goodR, h5]) _ g'
    simp only [show ¬ (4 : Int) < (rul gm.rules i).2.length from by omega, decide_false, go_sem, Nat.reduceEqDiff]
    rw [ldB22 h4 rfl]
    rw [ldB3 hB2 rfl]
    rw [ldB3 hB2 rfl]
    have g24 := gr_put g3 g4 hb3
    refine areSymbols_c (hz.is.gr g24) hn ht fun w5 g5 => ?_
    simp only [go_sem, Nat.reduceEqDiff]
    cases hs : (rul gm.rules i).2.all (symB gm.nons gm.toks)
    · simp only [Bool.not_false, go_sem, Nat.reduceEqDiff]
      exact k0 (by simp only [goodR, hs, Bool.and_false, Bool.false_and]) _ (gr_trans g' g5)
    simp only [Bool.not_true, go_sem, Nat.reduceEqDiff]
    have gw5 := gr_trans g' g5
    rw [ldB35 (hB2.gr g5) rfl]
    rw [slh35 (by omega) (by omega), sub_zero]
    simp only [Int.toNat_natCast, go_sem, Nat.reduceEqDiff]
    have hti : (gm.rules.take i).length = i := by simp; omega
    have hyt : RulesF F w5 Y (gm.rules.take i) := (hy.gr gw5).take i
    have hp : PredR 4 (.func (.func 137) [].toArray [.pointer (some ⟨b3, 0, none⟩)].toArray) (fun q => decide (q = rul gm.rules i)) w5 := fun w6 g6 E v q hv k hk =>
      callVc (isGrammar1_c hv (h4.gr (gr_trans g5 g6)) (hz.gr (gr_trans g24 (gr_trans g5 g6))) hd hk)
    have hcf := containsFuncR_c (c := c) hyt hp (k := ?k)
    rw [hti] at hcf
    refine hcf ?_
    intro w6 g6
    have e : (gm.rules.take i).any (fun q => decide (q = rul gm.rules i)) = (gm.rules.take i).any (fun q => decide (rul gm.rules i = q)) := by
      congr 1
      funext q
      exact decide_eq_decide.2 ⟨fun h => h.symm, fun h => h.symm⟩
    rw [e]
    cases ha : (gm.rules.take i).any (fun q => decide (rul gm.rules i = q))
    · simp only [go_sem, Nat.reduceEqDiff]
      have d28 : f 24 = .int .i64 i := h28
      rw [i64_of (by omega) (by omega)]
      refine ⟨⟨i + 1, hlt, rfl, gr_trans (gr_trans g2 g24) (gr_trans g5 g6), fun l hl => ?_⟩, ?_⟩
      · rcases Nat.lt_succ_iff_lt_or_eq.1 hl with h | rfl
        · exact hpre l h
        · simp only [goodR, hr, h5, hs, ha, decide_true, Bool.not_false, Bool.and_self]
      · simp only [intOf]
        omega
    · simp only [go_sem, Nat.reduceEqDiff]
      exact k0 (by simp only [goodR, ha, Bool.not_true, Bool.and_false]) _ (gr_trans gw5 g6)
  · simp only [show ¬ (i : Int) < gm.rules.length from by omega, decide_false, go_sem, Nat.reduceEqDiff]
    have := hk _ (gr_trans g1 g2)
    rwa [show goodG gm = true from by simp only [goodG, hn, ht, hl, decide_true, Bool.true_and]; exact range_all fun j hj => hpre j (by omega)] at this
end Go.Proofs.Ytiohaeckagjebaa

/- Contract: rules moved on (the reference's l20Shift). -/
set_option linter.unusedVariables false
set_option linter.unusedSimpArgs false
set_option maxRecDepth 100000
namespace Go.Sh
open Go
end Go.Sh
namespace Go.Proofs.Ytiohaeckagjebaa
open Go Go.Sh Go.RowKit

end Go.Proofs.Ytiohaeckagjebaa

/- Contract: a grammar made of grammars (the reference's l20Made). -/
set_option linter.unusedVariables false
set_option linter.unusedSimpArgs false
set_option maxRecDepth 100000
namespace Go.Sh
open Go
def gmn (gs : List Gram) (j : Nat) : Gram := gs.getD j ⟨0, 0, []⟩
/-- A slice of grammars that is read; it lies in F. -/
structure GramsF (F : Nat → Prop) (w : World) (X : Option Addr) (gs : List Gram) : Prop where
  le : gs.length ≤ 9223372036854775807
  ptr : 0 < gs.length → X = some (ad X)
  foot : 0 < gs.length → F (ad X).block
  row : ∀ j, j < gs.length → ∃ Y c, w.cell? ((ad X).add (j * 3)) = some (.int .i64 (gmn gs j).nons) ∧ w.cell? ((ad X).add (j * 3 + 1)) = some (.int .i64 (gmn gs j).toks) ∧ w.cell? ((ad X).add (j * 3 + 2)) = some (.slice Y (gmn gs j).rules.length c) ∧ (gmn gs j).rules.length ≤ c ∧ RulesF F w Y (gmn gs j).rules
theorem GramsF.gx {F D : Nat → Prop} {w w' : World} {X : Option Addr} {gs : List Gram} (h : GramsF F w X gs) (g : Gx D w w') (hn : ∀ b, F b → ¬ D b) : GramsF F w' X gs := by
  refine ⟨h.le, h.ptr, h.foot, fun j hj => ?_⟩
  obtain ⟨Y, c, h1, h2, h3, h4, h5⟩ := h.row j hj
  have hf := hn _ (h.foot (by omega))
  exact ⟨Y, c, g.cell h1 (by rw [add_block]; exact hf), g.cell h2 (by rw [add_block]; exact hf), g.cell h3 (by rw [add_block]; exact hf), h4, h5.gx g hn⟩
theorem good_len {g : Gram} (hg : goodG g = true) : g.rules.length ≤ 16 := by
  simp only [goodG, Bool.and_eq_true, decide_eq_true_eq] at hg
  exact hg.1.2
/-- Where a block that is old comes from. -/
def From (w : World) (X0 X : Option Addr) : Prop := ∀ q, blk X = some q → q < w.heap.size → blk X0 = some q
theorem From.moved {w w2 : World} {X0 X X' : Option Addr} (h : From w X0 X) (hm : Moved w2 X X') (hs : w.heap.size ≤ w2.heap.size) : From w X0 X' := by
  intro q hq hlt
  rcases hm with e | e
  · exact h q (e ▸ hq) hlt
  · have := e q hq
    omega
abbrev zeroGram : Value := .agg #[.int .i64 0, .int .i64 0, .slice none 0 0]
end Go.Sh
namespace Go.Proofs.Ytiohaeckagjebaa
open Go Go.Sh Go.RowKit

end Go.Proofs.Ytiohaeckagjebaa

/- Contract: what comes again and again, by the reference. -/
set_option linter.unusedVariables false
set_option linter.unusedSimpArgs false
set_option maxRecDepth 100000
namespace Go.Sh
open Go
/-- A grammar that may not be there, of the call's own. -/
def GramR (w : World) (B : Nat) (v : Value) : Option Gram → Prop
  | some m => GramO w B v m
  | none => v = zeroGram
theorem GramR.put {w w' : World} {B b t : Nat} {v : Value} {o : Option Gram} {cs : List Value} (h : GramR w B v o) (hb : Box w b cs t) (h1 : 77 ≠ t) (h2 : 3 ≠ t) (g : w.grownBy w' (some b)) : GramR w' B v o := by
  cases o with
  | none => exact h
  | some m =>
    obtain ⟨X, c, ps, e, ho⟩ := h
    exact ⟨X, c, ps, e, ho.put hb h1 h2 g⟩
end Go.Sh
namespace Go.Proofs.Ytiohaeckagjebaa
open Go Go.Sh Go.RowKit

end Go.Proofs.Ytiohaeckagjebaa

/- Contract: a copy of a grammar by the program. -/
set_option linter.unusedVariables false
set_option linter.unusedSimpArgs false
set_option maxRecDepth 100000
namespace Go.Sh
open Go
theorem good_rule {g : Gram} (hg : goodG g = true) : ∀ i, i < g.rules.length → (rul g.rules i).2.length ≤ 4 := fun i hi => by
  simp only [goodG, Bool.and_eq_true, List.all_eq_true] at hg
  have := hg.2 i (List.mem_range.2 hi)
  simp only [goodR, Bool.and_eq_true, decide_eq_true_eq] at this
  exact this.1.1.2
end Go.Sh
namespace Go.Proofs.Ytiohaeckagjebaa
open Go Go.Sh Go.RowKit

end Go.Proofs.Ytiohaeckagjebaa

/- Contract: grammars set beside each other by the program. -/
set_option linter.unusedVariables false
set_option linter.unusedSimpArgs false
set_option maxRecDepth 100000
namespace Go.Sh
open Go
def rgt (rl : List (List Int)) (j : Nat) : List Int := rl.getD j []
/-- A slice of slices of ints that is read. -/
structure Intss (w : World) (X : Option Addr) (rl : List (List Int)) : Prop where
  le : rl.length ≤ 9223372036854775807
  ptr : 0 < rl.length → X = some (ad X)
  row : ∀ j, j < rl.length → ∃ Y c, w.cell? ((ad X).add j) = some (.slice Y (rgt rl j).length c) ∧ (rgt rl j).length ≤ c ∧ Ints w Y (rgt rl j)
theorem Intss.gr {w w' : World} {X : Option Addr} {rl : List (List Int)} (h : Intss w X rl) (g : Gr w w') : Intss w' X rl := ⟨h.le, h.ptr, fun j hj => by
  obtain ⟨Y, c, h1, h2, h3⟩ := h.row j hj
  exact ⟨Y, c, g.cell h1, h2, h3.gr g⟩⟩
def firsts (rl : List (List Int)) : List RuleL := rl.map fun r => (0, r)
theorem OwnR.congr {e1 e2 : Nat} {w : World} {B c : Nat} {X : Option Addr} {rs : List RuleL} {ps qs : Nat → Option Addr × Nat} (h : OwnR e1 e2 w B X c rs ps) (he : ∀ j, j < rs.length → qs j = ps j) : OwnR e1 e2 w B X c rs qs := by
  obtain ⟨⟨cells, hr, hc⟩, ho, ht⟩ := h
  refine ⟨⟨cells, hr, fun j hj => by rw [he j hj]; exact hc j hj⟩, fun j hj => by rw [he j hj]; exact ho j hj, fun i j hi hj hij => ?_⟩
  rw [he i hi, he j hj]
  exact ht i j hi hj hij
theorem blk_sym {U V : Option Addr} (h : blk U = none ∨ blk U ≠ blk V) : blk V = none ∨ blk V ≠ blk U := by
  cases hq : blk V with
  | none => exact .inl rfl
  | some q =>
    refine .inr fun e => ?_
    rcases h with h | h
    · rw [h] at e; cases e
    · exact h (by rw [hq, e])
end Go.Sh
namespace Go.Proofs.Ytiohaeckagjebaa
open Go Go.Sh Go.RowKit

end Go.Proofs.Ytiohaeckagjebaa

/- Slices of slices of numbers that are owned, among things that lie apart. -/
set_option linter.unusedVariables false
set_option linter.unusedSimpArgs false
set_option maxRecDepth 100000
namespace Go.Sh
open Go
/-- Nothing. -/
def emp : Thing := ⟨fun _ => True, fun _ => False⟩
/-- Two things become one. -/
theorem Apt.join {w0 w w' : World} {L : List Thing} (H : Apt w0 w L) {i j : Nat} {a b it : Thing} (hij : i ≠ j) (hi : L[i]? = some a) (hj : L[j]? = some b) (g : Gx (fun q => a.ft q ∨ b.ft q) w w') (lo : ∀ q, it.ft q → a.ft q ∨ b.ft q ∨ w.heap.size ≤ q) (hh : ∀ q, it.ft q → q < w'.heap.size)
    (kept : ∀ w'', (∀ q, it.ft q → w''.heap[q]? = w'.heap[q]?) → it.P w'') : Apt w0 w' ((L.set i it).set j emp) := by
  have ha := H.ok i a hi
  have hb := H.ok j b hj
  have hsz := H.gr.size
  have sub : ∀ l x, ((L.set i it).set j emp)[l]? = some x → (l = j ∧ x = emp) ∨ (l = i ∧ l ≠ j ∧ x = it) ∨ (l ≠ i ∧ l ≠ j ∧ L[l]? = some x) := fun l x hx => by
    rcases get_set hx with h | ⟨h1, h2⟩
    · exact .inl h
    · rcases get_set h2 with ⟨h3, h4⟩ | ⟨h3, h4⟩
      · exact .inr (.inl ⟨h3, h1, h4⟩)
      · exact .inr (.inr ⟨h3, h1, h4⟩)
  refine ⟨Gx.gr_after H.gr g fun q hq => hq.elim (ha.lo q) (hb.lo q), fun l x hx => ?_, fun l m x y hlm hx hy q hq hq' => ?_⟩
  · rcases sub l x hx with ⟨_, rfl⟩ | ⟨_, _, rfl⟩ | ⟨h1, h2, h3⟩
    · exact ⟨fun q hq => hq.elim, fun q hq => hq.elim, fun _ _ => trivial⟩
    · refine ⟨fun q hq => ?_, hh, kept⟩
      rcases lo q hq with h | h | h
      · exact ha.lo q h
      · exact hb.lo q h
      · omega
    · have := H.ok l x h3
      exact this.step g.size fun q hq => g.block q (this.hi q hq) fun hq' => hq'.elim (H.two l i x a h1 h3 hi q hq) (H.two l j x b h2 h3 hj q hq)
  · rcases sub l x hx with ⟨_, rfl⟩ | ⟨hli, _, rfl⟩ | ⟨h1, h2, h3⟩
    · exact hq
    · rcases sub m y hy with ⟨_, rfl⟩ | ⟨hmi, _, rfl⟩ | ⟨g1, g2, g3⟩
      · exact hq'
      · exact hlm (hli.trans hmi.symm)
      · rcases lo q hq with h | h | h
        · exact H.two i m a y (fun e => g1 e.symm) hi g3 q h hq'
        · exact H.two j m b y (fun e => g2 e.symm) hj g3 q h hq'
        · have := (H.ok m y g3).hi q hq'
          omega
    · rcases sub m y hy with ⟨_, rfl⟩ | ⟨hmi, _, rfl⟩ | ⟨g1, g2, g3⟩
      · exact hq'
      · rcases lo q hq' with h | h | h
        · exact H.two l i x a h1 h3 hi q hq h
        · exact H.two l j x b h2 h3 hj q hq h
        · have := (H.ok l x h3).hi q hq
          omega
      · exact H.two l m x y hlm h3 g3 q hq hq'
/-- Slices of numbers of the call's own: the row, and a slice of its own for each. -/
structure OwnSS (e1 e2 : Nat) (w : World) (B : Nat) (X : Option Addr) (c : Nat) (ls : List (List Int)) (ps : Nat → Option Addr × Nat) : Prop where
  row : ∃ cells, Row w B e1 1 X ls.length c cells ∧ ∀ j, j < ls.length → cells[j]? = some (.slice (ps j).1 (rgt ls j).length (ps j).2)
  own : ∀ j, j < ls.length → Own e2 w B (ps j).1 (ps j).2 (rgt ls j)
  two : ∀ i j, i < ls.length → j < ls.length → i ≠ j → blk (ps i).1 = none ∨ blk (ps i).1 ≠ blk (ps j).1
theorem OwnSS.same {e1 e2 : Nat} {w w' : World} {B : Nat} {X : Option Addr} {c : Nat} {ls : List (List Int)} {ps : Nat → Option Addr × Nat} (h : OwnSS e1 e2 w B X c ls ps) (hs : ∀ q, Foot X ps ls.length q → w'.heap[q]? = w.heap[q]?) : OwnSS e1 e2 w' B X c ls ps := by
  obtain ⟨⟨cells, hr, hc⟩, ho, ht⟩ := h
  exact ⟨⟨cells, hr.same fun q hq => hs q (.inl hq), hc⟩, fun j hj => Row.same (ho j hj) fun q hq => hs q (.inr ⟨j, hj, hq⟩), ht⟩
theorem OwnSS.up {e1 e2 : Nat} {w : World} {B B' : Nat} {X : Option Addr} {c : Nat} {ls : List (List Int)} {ps : Nat → Option Addr × Nat} (h : OwnSS e1 e2 w B X c ls ps) (hs : ∀ q, Foot X ps ls.length q → B' ≤ q) : OwnSS e1 e2 w B' X c ls ps := by
  obtain ⟨⟨cells, hr, hc⟩, ho, ht⟩ := h
  exact ⟨⟨cells, hr.up fun q hq => hs q (.inl hq), hc⟩, fun j hj => Row.up (ho j hj) fun q hq => hs q (.inr ⟨j, hj, hq⟩), ht⟩
theorem OwnSS.mono {e1 e2 : Nat} {w : World} {B B' : Nat} {X : Option Addr} {c : Nat} {ls : List (List Int)} {ps : Nat → Option Addr × Nat} (h : OwnSS e1 e2 w B X c ls ps) (hb : B' ≤ B) : OwnSS e1 e2 w B' X c ls ps := by
  obtain ⟨⟨cells, hr, hc⟩, ho, ht⟩ := h
  exact ⟨⟨cells, Row.mono hr hb, hc⟩, fun j hj => Row.mono (ho j hj) hb, ht⟩
theorem OwnSS.foot {e1 e2 : Nat} {w : World} {B c : Nat} {X : Option Addr} {ls : List (List Int)} {ps : Nat → Option Addr × Nat} (h : OwnSS e1 e2 w B X c ls ps) {q : Nat} (hq : Foot X ps ls.length q) : B ≤ q ∧ q < w.heap.size := by
  obtain ⟨⟨cells, hr, hc⟩, ho, ht⟩ := h
  rcases hq with hq | ⟨l, hl, hq⟩
  · exact hr.ge hq
  · exact Row.ge (ho l hl) hq
theorem OwnSS.gr {e1 e2 : Nat} {w w' : World} {B : Nat} {X : Option Addr} {c : Nat} {ls : List (List Int)} {ps : Nat → Option Addr × Nat} (h : OwnSS e1 e2 w B X c ls ps) (g : Gr w w') : OwnSS e1 e2 w' B X c ls ps := h.same fun q hq => g.block q (h.foot hq).2 (by simp)
theorem OwnSS.read {e1 e2 : Nat} {w : World} {B : Nat} {X : Option Addr} {c : Nat} {ls : List (List Int)} {ps : Nat → Option Addr × Nat} (h : OwnSS e1 e2 w B X c ls ps) : Intss w X ls := by
  obtain ⟨⟨cells, hr, hc⟩, ho, ht⟩ := h
  have hcap := hr.cap
  refine ⟨by omega, fun hp => hr.ptr hp, fun j hj => ?_⟩
  have hc' := Row.cap (ho j hj)
  exact ⟨(ps j).1, (ps j).2, hr.src.cell _ _ (hc j hj), by omega, Own.ints (ho j hj)⟩
def lssi (e1 e2 : Nat) (X : Option Addr) (c : Nat) (ls : List (List Int)) (ps : Nat → Option Addr × Nat) : Thing := ⟨fun w => OwnSS e1 e2 w 0 X c ls ps, Foot X ps ls.length⟩
theorem lssi_kept {w : World} {B e1 e2 c : Nat} {X : Option Addr} {ls : List (List Int)} {ps : Nat → Option Addr × Nat} (h : OwnSS e1 e2 w B X c ls ps) : ∀ w', (∀ q, (lssi e1 e2 X c ls ps).ft q → w'.heap[q]? = w.heap[q]?) → (lssi e1 e2 X c ls ps).P w' := fun w' hq => (h.mono (Nat.zero_le B)).same hq
theorem Apt.lssi {w0 w : World} {L : List Thing} (H : Apt w0 w L) (i : Nat) {e1 e2 c : Nat} {X : Option Addr} {ls : List (List Int)} {ps : Nat → Option Addr × Nat} (hi : L[i]? = some (lssi e1 e2 X c ls ps)) : OwnSS e1 e2 w w0.heap.size X c ls ps := OwnSS.up (H.get i hi) (H.ok i _ hi).lo
theorem Apt.addLss {w0 w w' : World} {L : List Thing} (H : Apt w0 w L) (g : Gr w w') {e1 e2 c : Nat} {X : Option Addr} {ls : List (List Int)} {ps : Nat → Option Addr × Nat} (h : OwnSS e1 e2 w' w.heap.size X c ls ps) : Apt w0 w' (L ++ [Sh.lssi e1 e2 X c ls ps]) := H.add g _ (fun q hq => (h.foot hq).1) (fun q hq => (h.foot hq).2) (lssi_kept h)
theorem OwnSS.nil (w : World) (B e1 e2 : Nat) (ps : Nat → Option Addr × Nat) : OwnSS e1 e2 w B none 0 [] ps := ⟨⟨[], Row.nil _ _ _ _, fun j hj => by simp at hj⟩, fun j hj => by simp at hj, fun i j hi => by simp at hi⟩
theorem rgt_left {ls ms : List (List Int)} {i : Nat} (h : i < ls.length) : rgt (ls ++ ms) i = rgt ls i := by
  simp [rgt, List.getD_eq_getElem?_getD, List.getElem?_append_left h]
theorem rgt_last {ls : List (List Int)} {y : List Int} : rgt (ls ++ [y]) ls.length = y := by
  simp [rgt, List.getD_eq_getElem?_getD]
theorem rgt_eq {ls : List (List Int)} {i : Nat} (h : i < ls.length) : rgt ls i = ls[i] := by simp [rgt, List.getD_eq_getElem?_getD, h]
theorem take_snoc_rgt {ls : List (List Int)} {i : Nat} (h : i < ls.length) : ls.take (i + 1) = ls.take i ++ [rgt ls i] := by
  rw [List.take_succ_eq_append_getElem h, rgt_eq h]
/-- One more slice. -/
theorem OwnSS.push {e1 e2 : Nat} {w w' : World} {B B' c d c' : Nat} {X X' Y : Option Addr} {ls : List (List Int)} {ys : List Int} {ps : Nat → Option Addr × Nat} {cells : List Value} (h : OwnSS e1 e2 w B X c ls ps) (ho : Own e2 w B' Y d ys) (hne : ∀ l, l < ls.length → blk (ps l).1 = none ∨ blk (ps l).1 ≠ blk Y) (he : e1 ≠ e2)
    (hr0 : Row w B e1 1 X ls.length c cells) (hc : ∀ j, j < ls.length → cells[j]? = some (.slice (ps j).1 (rgt ls j).length (ps j).2)) (hr : Row w' B e1 1 X' (ls.length + 1) c' (cells ++ [.slice Y ys.length d])) (g : w.grownBy w' (blk X)) : OwnSS e1 e2 w' 0 X' c' (ls ++ [ys]) (fun i => if i = ls.length then (Y, d) else ps i) := by
  have hlen := hr0.len
  refine ⟨⟨_, by rw [List.length_append]; exact Row.mono hr (Nat.zero_le _), fun j hj => ?_⟩, fun j hj => ?_, fun i j hi hj hij => ?_⟩
  · by_cases hlt : j < ls.length
    · rw [List.getElem?_append_left (by omega), hc j hlt, rgt_left hlt, if_neg (by omega)]
    · obtain rfl : j = ls.length := by simp at hj; omega
      rw [List.getElem?_append_right (by omega), rgt_last, if_pos rfl, hlen]
      simp
  · by_cases hlt : j < ls.length
    · rw [if_neg (by omega), rgt_left hlt]
      exact Row.mono (Row.kept (h.own j hlt) g (row_ne (h.own j hlt) hr0 fun e => he e.symm)) (Nat.zero_le _)
    · obtain rfl : j = ls.length := by simp at hj; omega
      rw [if_pos rfl, rgt_last]
      exact Row.mono (Row.kept ho g (row_ne ho hr0 fun e => he e.symm)) (Nat.zero_le _)
  · rw [List.length_append] at hi hj
    simp only [List.length_cons, List.length_nil] at hi hj
    by_cases h1 : i < ls.length <;> by_cases h2 : j < ls.length
    · rw [if_neg (by omega), if_neg (by omega)]
      exact h.two i j h1 h2 hij
    · obtain rfl : j = ls.length := by omega
      rw [if_neg (by omega), if_pos rfl]
      exact hne i h1
    · obtain rfl : i = ls.length := by omega
      rw [if_pos rfl, if_neg (by omega)]
      exact blk_sym (hne j h2)
    · omega
theorem rgt_right {ls ms : List (List Int)} {i : Nat} (h : ls.length ≤ i) : rgt (ls ++ ms) i = rgt ms (i - ls.length) := by
  simp [rgt, List.getD_eq_getElem?_getD, List.getElem?_append_right h]
/-- Slices behind slices. -/
theorem OwnSS.append {e1 e2 : Nat} {w w' : World} {B B' c d c' : Nat} {X X' Y : Option Addr} {ls ms : List (List Int)} {ps qs : Nat → Option Addr × Nat} {cells news : List Value} (h : OwnSS e1 e2 w B X c ls ps) (g0 : OwnSS e1 e2 w B' Y d ms qs) (hne : ∀ l m, l < ls.length → m < ms.length → blk (ps l).1 = none ∨ blk (ps l).1 ≠ blk (qs m).1) (he : e1 ≠ e2)
    (hr0 : Row w B e1 1 X ls.length c cells) (hc : ∀ j, j < ls.length → cells[j]? = some (.slice (ps j).1 (rgt ls j).length (ps j).2)) (hnl : news.length = ms.length) (hN : ∀ j, j < ms.length → news[j]? = some (.slice (qs j).1 (rgt ms j).length (qs j).2)) (hr : Row w' B e1 1 X' (ls.length + ms.length) c' (cells ++ news)) (g : w.grownBy w' (blk X)) : OwnSS e1 e2 w' 0 X' c' (ls ++ ms) (joinP ls.length ps qs) := by
  have hlen := hr0.len
  refine ⟨⟨_, by rw [List.length_append]; exact Row.mono hr (Nat.zero_le _), fun j hj => ?_⟩, fun j hj => ?_, fun i j hi hj hij => ?_⟩
  · rw [List.length_append] at hj
    by_cases hlt : j < ls.length
    · rw [List.getElem?_append_left (by omega), hc j hlt, rgt_left hlt]
      simp only [joinP, hlt, if_true]
    · rw [List.getElem?_append_right (by omega), rgt_right (by omega)]
      simp only [joinP, hlt, if_false]
      rw [show j - cells.length = j - ls.length from by omega]
      exact hN _ (by omega)
  · rw [List.length_append] at hj
    by_cases hlt : j < ls.length
    · rw [rgt_left hlt]
      simp only [joinP, hlt, if_true]
      exact Row.mono (Row.kept (h.own j hlt) g (row_ne (h.own j hlt) hr0 fun e => he e.symm)) (Nat.zero_le _)
    · rw [rgt_right (by omega)]
      simp only [joinP, hlt, if_false]
      exact Row.mono (Row.kept (g0.own _ (by omega)) g (row_ne (g0.own _ (by omega)) hr0 fun e => he e.symm)) (Nat.zero_le _)
  · rw [List.length_append] at hi hj
    by_cases h1 : i < ls.length <;> by_cases h2 : j < ls.length <;> simp only [joinP, h1, h2, if_true, if_false]
    · exact h.two i j h1 h2 hij
    · exact hne i _ h1 (by omega)
    · exact blk_sym (hne j _ h2 (by omega))
    · exact g0.two _ _ (by omega) (by omega) (by omega)
/-- One number of one slice is written. -/
theorem OwnSS.put {e1 e2 : Nat} {w w' : World} {B c i m : Nat} {x : Int} {X : Option Addr} {ls : List (List Int)} {ps : Nat → Option Addr × Nat} (h : OwnSS e1 e2 w B X c ls ps) (he : e1 ≠ e2) (hi : i < ls.length) (hr : Row w' B e2 1 (ps i).1 (rgt ls i).length (ps i).2 (ints ((rgt ls i).set m x))) (g : w.grownBy w' (blk (ps i).1)) : OwnSS e1 e2 w' B X c (ls.set i ((rgt ls i).set m x)) ps := by
  obtain ⟨⟨cells, hr0, hc⟩, ho, ht⟩ := h
  have hg : ∀ j, rgt (ls.set i ((rgt ls i).set m x)) j = if j = i then (rgt ls i).set m x else rgt ls j := fun j => by
    simp only [rgt, List.getD_eq_getElem?_getD, List.getElem?_set]
    by_cases hij : i = j
    · subst hij
      simp [hi]
    · rw [if_neg hij, if_neg (fun e => hij e.symm)]
  refine ⟨⟨cells, by rw [List.length_set]; exact Row.kept hr0 g (row_ne hr0 (ho i hi) he), fun j hj => ?_⟩, fun j hj => ?_, fun a b ha hb hab => ?_⟩
  · rw [List.length_set] at hj
    rw [hc j hj, hg j]
    by_cases hij : j = i
    · subst hij
      rw [if_pos rfl, List.length_set]
    · rw [if_neg hij]
  · rw [List.length_set] at hj
    rw [hg j]
    by_cases hij : j = i
    · subst hij
      rw [if_pos rfl]
      unfold Own
      rw [List.length_set]
      exact hr
    · rw [if_neg hij]
      exact Row.kept (ho j hj) g (ht j i hj hi hij)
  · rw [List.length_set] at ha hb
    exact ht a b ha hb hab
theorem OwnSS.ptr {e1 e2 : Nat} {w : World} {B c : Nat} {X : Option Addr} {ls : List (List Int)} {ps : Nat → Option Addr × Nat} (h : OwnSS e1 e2 w B X c ls ps) (hl : 0 < ls.length) : X = some (ad X) := by
  obtain ⟨⟨cells, hr, hc⟩, _⟩ := h
  exact hr.ptr hl
theorem OwnSS.cell {e1 e2 : Nat} {w : World} {B c : Nat} {X : Option Addr} {ls : List (List Int)} {ps : Nat → Option Addr × Nat} (h : OwnSS e1 e2 w B X c ls ps) {j : Nat} (hj : j < ls.length) : w.cell? ((ad X).add j) = some (.slice (ps j).1 (rgt ls j).length (ps j).2) := by
  obtain ⟨⟨cells, hr, hc⟩, _⟩ := h
  exact hr.src.cell _ _ (hc j hj)
/-- A row of one slice, and that slice. -/
theorem Apt.single {w0 w : World} {L : List Thing} (H : Apt w0 w L) {i j : Nat} (hij : i ≠ j) {e1 e2 c d : Nat} {X Y : Option Addr} {ys : List Int} (hi : L[i]? = some (rwi e1 1 X 1 c [.slice Y ys.length d])) (hj : L[j]? = some (rwi e2 1 Y ys.length d (Sh.ints ys))) : Apt w0 w ((L.set i (Sh.lssi e1 e2 X c [ys] fun _ => (Y, d))).set j emp) := by
  have hr := H.row i hi
  have ho := H.row j hj
  have o : OwnSS e1 e2 w w0.heap.size X c [ys] fun _ => (Y, d) := by
    refine ⟨⟨_, hr, fun l hl => ?_⟩, fun l hl => ?_, fun a b ha hb hab => ?_⟩
    · obtain rfl : l = 0 := by simpa using hl
      rfl
    · obtain rfl : l = 0 := by simpa using hl
      exact ho
    · simp at ha hb
      omega
  refine H.join hij hi hj (Gx.refl _ w) (fun q hq => ?_) (fun q hq => (o.foot hq).2) (lssi_kept o)
  rcases hq with hq | ⟨l, hl, hq⟩
  · exact .inl hq
  · exact .inr (.inl hq)
end Go.Sh
namespace Go.Proofs.Ytiohaeckagjebaa
open Go Go.Sh Go.RowKit
abbrev lss (X : Option Addr) (c : Nat) (ls : List (List Int)) (ps : Nat → Option Addr × Nat) : Thing := lssi 22 3 X c ls ps
section
variable {k : Value → World → Prop} {w0 w w' : World} {L : List Thing}
/-- append of one owned slice to slices. -/
theorem pushSSH {k : Value → Value → World → Prop} (H : Apt w0 w L) (i j : Nat) (hij : i ≠ j) {u n c m d : Nat} {X Y : Option Addr} {ls : List (List Int)} {ys : List Int} {ps : Nat → Option Addr × Nat} (hi : L[i]? = some (lss X c ls ps)) (hj : L[j]? = some (ows Y d ys)) {cs : List Bool} (hn : n = ls.length) (hm : m = ys.length) (hb : ls.length ≤ 1000000000)
    (h : ∀ t X' c' w' ps', Apt w0 w' ((L.set i (lss X' c' (ls ++ [ys]) ps')).set j emp) → k t (.slice X' (ls ++ [ys]).length c') w') : Do Try.prog (sBuildSlice 48 1 [(0, .slice Y m d)]) (fun t w1 => Do Try.prog (sBuiltin .append #[48, 48] u cs [.slice X n c, t]) (k t) w1) w := by
  subst hn hm
  refine bs48 [.slice Y ys.length d] (by decide) (by simp [Instr.fill, madeCells, Value.cells, rng1]) rfl fun b w1 hb1 hb2 g hB hr => ?_
  have H1 := H.step g
  have o1 := H1.lssi i hi
  have o1' := o1
  obtain ⟨⟨cells, hr1, hc⟩, ho, ht⟩ := o1'
  have hY : Own 3 w1 w0.heap.size Y d ys := H1.own j hj
  refine do_append2 u48 inf22 rfl (by decide) hr1 (Row.src (hr _ (Nat.le_refl _))) rfl (by intro v hv; simp at hv; subst hv; rfl) (by omega) (by omega) H1.gr.size fun X' c' w' hr' hg hmv => ?_
  rw [show ls.length + 1 = (ls ++ [ys]).length from by simp]
  refine h _ X' c' w' (fun i => if i = ls.length then (Y, d) else ps i) (H1.join hij hi hj (gx_of hg fun q hq => .inl (.inl hq)) (fun q hq => ?_) (fun q hq => ?_) ?_)
  · rcases hq with hq | ⟨l, hl, hq⟩
    · rcases hmv with e | e
      · exact .inl (.inl (e ▸ hq))
      · exact .inr (.inr (e q hq))
    · rw [List.length_append] at hl
      simp only [List.length_cons, List.length_nil] at hl
      by_cases h1 : l = ls.length
      · subst h1
        simp only [if_true] at hq
        exact .inr (.inl hq)
      · simp only [h1, if_false] at hq
        exact .inl (.inr ⟨l, by omega, hq⟩)
  · have := (o1.push hY (fun l hl => by
      cases hq : blk (ps l).1 with
      | none => exact .inl rfl
      | some q => exact .inr fun e => H1.two i j _ _ hij hi hj q (.inr ⟨l, hl, hq⟩) (show blk Y = some q from e.symm)) (by decide) hr1 hc hr' hg)
    exact (this.foot hq).2
  · exact lssi_kept (o1.push hY (fun l hl => by
      cases hq : blk (ps l).1 with
      | none => exact .inl rfl
      | some q => exact .inr fun e => H1.two i j _ _ hij hi hj q (.inr ⟨l, hl, hq⟩) (show blk Y = some q from e.symm)) (by decide) hr1 hc hr' hg)
/-- append of owned slices to owned slices. -/
theorem appendSSH (H : Apt w0 w L) (i j : Nat) (hij : i ≠ j) {u n c m d : Nat} {X Y : Option Addr} {ls ms : List (List Int)} {ps qs : Nat → Option Addr × Nat} (hi : L[i]? = some (lss X c ls ps)) (hj : L[j]? = some (lss Y d ms qs)) {cs : List Bool} (hn : n = ls.length) (hm : m = ms.length) (hb : ls.length + ms.length ≤ 1000000000)
    (h : ∀ X' c' w' ps', Apt w0 w' ((L.set i (lss X' c' (ls ++ ms) ps')).set j emp) → k (.slice X' (ls ++ ms).length c') w') : Do Try.prog (sBuiltin .append #[48, 48] u cs [.slice X n c, .slice Y m d]) k w := by
  subst hn hm
  have o1 := H.lssi i hi
  have o2 := H.lssi j hj
  obtain ⟨⟨cells, hr1, hc⟩, ho, ht⟩ := id o1
  obtain ⟨⟨news, hr2, hN⟩, ho2, ht2⟩ := id o2
  have hnl : news.length = ms.length := by have := hr2.len; omega
  refine do_append2 u48 inf22 rfl (by decide) hr1 (Row.src hr2) (by rw [hnl, Nat.mul_one]) (by
    intro v hv
    obtain ⟨l, hl⟩ := List.getElem?_of_mem hv
    have hlt : l < ms.length := by rw [← hnl]; exact (List.getElem?_eq_some_iff.1 hl).1
    rw [hN l hlt] at hl
    obtain rfl := Option.some.inj hl
    rfl) (by omega) (by omega) H.gr.size fun X' c' w' hr' hg hmv => ?_
  rw [← List.length_append]
  have hfin := o1.append o2 (fun l m hl hm => by
      cases hq : blk (ps l).1 with
      | none => exact .inl rfl
      | some q => exact .inr fun e => H.two i j _ _ hij hi hj q (.inr ⟨l, hl, hq⟩) (.inr ⟨m, hm, e.symm⟩)) (by decide) hr1 hc hnl hN hr' hg
  refine h X' c' w' _ (H.join hij hi hj (gx_of hg fun q hq => .inl (.inl hq)) (fun q hq => ?_) (fun q hq => (hfin.foot hq).2) (lssi_kept hfin))
  rcases hq with hq | ⟨l, hl, hq⟩
  · rcases hmv with e | e
    · exact .inl (.inl (e ▸ hq))
    · exact .inr (.inr (e q hq))
  · rw [List.length_append] at hl
    by_cases h1 : l < ls.length
    · simp only [joinP, h1, if_true] at hq
      exact .inl (.inr ⟨l, h1, hq⟩)
    · simp only [joinP, h1, if_false] at hq
      exact .inr (.inl (.inr ⟨_, by omega, hq⟩))
end
end Go.Proofs.Ytiohaeckagjebaa

/- Plain: trees by lists of rules. -/
set_option linter.unusedVariables false
set_option linter.unusedSimpArgs false
namespace Go.Sh
/-! Trees by lists of rules. -/
inductive PT where
  | mk (non : Int) (rule at_ fin fr to : Nat) (kids : List PT)
def PT.non : PT → Int | .mk n _ _ _ _ _ _ => n
def PT.rule : PT → Nat | .mk _ r _ _ _ _ _ => r
def PT.at_ : PT → Nat | .mk _ _ a _ _ _ _ => a
def PT.fin : PT → Nat | .mk _ _ _ e _ _ _ => e
def PT.fr : PT → Nat | .mk _ _ _ _ f _ _ => f
def PT.to : PT → Nat | .mk _ _ _ _ _ t _ => t
def PT.kids : PT → List PT | .mk _ _ _ _ _ _ k => k
def okT (rs : List RuleL) (tree : List Int) (non : Int) (a : Nat) : Bool :=
  decide (a < tree.length) && (decide (0 ≤ tree.getD a 0) && decide (tree.getD a 0 ≤ (rs.length : Int) - 1)) && decide ((rul rs (tree.getD a 0).toNat).1 = non)
def rgtT (rs : List RuleL) (tree : List Int) (a : Nat) : List Int := (rul rs (tree.getD a 0).toNat).2
def readR (rec : Int → Nat → List Int → Option (PT × List Int)) : List Int → Nat → List Int → List PT → Option (List PT × Nat × List Int)
  | [], e, w, ks => some (ks, e, w)
  | x :: xs, e, w, ks => if x < 0 then readR rec xs e (w ++ [-1 - x]) ks else match rec x e w with
    | none => none
    | some (k, w') => readR rec xs k.fin w' (ks ++ [k])
def readT (rs : List RuleL) (tree : List Int) : Nat → Int → Nat → List Int → Option (PT × List Int)
  | 0, _, _, _ => none
  | f + 1, non, a, w => if okT rs tree non a = true then match readR (readT rs tree f) (rgtT rs tree a) (a + 1) w [] with
      | none => none
      | some (ks, e, w') => some (.mk non (tree.getD a 0).toNat a e w.length w'.length ks, w')
    else none
def endR (rec : Int → Nat → Option Nat) : List Int → Nat → Option Nat
  | [], e => some e
  | x :: xs, e => if x < 0 then endR rec xs e else match rec x e with
    | none => none
    | some e' => endR rec xs e'
def endT (rs : List RuleL) (tree : List Int) : Nat → Int → Nat → Option Nat
  | 0, _, _ => none
  | f + 1, non, a => if okT rs tree non a = true then endR (endT rs tree f) (rgtT rs tree a) (a + 1) else none
theorem endR_eq {rec : Int → Nat → List Int → Option (PT × List Int)} {rec' : Int → Nat → Option Nat} (h : ∀ x a w, rec' x a = (rec x a w).map fun z => z.1.fin) : ∀ (xs : List Int) (e : Nat) (w : List Int) (ks : List PT), endR rec' xs e = (readR rec xs e w ks).map fun z => z.2.1 := by
  intro xs
  induction xs with
  | nil => intro e w ks; rfl
  | cons x xs ih =>
    intro e w ks
    unfold endR readR
    by_cases hx : x < 0
    · rw [if_pos hx, if_pos hx]
      exact ih _ _ _
    · rw [if_neg hx, if_neg hx, h x e w]
      cases rec x e w with
      | none => rfl
      | some z => exact ih _ _ _
theorem endT_eq (rs : List RuleL) (tree : List Int) : ∀ (f : Nat) (non : Int) (a : Nat) (w : List Int), endT rs tree f non a = (readT rs tree f non a w).map fun z => z.1.fin := by
  intro f
  induction f with
  | zero => intro non a w; rfl
  | succ f ih =>
    intro non a w
    unfold endT readT
    by_cases hk : okT rs tree non a = true
    · rw [if_pos hk, if_pos hk, endR_eq ih _ _ w []]
      cases readR (readT rs tree f) (rgtT rs tree a) (a + 1) w [] <;> rfl
    · rw [if_neg hk, if_neg hk]
      rfl
mutual
def PT.parts : PT → List PT
  | .mk n r a e f t ks => .mk n r a e f t ks :: PT.partsL ks
def PT.partsL : List PT → List PT
  | [] => []
  | k :: ks => k.parts ++ PT.partsL ks
end
theorem partsL_append (ks ls : List PT) : PT.partsL (ks ++ ls) = PT.partsL ks ++ PT.partsL ls := by
  induction ks with
  | nil => simp [PT.partsL]
  | cons k ks ih => simp [PT.partsL, ih]
theorem parts_cons (p : PT) : p.parts = p :: PT.partsL p.kids := by
  cases p
  simp [PT.parts, PT.kids]
/-- Parts stand one behind the other from a place on; each part's own stand behind it. -/
def Laid (l : List PT) (a : Nat) : Prop := ∀ i, (h : i < l.length) → l[i].at_ = a + i ∧ l[i].fin ≤ a + l.length ∧ a + i < l[i].fin ∧ l[i].parts = (l.drop i).take (l[i].fin - (a + i))
theorem Laid.append {l m : List PT} {a : Nat} (h : Laid l a) (g : Laid m (a + l.length)) : Laid (l ++ m) a := by
  intro i hi
  by_cases hl : i < l.length
  · obtain ⟨h1, h2, h3, h4⟩ := h i hl
    rw [List.getElem_append_left hl]
    refine ⟨h1, by simp; omega, h3, ?_⟩
    rw [List.drop_append_of_le_length (by omega), List.take_append_of_le_length (by simp; omega)]
    exact h4
  · obtain ⟨d, rfl⟩ : ∃ d, i = l.length + d := ⟨i - l.length, by omega⟩
    have hm : d < m.length := by simp at hi; omega
    obtain ⟨h1, h2, h3, h4⟩ := g d hm
    have e : (l ++ m)[l.length + d] = m[d] := by
      rw [List.getElem_append_right (by omega)]
      simp
    rw [e]
    have hlen : (l ++ m).length = l.length + m.length := List.length_append
    refine ⟨?_, ?_, ?_, ?_⟩
    · omega
    · omega
    · omega
    · have e2 : (l ++ m).drop (l.length + d) = m.drop d := by
        rw [← List.drop_drop, List.drop_left]
      rw [h4, e2, Nat.add_assoc]
theorem readR_laid {rec : Int → Nat → List Int → Option (PT × List Int)} (h : ∀ x a w p w', rec x a w = some (p, w') → Laid p.parts a ∧ p.fin = a + p.parts.length ∧ p.at_ = a ∧ p.non = x ∧ p.fr = w.length ∧ p.to = w'.length ∧ w.length ≤ w'.length) :
    ∀ (xs : List Int) (e : Nat) (w : List Int) (ks : List PT) (a : Nat) {ks' : List PT} {e' : Nat} {w' : List Int}, Laid (PT.partsL ks) a → e = a + (PT.partsL ks).length → readR rec xs e w ks = some (ks', e', w') → Laid (PT.partsL ks') a ∧ e' = a + (PT.partsL ks').length ∧ w.length ≤ w'.length := by
  intro xs
  induction xs with
  | nil =>
    intro e w ks a ks' e' w' hl he hr
    simp only [readR, Option.some.injEq, Prod.mk.injEq] at hr
    obtain ⟨rfl, rfl, rfl⟩ := hr
    exact ⟨hl, he, Nat.le_refl _⟩
  | cons x xs ih =>
    intro e w ks a ks' e' w' hl he hr
    unfold readR at hr
    by_cases hx : x < 0
    · rw [if_pos hx] at hr
      obtain ⟨h1, h2, h3⟩ := ih _ _ _ _ hl he hr
      exact ⟨h1, h2, by simp at h3; omega⟩
    · rw [if_neg hx] at hr
      cases hz : rec x e w with
      | none => rw [hz] at hr; cases hr
      | some z =>
        obtain ⟨k, w1⟩ := z
        rw [hz] at hr
        obtain ⟨h1, h2, _, _, _, _, h3⟩ := h x e w k w1 hz
        have hl' : Laid (PT.partsL (ks ++ [k])) a := by
          rw [partsL_append]
          refine hl.append ?_
          simp only [PT.partsL, List.append_nil]
          rw [← he]
          exact h1
        obtain ⟨g1, g2, g3⟩ := ih _ _ _ _ hl' (by rw [partsL_append]; simp [PT.partsL]; omega) hr
        exact ⟨g1, g2, by omega⟩
theorem readT_laid (rs : List RuleL) (tree : List Int) : ∀ (f : Nat) (non : Int) (a : Nat) (w : List Int) (p : PT) (w' : List Int), readT rs tree f non a w = some (p, w') → Laid p.parts a ∧ p.fin = a + p.parts.length ∧ p.at_ = a ∧ p.non = non ∧ p.fr = w.length ∧ p.to = w'.length ∧ w.length ≤ w'.length := by
  intro f
  induction f with
  | zero => intro non a w p w' h; cases h
  | succ f ih =>
    intro non a w p w' h
    unfold readT at h
    by_cases hk : okT rs tree non a = true
    · rw [if_pos hk] at h
      cases hz : readR (readT rs tree f) (rgtT rs tree a) (a + 1) w [] with
      | none => rw [hz] at h; cases h
      | some z =>
        obtain ⟨ks, e, w1⟩ := z
        rw [hz] at h
        simp only [Option.some.injEq, Prod.mk.injEq] at h
        obtain ⟨rfl, rfl⟩ := h
        have h0 : Laid (PT.partsL []) (a + 1) := fun i hi => by simp [PT.partsL] at hi
        obtain ⟨h1, h2, h3⟩ := readR_laid ih _ _ _ _ (a + 1) h0 (by simp [PT.partsL]) hz
        refine ⟨?_, by simp [PT.parts, PT.fin]; omega, rfl, rfl, rfl, rfl, h3⟩
        rw [PT.parts]
        intro i hi
        cases i with
        | zero =>
          refine ⟨rfl, ?_, ?_, ?_⟩
          · simp [PT.fin]; omega
          · simp [PT.fin]; omega
          · simp only [List.getElem_cons_zero, PT.fin, List.drop_zero, PT.parts]
            rw [List.take_of_length_le]
            simp
            omega
        | succ i =>
          simp only [List.length_cons] at hi
          obtain ⟨g1, g2, g3, g4⟩ := h1 i (by omega)
          simp only [List.getElem_cons_succ, List.drop_succ_cons, List.length_cons]
          refine ⟨by rw [g1]; omega, by omega, by omega, ?_⟩
          rw [g4]
          congr 1
          omega
    · rw [if_neg hk] at h
      cases h
theorem readR_words {rec : Int → Nat → List Int → Option (PT × List Int)} (h : ∀ x a w p w', rec x a w = some (p, w') → w.length ≤ w'.length ∧ w'.length ≤ w.length + 4 * p.parts.length) :
    ∀ (xs : List Int) (e : Nat) (w : List Int) (ks : List PT) {ks' : List PT} {e' : Nat} {w' : List Int}, readR rec xs e w ks = some (ks', e', w') → w.length ≤ w'.length ∧ w'.length + 4 * (PT.partsL ks).length ≤ w.length + xs.length + 4 * (PT.partsL ks').length := by
  intro xs
  induction xs with
  | nil =>
    intro e w ks ks' e' w' hr
    simp only [readR, Option.some.injEq, Prod.mk.injEq] at hr
    obtain ⟨rfl, rfl, rfl⟩ := hr
    simp
  | cons x xs ih =>
    intro e w ks ks' e' w' hr
    unfold readR at hr
    split at hr
    · have := ih _ _ _ hr
      simp at this ⊢
      omega
    · split at hr
      · cases hr
      · rename_i k w1 hz
        have h1 := h _ _ _ _ _ hz
        have h2 := ih _ _ _ hr
        rw [partsL_append] at h2
        simp [PT.partsL] at h2 ⊢
        omega
theorem readT_words {rs : List RuleL} {tree : List Int} (h4 : ∀ q, q < rs.length → (rul rs q).2.length ≤ 4) : ∀ (f : Nat) (non : Int) (a : Nat) (w : List Int) (p : PT) (w' : List Int), readT rs tree f non a w = some (p, w') → w.length ≤ w'.length ∧ w'.length ≤ w.length + 4 * p.parts.length := by
  intro f
  induction f with
  | zero => intro non a w p w' h; cases h
  | succ f ih =>
    intro non a w p w' h
    unfold readT at h
    split at h
    · rename_i hok
      split at h
      · cases h
      · rename_i ks e w1 hz
        simp only [Option.some.injEq, Prod.mk.injEq] at h
        obtain ⟨rfl, rfl⟩ := h
        have h1 := readR_words ih _ _ _ _ hz
        have h5 : (rgtT rs tree a).length ≤ 4 := by
          simp only [okT, Bool.and_eq_true, decide_eq_true_eq] at hok
          exact h4 _ (by omega)
        simp only [PT.parts, List.length_cons, PT.partsL, List.length_nil] at h1 ⊢
        omega
    · cases h
/-- What the reference tells of a part. -/
def PT.row (p : PT) : List Int := [p.non, p.fin, p.fr, p.to]
def noPT : PT := .mk 0 0 0 0 0 0 []
def ptn (l : List PT) (i : Nat) : PT := l.getD i noPT
end Go.Sh

/- Things that lie apart, in any order; trees of parts in memory. -/
set_option linter.unusedVariables false
set_option linter.unusedSimpArgs false
set_option maxRecDepth 100000
namespace Go.Sh
open Go
/-! ### Order, less, together -/
def Away (a b : Thing) : Prop := ∀ q, a.ft q → ¬ b.ft q
theorem Away.symm {a b : Thing} (h : Away a b) : Away b a := fun q hq hq' => h q hq' hq
theorem apt_pair {L : List Thing} : (∀ (i j : Nat) (a b : Thing), i ≠ j → L[i]? = some a → L[j]? = some b → Away a b) ↔ L.Pairwise Away := by
  induction L with
  | nil => exact ⟨fun _ => .nil, fun _ i j a b _ h => by simp at h⟩
  | cons x L ih =>
    constructor
    · intro h
      refine List.Pairwise.cons (fun y hy => ?_) (ih.1 fun i j a b hij ha hb => h (i + 1) (j + 1) a b (by omega) (by simpa using ha) (by simpa using hb))
      obtain ⟨j, hj⟩ := List.getElem?_of_mem hy
      exact h 0 (j + 1) x y (by omega) rfl (by simpa using hj)
    · intro h i j a b hij ha hb
      obtain ⟨h1, h2⟩ := List.pairwise_cons.1 h
      match i, j with
      | 0, 0 => exact absurd rfl hij
      | 0, j + 1 =>
        obtain rfl : x = a := by simpa using ha
        exact h1 b (List.mem_of_getElem? (by simpa using hb))
      | i + 1, 0 =>
        obtain rfl : x = b := by simpa using hb
        exact (h1 a (List.mem_of_getElem? (by simpa using ha))).symm
      | i + 1, j + 1 => exact ih.2 h2 i j a b (by omega) (by simpa using ha) (by simpa using hb)
theorem Apt.perm {w0 w : World} {L M : List Thing} (H : Apt w0 w L) (p : L.Perm M) : Apt w0 w M := by
  refine ⟨H.gr, fun i it hi => ?_, apt_pair.2 ?_⟩
  · obtain ⟨j, hj⟩ := List.getElem?_of_mem (p.symm.subset (List.mem_of_getElem? hi))
    exact H.ok j it hj
  · exact (p.pairwise_iff fun h => Away.symm h).1 (apt_pair.1 H.two)
/-- The last thing comes to place n. -/
theorem Apt.insert {w0 w : World} {L : List Thing} {x : Thing} (H : Apt w0 w (L ++ [x])) (n : Nat) : Apt w0 w (L.take n ++ x :: L.drop n) := by
  refine H.perm ?_
  have e : L ++ [x] = L.take n ++ (L.drop n ++ [x]) := by rw [← List.append_assoc, List.take_append_drop]
  rw [e]
  exact (List.perm_append_comm (l₁ := L.drop n) (l₂ := [x])).append_left _
theorem Apt.erase {w0 w : World} {L : List Thing} (H : Apt w0 w L) (n : Nat) : Apt w0 w (L.eraseIdx n) := by
  have h : ∀ (i : Nat) (a : Thing), (L.eraseIdx n)[i]? = some a → L[if i < n then i else i + 1]? = some a := fun i a ha => by
    rw [List.getElem?_eraseIdx] at ha
    split at ha
    · rename_i h; rw [if_pos h]; exact ha
    · rename_i h; rw [if_neg h]; exact ha
  refine H.pick (fun i => if i < n then i else i + 1) h fun i j _ _ e => ?_
  split at e <;> split at e <;> omega
theorem Apt.weaken {w0 w : World} {L : List Thing} (H : Apt w0 w L) (i : Nat) {a b : Thing} (hi : L[i]? = some a) (hf : ∀ q, b.ft q → a.ft q) (hp : ∀ w', (∀ q, a.ft q → w'.heap[q]? = w.heap[q]?) → a.P w' → b.P w') (hk : ∀ w' w'', (∀ q, b.ft q → w''.heap[q]? = w'.heap[q]?) → b.P w' → b.P w'') : Apt w0 w (L.set i b) :=
  H.set hi (Gx.refl _ w) (fun q hq => .inl (hf q hq)) (fun q hq => (H.ok i a hi).hi q (hf q hq)) fun w'' h => hk w w'' h (hp w (fun _ _ => rfl) (H.get i hi))
/-! ### Trees of parts -/
abbrev ptrv (b : Nat) : Value := .pointer (some ⟨b, 0, none⟩)
mutual
def PartAt (F : Nat → Prop) (w : World) : PT → Nat → Prop
  | .mk non rule a e f t ks, b => F b ∧ ∃ X c, Box w b [.int .i64 non, .int .i64 rule, .int .i64 a, .int .i64 e, .int .i64 f, .int .i64 t, .slice X ks.length c] 93 ∧ (0 < ks.length → X = some (ad X) ∧ F (ad X).block) ∧ ks.length ≤ c ∧ KidsAt F w ks X 0
def KidsAt (F : Nat → Prop) (w : World) : List PT → Option Addr → Nat → Prop
  | [], _, _ => True
  | k :: ks, X, j => (∃ b, w.cell? ((ad X).add j) = some (ptrv b) ∧ PartAt F w k b) ∧ KidsAt F w ks X (j + 1)
end
mutual
theorem PartAt.gr {F : Nat → Prop} {w w' : World} (g : Gr w w') : (p : PT) → (b : Nat) → PartAt F w p b → PartAt F w' p b
  | .mk non rule a e f t ks, b, h => by
    simp only [PartAt] at h ⊢
    obtain ⟨hb, X, c, h1, h2, h3, h4⟩ := h
    exact ⟨hb, X, c, h1.gr g, h2, h3, KidsAt.gr g ks X 0 h4⟩
theorem KidsAt.gr {F : Nat → Prop} {w w' : World} (g : Gr w w') : (ks : List PT) → (X : Option Addr) → (j : Nat) → KidsAt F w ks X j → KidsAt F w' ks X j
  | [], X, j, _ => by simp only [KidsAt]
  | k :: ks, X, j, h => by
    simp only [KidsAt] at h ⊢
    obtain ⟨⟨b, h1, h2⟩, h3⟩ := h
    exact ⟨⟨b, g.cell h1, PartAt.gr g k b h2⟩, KidsAt.gr g ks X (j + 1) h3⟩
end
mutual
theorem PartAt.same {F : Nat → Prop} {w w' : World} (hs : ∀ q, F q → w'.heap[q]? = w.heap[q]?) : (p : PT) → (b : Nat) → PartAt F w p b → PartAt F w' p b
  | .mk non rule a e f t ks, b, h => by
    simp only [PartAt] at h ⊢
    obtain ⟨hb, X, c, h1, h2, h3, h4⟩ := h
    refine ⟨hb, X, c, (hs b hb).trans h1, h2, h3, ?_⟩
    cases ks with
    | nil => simp only [KidsAt]
    | cons k ks => exact KidsAt.same hs (k :: ks) X 0 (h2 (by simp)).2 h4
theorem KidsAt.same {F : Nat → Prop} {w w' : World} (hs : ∀ q, F q → w'.heap[q]? = w.heap[q]?) : (ks : List PT) → (X : Option Addr) → (j : Nat) → F (ad X).block → KidsAt F w ks X j → KidsAt F w' ks X j
  | [], X, j, _, _ => by simp only [KidsAt]
  | k :: ks, X, j, hX, h => by
    simp only [KidsAt] at h ⊢
    obtain ⟨⟨b, h1, h2⟩, h3⟩ := h
    refine ⟨⟨b, ?_, PartAt.same hs k b h2⟩, KidsAt.same hs ks X (j + 1) hX h3⟩
    rw [World.cell?_of_block (hs _ (by rw [add_block]; exact hX))]
    exact h1
end
mutual
theorem PartAt.mono {F E : Nat → Prop} {w : World} (he : ∀ q, F q → E q) : (p : PT) → (b : Nat) → PartAt F w p b → PartAt E w p b
  | .mk non rule a e f t ks, b, h => by
    simp only [PartAt] at h ⊢
    obtain ⟨hb, X, c, h1, h2, h3, h4⟩ := h
    exact ⟨he _ hb, X, c, h1, fun hp => ⟨(h2 hp).1, he _ (h2 hp).2⟩, h3, KidsAt.mono he ks X 0 h4⟩
theorem KidsAt.mono {F E : Nat → Prop} {w : World} (he : ∀ q, F q → E q) : (ks : List PT) → (X : Option Addr) → (j : Nat) → KidsAt F w ks X j → KidsAt E w ks X j
  | [], X, j, _ => by simp only [KidsAt]
  | k :: ks, X, j, h => by
    simp only [KidsAt] at h ⊢
    obtain ⟨⟨b, h1, h2⟩, h3⟩ := h
    exact ⟨⟨b, h1, PartAt.mono he k b h2⟩, KidsAt.mono he ks X (j + 1) h3⟩
end
theorem KidsAt.get {F : Nat → Prop} {w : World} {X : Option Addr} : ∀ {ks : List PT} {j i : Nat}, KidsAt F w ks X j → i < ks.length → ∃ b, w.cell? ((ad X).add (j + i)) = some (ptrv b) ∧ PartAt F w (ptn ks i) b := by
  intro ks
  induction ks with
  | nil => intro j i _ h; simp at h
  | cons k ks ih =>
    intro j i h hi
    simp only [KidsAt] at h
    cases i with
    | zero => exact h.1
    | succ i =>
      obtain ⟨b, h1, h2⟩ := ih h.2 (by simpa using hi)
      exact ⟨b, by rw [show j + (i + 1) = j + 1 + i from by omega]; exact h1, by simpa [ptn] using h2⟩
/-- What is at a part's place. -/
theorem PartAt.box {F : Nat → Prop} {w : World} {p : PT} {b : Nat} (h : PartAt F w p b) : ∃ X c, Box w b [.int .i64 p.non, .int .i64 p.rule, .int .i64 p.at_, .int .i64 p.fin, .int .i64 p.fr, .int .i64 p.to, .slice X p.kids.length c] 93 ∧ (0 < p.kids.length → X = some (ad X)) ∧ p.kids.length ≤ c ∧ KidsAt F w p.kids X 0 := by
  cases p with
  | mk non rule a e f t ks =>
    simp only [PartAt] at h
    obtain ⟨_, X, c, h1, h2, h3, h4⟩ := h
    exact ⟨X, c, h1, fun hp => (h2 hp).1, h3, h4⟩
/-- Pointers to parts. -/
def AllPt (F : Nat → Prop) (w : World) (ps : List PT) (bs : List Nat) : Prop := bs.length = ps.length ∧ ∀ i, i < ps.length → PartAt F w (ptn ps i) (bs.getD i 0)
theorem AllPt.gr {F : Nat → Prop} {w w' : World} {ps : List PT} {bs : List Nat} (h : AllPt F w ps bs) (g : Gr w w') : AllPt F w' ps bs := ⟨h.1, fun i hi => PartAt.gr g _ _ (h.2 i hi)⟩
theorem AllPt.append {F : Nat → Prop} {w : World} {ps qs : List PT} {bs cs : List Nat} (h : AllPt F w ps bs) (g : AllPt F w qs cs) : AllPt F w (ps ++ qs) (bs ++ cs) := by
  refine ⟨by simp [h.1, g.1], fun i hi => ?_⟩
  by_cases hl : i < ps.length
  · have := h.2 i hl
    have hb := h.1
    simpa [ptn, List.getD_eq_getElem?_getD, List.getElem?_append_left hl, List.getElem?_append_left (show i < bs.length by omega)] using this
  · rw [List.length_append] at hi
    have := g.2 (i - ps.length) (by omega)
    have hb := h.1
    rw [show ptn (ps ++ qs) i = ptn qs (i - ps.length) from by simp [ptn, List.getD_eq_getElem?_getD, List.getElem?_append_right (show ps.length ≤ i by omega)]]
    rw [show (bs ++ cs).getD i 0 = cs.getD (i - ps.length) 0 from by simp [List.getD_eq_getElem?_getD, List.getElem?_append_right (show bs.length ≤ i by omega), hb]]
    exact this
theorem AllPt.one {F : Nat → Prop} {w : World} {p : PT} {b : Nat} (h : PartAt F w p b) : AllPt F w [p] [b] := ⟨rfl, fun i hi => by
  obtain rfl : i = 0 := by simpa using hi
  exact h⟩

/-! ### Building a struct -/
def sizesOK (P : Program) : List Field → List (Nat × Nat) → Prop
  | [], [] => True
  | f :: fs, p :: ps => (f.offset = p.1 ∧ szOf P f.type p.2) ∧ sizesOK P fs ps
  | _, _ => False
theorem run_places {P : Program} (w : World) : ∀ (fs : List Field) (ps : List (Nat × Nat)), sizesOK P fs ps → (fs.mapM (m := Sem) fun f => do pure (f.offset, ← sizeOf f.type)).run P w = .ok ps w := by
  intro fs
  induction fs with
  | nil =>
    intro ps h
    cases ps with
    | nil => rfl
    | cons p ps => exact h.elim
  | cons f fs ih =>
    intro ps h
    cases ps with
    | nil => exact h.elim
    | cons p ps =>
      obtain ⟨⟨h1, h2⟩, h3⟩ := h
      rw [List.mapM_cons]
      simp only [Sem.run_bind, run_size h2, Result.andThen, Sem.run_pure, ih ps h3, h1]
theorem rd_buildN {P : Program} {S : WS} {k : Value → Prop} {t sz by' : Nat} {z : Value} {fs : Array Field} {ps : List (Nat × Nat)} {qs : List (Nat × Value)} {cells : Array Value} (ht : P.underlying t = some (.struct fs)) (H : Inf P t z sz by') (hs : sizesOK P fs.toList ps) (hf : Instr.fill (ps.toArray[·]?) z.cells qs = some cells) : Rd P S (sBuild t qs) k = k (.agg cells) := rd_eq fun w _ => by
  obtain ⟨i, hi, hz, _, _⟩ := H
  have e0 : (zeroValue t).run P w = .ok z w := by simp [zeroValue, run_info hi, hz]
  have e1 : (fs.mapM (m := Sem) fun f => do pure (f.offset, ← sizeOf f.type)).run P w = .ok ps.toArray w := by
    rw [Array.mapM_eq_mapM_toList, Sem.run_map, run_places w fs.toList ps hs]
    rfl
  simp only [sBuild, Instr.build, Sem.run_bind, e0, Result.andThen, run_underlying ht, e1, hf]
  rfl
end Go.Sh
namespace Go.Proofs.Ytiohaeckagjebaa
open Go Go.Sh
end Go.Proofs.Ytiohaeckagjebaa

/- Contract: what comes again and again, by the program. -/
set_option linter.unusedVariables false
set_option linter.unusedSimpArgs false
set_option maxRecDepth 100000
namespace Go.Proofs.Ytiohaeckagjebaa
open Go Go.Sh Go.RowKit

end Go.Proofs.Ytiohaeckagjebaa

/- Contracts: how long a word must be, by the reference and by the program. -/
set_option linter.unusedVariables false
set_option linter.unusedSimpArgs false
set_option maxRecDepth 100000
namespace Go.Sh
open Go
end Go.Sh
namespace Go.Proofs.Ytiohaeckagjebaa
open Go Go.Sh Go.RowKit

end Go.Proofs.Ytiohaeckagjebaa

/- The law of LongEnough, over its contracts. -/
set_option linter.unusedVariables false
set_option linter.unusedSimpArgs false
set_option maxRecDepth 100000
namespace Go.Sh
open Go
theorem left_ok {n : Int} {s : Nat} (h : ¬ left n s < 0) : (s : Int) ≤ n := by
  unfold left at h
  split at h <;> omega
end Go.Sh
namespace Go.Proofs.Ytiohaeckagjebaa
open Go Go.Sh Go.RowKit

end Go.Proofs.Ytiohaeckagjebaa

/- The law of StarOf, over its contracts. -/
set_option linter.unusedVariables false
set_option linter.unusedSimpArgs false
set_option maxRecDepth 100000
namespace Go.Sh
open Go
def resG : Option Gram → Gram
  | some m => m
  | none => ⟨0, 0, []⟩
theorem GramR.own {w : World} {B : Nat} {v : Value} {o : Option Gram} (h : GramR w B v o) : GramO w B v (resG o) := by
  cases o with
  | some m => exact h
  | none => exact ⟨none, 0, fun _ => (none, 0), h, ⟨[], Row.nil _ _ _ _, fun j hj => by simp [resG] at hj⟩, fun j hj => by simp [resG] at hj, fun i j hi => by simp [resG] at hi⟩
end Go.Sh
namespace Go.Proofs.Ytiohaeckagjebaa
open Go Go.Sh Go.RowKit

end Go.Proofs.Ytiohaeckagjebaa

/- Be: bodies of functions as terms of the frame calculus, printed by shgen.py of this repository. -/
set_option linter.unusedVariables false
set_option maxRecDepth 100000
namespace Go.Proofs.Ytiohaeckagjebaa
open Go Go.Sh

/-! loop.example/g00758/laws.FnExactPumpOf -/
/-! loop.example/g00758/laws.FnExactPathIn -/
/-! loop.example/g00758/laws.FnExactPumpTree -/
/-! loop.example/g00758/spec.PumpOf -/
/-! loop.example/g00758/impl.PumpOf -/
/-! loop.example/g00758/spec.PathIn -/
/-! loop.example/g00758/impl.PathIn -/
/-! loop.example/g00758/laws.eqIntSS -/
def pl46 : Plans := fun i => match i with
  | 6 => ⟨false, [8], .step 0 .any (.step 1 .any (.step 2 .any (.step 3 .held (.step 4 .any (.step 5 .any (.step 6 .any (.step 7 .held (.step 8 .last (.step 9 .any (.nil))))))))))⟩
  | _ => ⟨false, [], .nil⟩
def S46 (v0 v1 : Value) (k : Value → World → Prop) (w : World) : Prop :=
 Rd Try.prog (WS.at w) (sBuiltin .len #[48] 3 [false] [v0]) fun t1 =>
 Rd Try.prog (WS.at w) (sBuiltin .len #[48] 3 [false] [v1]) fun t2 =>
 Rd Try.prog (WS.at w) (sBin .neq 3 false t1 t2) fun t3 =>
 CondK t3
  (k (.bool false) w)
  (LoopF [11, 12, 13, 14, 17, 18, 19, 20, 21, 22, 23, 24, 25, 26, 4, 15, 16, 5] (fun Q4 f5 w6 =>
   Rd Try.prog (WS.at w6) (sBuiltin .len #[48] 3 [false] [(f5 0)]) fun t7 =>
   Rd Try.prog (WS.at w6) (sBin .lss 3 false (f5 5) t7) fun t8 =>
   CondK t8
    (Rd Try.prog WS.any (sIndexAddr 48 (f5 0) (f5 5)) fun t9 =>
    Rd Try.prog (WS.at w6.drew) (sLoad 22 t9) fun t10 =>
    Rd Try.prog WS.any (sIndexAddr 48 (f5 1) (f5 5)) fun t11 =>
    Rd Try.prog (WS.at w6.drew) (sLoad 22 t11) fun t12 =>
    CallK Try.prog 26 [t10, t12] (fun t13 w14 =>
    Rd Try.prog WS.any (sUn .not t13) fun t15 =>
    CondK t15
     (Q4 .ret (F.upd (F.upd (F.upd (F.upd (F.upd (F.upd (F.upd (F.upd (F.upd (F.upd (F.upd (F.upd (F.upd (F.upd (F.upd f5 11 (f5 5)) 12 (f5 0)) 13 t7) 14 t8) 17 (f5 0)) 18 (f5 5)) 19 t9) 20 t10) 21 (f5 1)) 22 (f5 5)) 23 t11) 24 t12) 25 t13) 26 t15) 4 (.bool false)) w14)
     (Rd Try.prog (WS.at w14) (sBin .add 3 true (f5 5) (.int .i64 1)) fun t16 =>
     Q4 .normal (F.upd (F.upd (F.upd (F.upd (F.upd (F.upd (F.upd (F.upd (F.upd (F.upd (F.upd (F.upd (F.upd (F.upd (F.upd (F.upd (F.upd f5 11 (f5 5)) 12 (f5 0)) 13 t7) 14 t8) 17 (f5 0)) 18 (f5 5)) 19 t9) 20 t10) 21 (f5 1)) 22 (f5 5)) 23 t11) 24 t12) 25 t13) 26 t15) 15 (f5 5)) 16 t16) 5 t16) w14)) w6.drew)
    (Q4 (.exit 0) (F.upd (F.upd (F.upd (F.upd f5 11 (f5 5)) 12 (f5 0)) 13 t7) 14 t8) w6))
   (blockQ 0 (seqQ (fun f17 w18 =>
  k (.bool true) w18) (bodyQ Try.prog [.tmp 4] k)))
   (F.upd (F.upd (F.upd (F.upd (F.upd (F.upd (F.upd (initF [v0, v1]) 4 (.bool false)) 6 v0) 7 t1) 8 v1) 9 t2) 10 t3) 5 (.int .i64 0)) w)
theorem body46 : Try.f46.body = some (bodyOf Try.f46) := by kernel_rfl
theorem same46 (v0 v1 : Value) (k : Value → World → Prop) (w : World) : wpF Try.prog pl46 (bodyOf Try.f46) (bodyQ Try.prog Try.f46.results.toList k) (initF [v0, v1]) w = S46 v0 v1 k w := by kernel_rfl
theorem enter46 {v0 v1 : Value} {k : Value → World → Prop} {w : World} (h : S46 v0 v1 k w) : CallK Try.prog 46 [v0, v1] k w :=
  call_of_wpF (pl := pl46) mixed Try.func46 body46 (by kernel_rfl) (of_decide_eq_true (by kernel_rfl)) (by kernel_rfl) (by kernel_rfl) (same46 v0 v1 k w ▸ h)

/-! loop.example/g00758/laws.markIntSS -/
def pl47 : Plans := fun _ => ⟨false, [], .nil⟩
def S47 (v0 v1 : Value) (k : Value → World → Prop) (w : World) : Prop :=
 LoopF [6, 7, 8, 9, 12, 13, 14, 15, 16, 17, 1, 10, 11, 5] (fun Q1 f2 w3 =>
  Rd Try.prog (WS.at w3) (sBuiltin .len #[48] 3 [false] [(f2 0)]) fun t4 =>
  Rd Try.prog (WS.at w3) (sBin .lss 3 false (f2 5) t4) fun t5 =>
  CondK t5
   (Rd Try.prog (WS.at w3) (sIndexAddr 48 (f2 0) (f2 5)) fun t6 =>
   Rd Try.prog (WS.at w3) (sLoad 22 t6) fun t7 =>
   CallK Try.prog 27 [t7, (f2 1)] (fun t8 w9 =>
   Rd Try.prog (WS.at w9) (sBin .add 3 true (f2 5) (.int .i64 1)) fun t10 =>
   Q1 .normal (F.upd (F.upd (F.upd (F.upd (F.upd (F.upd (F.upd (F.upd (F.upd (F.upd (F.upd (F.upd (F.upd (F.upd f2 6 (f2 5)) 7 (f2 0)) 8 t4) 9 t5) 12 (f2 0)) 13 (f2 5)) 14 t6) 15 t7) 16 (f2 1)) 17 t8) 1 t8) 10 (f2 5)) 11 t10) 5 t10) w9) w3)
   (Q1 (.exit 0) (F.upd (F.upd (F.upd (F.upd f2 6 (f2 5)) 7 (f2 0)) 8 t4) 9 t5) w3))
  (blockQ 0 (seqQ (fun f11 w12 =>
 k (f11 1) w12) (bodyQ Try.prog [.tmp 4] k)))
  (F.upd (F.upd (initF [v0, v1]) 4 (.int .i64 0)) 5 (.int .i64 0)) w
theorem body47 : Try.f47.body = some (bodyOf Try.f47) := by kernel_rfl
theorem same47 (v0 v1 : Value) (k : Value → World → Prop) (w : World) : wpF Try.prog pl47 (bodyOf Try.f47) (bodyQ Try.prog Try.f47.results.toList k) (initF [v0, v1]) w = S47 v0 v1 k w := by kernel_rfl
theorem enter47 {v0 v1 : Value} {k : Value → World → Prop} {w : World} (h : S47 v0 v1 k w) : CallK Try.prog 47 [v0, v1] k w :=
  call_of_wpF (pl := pl47) mixed Try.func47 body47 (by kernel_rfl) (of_decide_eq_true (by kernel_rfl)) (by kernel_rfl) (by kernel_rfl) (same47 v0 v1 k w ▸ h)

/-! loop.example/g00758/laws.heldIntSS -/
def pl48 : Plans := fun _ => ⟨false, [], .nil⟩
def S48 (v0 v1 : Value) (k : Value → World → Prop) (w : World) : Prop :=
 LoopF [6, 7, 8, 9, 12, 13, 14, 15, 16, 17, 1, 18, 19, 4, 10, 11, 5] (fun Q1 f2 w3 =>
  Rd Try.prog (WS.at w3) (sBuiltin .len #[48] 3 [false] [(f2 0)]) fun t4 =>
  Rd Try.prog (WS.at w3) (sBin .lss 3 false (f2 5) t4) fun t5 =>
  CondK t5
   (Rd Try.prog (WS.at w3) (sIndexAddr 48 (f2 0) (f2 5)) fun t6 =>
   Rd Try.prog (WS.at w3) (sLoad 22 t6) fun t7 =>
   CallK Try.prog 28 [t7, (f2 1)] (fun t8 w9 =>
   Rd Try.prog (WS.at w9) (sBin .lss 3 true t8 (.int .i64 0)) fun t10 =>
   CondK t10
    (Q1 .ret (F.upd (F.upd (F.upd (F.upd (F.upd (F.upd (F.upd (F.upd (F.upd (F.upd (F.upd (F.upd (F.upd (F.upd f2 6 (f2 5)) 7 (f2 0)) 8 t4) 9 t5) 12 (f2 0)) 13 (f2 5)) 14 t6) 15 t7) 16 (f2 1)) 17 t8) 1 t8) 18 t8) 19 t10) 4 (.int .i64 (-1))) w9)
    (Rd Try.prog (WS.at w9) (sBin .add 3 true (f2 5) (.int .i64 1)) fun t11 =>
    Q1 .normal (F.upd (F.upd (F.upd (F.upd (F.upd (F.upd (F.upd (F.upd (F.upd (F.upd (F.upd (F.upd (F.upd (F.upd (F.upd (F.upd f2 6 (f2 5)) 7 (f2 0)) 8 t4) 9 t5) 12 (f2 0)) 13 (f2 5)) 14 t6) 15 t7) 16 (f2 1)) 17 t8) 1 t8) 18 t8) 19 t10) 10 (f2 5)) 11 t11) 5 t11) w9)) w3)
   (Q1 (.exit 0) (F.upd (F.upd (F.upd (F.upd f2 6 (f2 5)) 7 (f2 0)) 8 t4) 9 t5) w3))
  (blockQ 0 (seqQ (fun f12 w13 =>
 k (f12 1) w13) (bodyQ Try.prog [.tmp 4] k)))
  (F.upd (F.upd (initF [v0, v1]) 4 (.int .i64 0)) 5 (.int .i64 0)) w
theorem body48 : Try.f48.body = some (bodyOf Try.f48) := by kernel_rfl
theorem same48 (v0 v1 : Value) (k : Value → World → Prop) (w : World) : wpF Try.prog pl48 (bodyOf Try.f48) (bodyQ Try.prog Try.f48.results.toList k) (initF [v0, v1]) w = S48 v0 v1 k w := by kernel_rfl
theorem enter48 {v0 v1 : Value} {k : Value → World → Prop} {w : World} (h : S48 v0 v1 k w) : CallK Try.prog 48 [v0, v1] k w :=
  call_of_wpF (pl := pl48) mixed Try.func48 body48 (by kernel_rfl) (of_decide_eq_true (by kernel_rfl)) (by kernel_rfl) (by kernel_rfl) (same48 v0 v1 k w ▸ h)

/-! loop.example/g00758/spec.PumpTree -/
/-! loop.example/g00758/impl.PumpTree -/
/-! loop.example/g00758/spec.l18Asked -/
/-! loop.example/g00758/spec.l18Pump -/
/-! (loop.example/g00758/impl.Grammar).whole -/
/-! (*loop.example/g00758/impl.part).pump -/
/-! loop.example/g00758/spec.l18Parts -/
/-! (*loop.example/g00758/impl.part).parts -/
/-! loop.example/g00758/spec.l11Asked -/
/-! loop.example/g00758/spec.l11Is -/
/-! (loop.example/g00758/impl.Grammar).tree -/
/-! loop.example/g00758/spec.l11End -/
/-! (loop.example/g00758/impl.Grammar).tree$1 -/
/-! loop.example/g00758/impl.symbolOf -/
def pl179 : Plans := fun _ => ⟨false, [], .nil⟩
def S179 (v0 : Value) (k : Value → World → Prop) (w : World) : Prop :=
 Rd Try.prog (WS.at w) (sBin .sub 3 true (.int .i64 (-1)) v0) fun t1 =>
 k t1 w
theorem body179 : Try.f179.body = some (bodyOf Try.f179) := by kernel_rfl
theorem same179 (v0 : Value) (k : Value → World → Prop) (w : World) : wpF Try.prog pl179 (bodyOf Try.f179) (bodyQ Try.prog Try.f179.results.toList k) (initF [v0]) w = S179 v0 k w := by kernel_rfl
theorem enter179 {v0 : Value} {k : Value → World → Prop} {w : World} (h : S179 v0 k w) : CallK Try.prog 179 [v0] k w :=
  call_of_wpF (pl := pl179) mixed Try.func179 body179 (by kernel_rfl) (of_decide_eq_true (by kernel_rfl)) (by kernel_rfl) (by kernel_rfl) (same179 v0 k w ▸ h)

end Go.Proofs.Ytiohaeckagjebaa

/- What the laws do with memory: copies, marks, looks, over things that lie apart. -/
set_option linter.unusedVariables false
set_option linter.unusedSimpArgs false
set_option maxRecDepth 100000
namespace Go.Sh
open Go
def total (ls : List (List Int)) : Nat := (ls.map List.length).sum
theorem total_snoc (ls : List (List Int)) (l : List Int) : total (ls ++ [l]) = total ls + l.length := by simp [total]
def markS (m : Int) : List (List Int) → List (List Int)
  | [] => []
  | l :: ls => marks m l.length :: markS (m + l.length) ls
theorem markS_length : ∀ (m : Int) (ls : List (List Int)), (markS m ls).length = ls.length
  | m, [] => rfl
  | m, l :: ls => by simp [markS, markS_length]
theorem markS_snoc : ∀ (m : Int) (ls : List (List Int)) (l : List Int), markS m (ls ++ [l]) = markS m ls ++ [marks (m + total ls) l.length]
  | m, [], l => by simp [markS, total]
  | m, x :: ls, l => by
    have e : m + (x.length : Int) + (total ls : Nat) = m + (total (x :: ls) : Nat) := by
      simp only [total, List.map_cons, List.sum_cons]
      omega
    simp only [List.cons_append, markS, markS_snoc, e]
theorem total_take_le (ls : List (List Int)) (i : Nat) : total (ls.take i) ≤ total ls := by
  have e : total ls = total (ls.take i) + total (ls.drop i) := by
    unfold total
    rw [← List.sum_append, ← List.map_append, List.take_append_drop]
  omega
theorem OwnSS.putAll {e1 e2 : Nat} {w w' : World} {B c i : Nat} {ys : List Int} {X : Option Addr} {ls : List (List Int)} {ps : Nat → Option Addr × Nat} (h : OwnSS e1 e2 w B X c ls ps) (he : e1 ≠ e2) (hi : i < ls.length) (hl : ys.length = (rgt ls i).length) (hr : Own e2 w' B (ps i).1 (ps i).2 ys) (g : w.grownBy w' (blk (ps i).1)) : OwnSS e1 e2 w' B X c (ls.set i ys) ps := by
  obtain ⟨⟨cells, hr0, hc⟩, ho, ht⟩ := h
  have hg : ∀ j, rgt (ls.set i ys) j = if j = i then ys else rgt ls j := fun j => by
    simp only [rgt, List.getD_eq_getElem?_getD, List.getElem?_set]
    by_cases hij : i = j
    · subst hij
      simp [hi]
    · rw [if_neg hij, if_neg (fun e => hij e.symm)]
  refine ⟨⟨cells, by rw [List.length_set]; exact Row.kept hr0 g (row_ne hr0 (ho i hi) he), fun j hj => ?_⟩, fun j hj => ?_, fun a b ha hb hab => ?_⟩
  · rw [List.length_set] at hj
    rw [hc j hj, hg j]
    by_cases hij : j = i
    · subst hij
      rw [if_pos rfl, hl]
    · rw [if_neg hij]
  · rw [List.length_set] at hj
    rw [hg j]
    by_cases hij : j = i
    · subst hij
      rw [if_pos rfl]
      exact hr
    · rw [if_neg hij]
      exact Row.kept (ho j hj) g (ht j i hj hi hij)
  · rw [List.length_set] at ha hb
    exact ht a b ha hb hab
theorem left_le {n : Int} {s : Nat} (h : 0 ≤ n) : left n s ≤ n := by
  unfold left
  split <;> omega
theorem Apt.setRules {w0 w w' : World} {L : List Thing} (H : Apt w0 w L) (i : Nat) {e1 e2 B c : Nat} {X : Option Addr} {rs rs' : List RuleL} {ps : Nat → Option Addr × Nat} (hi : L[i]? = some (rls e1 e2 X c rs ps)) (hl : rs'.length = rs.length) (g : Gx (Foot X ps rs.length) w w') (h : OwnR e1 e2 w' B X c rs' ps) : Apt w0 w' (L.set i (rls e1 e2 X c rs' ps)) :=
  H.set hi g (fun q hq => .inl (show Foot X ps rs.length q from hl ▸ (show Foot X ps rs'.length q from hq))) (fun q hq => (h.foot hq).2) (rls_kept h)
section
variable {P : Program} {S : WS} {k : Value → Prop}
theorem bin_lss_false {t : TypeId} {c : Bool} {kd : IntKind} {x y : Int} (h : ¬ x < y) : Rd P S (sBin .lss t c (.int kd x) (.int kd y)) k = k (.bool false) := by rw [bin_lss, decide_eq_false h]
theorem bin_neqi_same {t : TypeId} {c : Bool} {kd : IntKind} {x : Int} : Rd P S (sBin .neq t c (.int kd x) (.int kd x)) k = k (.bool false) := by rw [bin_neq, decide_eq_true rfl]; rfl
end
end Go.Sh
namespace Go.Proofs.Ytiohaeckagjebaa
open Go Go.Sh Go.RowKit
theorem bin_neq_same {S : WS} {k : Value → Prop} {c x : Bool} : Rd Try.prog S (sBin .neq 4 c (.bool x) (.bool x)) k = k (.bool false) := by
  rw [bin_neq_bool Try.underlying4, beq_self_eq_true]
  rfl
theorem eqGrammar_same {F E : Nat → Prop} {w : World} {v u : Value} {a : Gram} (hv : GramV F w v a) (hu : GramV E w u a) {k : Value → World → Prop} (hk : ∀ w', Gr w w' → k (.bool true) w') : CallK Try.prog 33 [v, u] k w :=
  eqGrammar_c hv hu fun w' g => by
    rw [decide_eq_true rfl]
    exact hk w' g
theorem eqIntS_same {w : World} {X Y : Option Addr} {c d : Nat} {xs : List Int} (hx : Ints w X xs) (hy : Ints w Y xs) {k : Value → World → Prop} (hk : ∀ w', Gr w w' → k (.bool true) w') : CallK Try.prog 26 [.slice X xs.length c, .slice Y xs.length d] k w :=
  eqIntS_c hx hy fun w' g => by
    rw [decide_eq_true rfl]
    exact hk w' g
theorem eqIntSS_same {w : World} {X Y : Option Addr} {c d : Nat} {ls : List (List Int)} (hx : Intss w X ls) (hy : Intss w Y ls) {k : Value → World → Prop} (hk : ∀ w', Gr w w' → k (.bool true) w') : CallK Try.prog 46 [.slice X ls.length c, .slice Y ls.length d] k w := by
  refine enter46 ?_
  unfold S46
  have hle := hx.le
  simp only [decide_true, Bool.not_true, go_sem, Nat.reduceEqDiff]
  refine loop_to ls.length 0 (fun i f w' => i ≤ ls.length ∧ f 5 = .int .i64 i ∧ Gr w w') ⟨Nat.zero_le _, rfl, Gr.refl w⟩ ?_
  rintro i f w1 N hag ⟨hi, h5, g⟩ hN
  have f0 : f 0 = .slice X ls.length c := hag 0 (by decide)
  have f1 : f 1 = .slice Y ls.length d := hag 1 (by decide)
  simp only [f0, f1, h5, go_sem, Nat.reduceEqDiff]
  by_cases hlt : i < ls.length
  case neg =>
    simp only [show ¬ (i : Int) < ls.length from by omega, decide_false, go_sem, Nat.reduceEqDiff]
    exact hk _ g
  simp only [show (i : Int) < ls.length from by omega, decide_true, go_sem, Nat.reduceEqDiff]
  obtain ⟨U, cu, a1, a2, a3⟩ := hx.row i hlt
  obtain ⟨V, cv, b1, b2, b3⟩ := hy.row i hlt
  have gd := gr_trans g (gr_drew w1)
  rw [ixn48 hx.ptr hlt, ld22 (gd.cell a1), ixn48 hy.ptr hlt, ld22 (gd.cell b1)]
  refine eqIntS_same (a3.gr gd) (b3.gr gd) fun w2 g2 => ?_
  simp only [Bool.not_true, go_sem, Nat.reduceEqDiff]
  rw [i64_of (by omega) (by omega)]
  exact hN _ _ hlt ⟨hlt, rfl, gr_trans gd g2⟩
section
variable {k : Value → World → Prop} {w0 w : World} {L : List Thing}
theorem markH (H : Apt w0 w L) (i : Nat) {n c : Nat} {X : Option Addr} {xs : List Int} {m : Int} (hi : L[i]? = some (ows X c xs)) (hn : n = xs.length) (h0 : 0 ≤ m) (h1 : m + xs.length ≤ 9223372036854775807)
    (h : ∀ w', Apt w0 w' (L.set i (ows X c (marks m xs.length))) → k (.int .i64 (m + xs.length)) w') : CallK Try.prog 27 [.slice X n c, .int .i64 m] k w :=
  markIntS_c (H.own i hi) hn h0 h1 fun w' g o => h w' (H.set hi (gx_of g fun q hq => hq) (fun q hq => .inl hq) (fun q hq => (Row.ge o hq).2) (rwi_kept o))
theorem markSSH (H : Apt w0 w L) (i : Nat) {n c : Nat} {X : Option Addr} {ls : List (List Int)} {ps : Nat → Option Addr × Nat} {m : Int} (hi : L[i]? = some (lss X c ls ps)) (hn : n = ls.length) (h0 : 0 ≤ m) (h1 : m + total ls ≤ 9223372036854775807)
    (h : ∀ w', Apt w0 w' (L.set i (lss X c (markS m ls) ps)) → k (.int .i64 (m + total ls)) w') : CallK Try.prog 47 [.slice X n c, .int .i64 m] k w := by
  subst hn
  refine enter47 ?_
  unfold S47
  have hle := (H.lssi i hi).read.le
  have hil := get_lt hi
  refine loop_to ls.length 0 (fun j f w' => j ≤ ls.length ∧ f 5 = .int .i64 j ∧ f 1 = .int .i64 (m + total (ls.take j)) ∧ Apt w0 w' (L.set i (lss X c (markS m (ls.take j) ++ ls.drop j) ps)))
    ⟨Nat.zero_le _, rfl, by simp [total]; rfl, by simpa [markS, List.getElem?_eq_getElem hil, ← (List.getElem?_eq_some_iff.1 hi).2] using H⟩ ?_
  rintro j f w1 N hag ⟨hj, h5, hf1, H1⟩ hN
  have f0 : f 0 = .slice X ls.length c := hag 0 (by decide)
  simp only [f0, hf1, h5, go_sem, Nat.reduceEqDiff]
  by_cases hlt : j < ls.length
  case neg =>
    simp only [show ¬ (j : Int) < ls.length from by omega, decide_false, go_sem, Nat.reduceEqDiff]
    rw [List.take_of_length_le (by omega), List.drop_eq_nil_of_le (by omega), List.append_nil] at H1
    rw [List.take_of_length_le (by omega)]
    exact h _ H1
  simp only [show (j : Int) < ls.length from by omega, decide_true, go_sem, Nat.reduceEqDiff]
  have hget : (L.set i (lss X c (markS m (ls.take j) ++ ls.drop j) ps))[i]? = some (lss X c (markS m (ls.take j) ++ ls.drop j) ps) := by rw [List.getElem?_set_self hil]
  have o := H1.lssi i hget
  have hll : (markS m (ls.take j) ++ ls.drop j).length = ls.length := by
    rw [List.length_append, markS_length, List.length_take, List.length_drop]
    omega
  have hr : rgt (markS m (ls.take j) ++ ls.drop j) j = rgt ls j := by
    rw [rgt_right (by rw [markS_length, List.length_take]; omega), markS_length, List.length_take]
    simp [rgt, List.getD_eq_getElem?_getD, Nat.min_eq_left hj]
  have hj' : j < (markS m (ls.take j) ++ ls.drop j).length := by omega
  have htk := total_take_le ls (j + 1)
  rw [take_snoc_rgt hlt, total_snoc] at htk
  have hoj := o.own j hj'
  have hcj := o.cell hj'
  rw [hr] at hoj hcj
  rw [ixn48 (fun h => o.ptr (by omega)) hlt, ld22 hcj]
  refine markIntS_c hoj rfl (by omega) (by omega) fun w2 g2 o2 => ?_
  rw [i64_of (n := (j : Int) + 1) (by omega) (by omega)]
  have o' := o.putAll (by decide) hj' (by rw [marks_length, hr]) o2 g2
  have H2 := H1.set hget (gx_of g2 fun q hq => .inr ⟨j, hj', hq⟩) (it' := lss X c _ ps) (fun q hq => .inl (by
    rcases hq with hq | ⟨l, hl, hq⟩
    · exact .inl hq
    · rw [List.length_set] at hl
      exact .inr ⟨l, hl, hq⟩)) (fun q hq => (o'.foot hq).2) (lssi_kept o')
  have e : (markS m (ls.take j) ++ ls.drop j).set j (marks (m + total (ls.take j)) (rgt ls j).length) = markS m (ls.take (j + 1)) ++ ls.drop (j + 1) := by
    rw [take_snoc_rgt hlt, markS_snoc, List.set_append_right _ _ (by rw [markS_length, List.length_take]; omega), markS_length, List.length_take, Nat.min_eq_left hj, Nat.sub_self, List.drop_eq_getElem_cons hlt, List.set_cons_zero, List.append_assoc]
    rfl
  rw [e, List.set_set] at H2
  refine hN _ _ hlt ⟨hlt, rfl, ?_, H2⟩
  rw [take_snoc_rgt hlt, total_snoc]
  show Value.int .i64 _ = _
  congr 1
  omega
theorem heldIntSS_c {X : Option Addr} {c n : Nat} {ls : List (List Int)} {m : Int} (hx : Intss w X (markS m ls)) (hn : n = ls.length) (h0 : 0 ≤ m) (h1 : m + total ls ≤ 9223372036854775807) (hk : ∀ w', Gr w w' → k (.int .i64 (m + total ls)) w') :
    CallK Try.prog 48 [.slice X n c, .int .i64 m] k w := by
  subst hn
  refine enter48 ?_
  unfold S48
  have hle := hx.le
  have hml := markS_length m ls
  refine loop_to ls.length 0 (fun j f w' => j ≤ ls.length ∧ f 5 = .int .i64 j ∧ f 1 = .int .i64 (m + total (ls.take j)) ∧ Gr w w') ⟨Nat.zero_le _, rfl, by simp [total]; rfl, Gr.refl w⟩ ?_
  rintro j f w1 N hag ⟨hj, h5, hf1, g⟩ hN
  have f0 : f 0 = .slice X ls.length c := hag 0 (by decide)
  simp only [f0, hf1, h5, go_sem, Nat.reduceEqDiff]
  by_cases hlt : j < ls.length
  case neg =>
    simp only [show ¬ (j : Int) < ls.length from by omega, decide_false, go_sem, Nat.reduceEqDiff]
    rw [List.take_of_length_le (by omega)]
    exact hk _ g
  simp only [show (j : Int) < ls.length from by omega, decide_true, go_sem, Nat.reduceEqDiff]
  have hr : rgt (markS m ls) j = marks (m + total (ls.take j)) (rgt ls j).length := by
    have e : ls = ls.take j ++ ([rgt ls j] ++ ls.drop (j + 1)) := by
      rw [← List.append_assoc, ← take_snoc_rgt hlt, List.take_append_drop]
    have key : ∀ (us bs : List (List Int)) (m : Int), markS m (us ++ bs) = markS m us ++ markS (m + total us) bs := by
      intro us
      induction us with
      | nil => intro bs m; simp [markS, total]
      | cons a us ih =>
        intro bs m
        have e : m + (a.length : Int) + (total us : Nat) = m + (total (a :: us) : Nat) := by
          simp only [total, List.map_cons, List.sum_cons]
          omega
        simp only [List.cons_append, markS, ih, e]
    generalize hq : rgt ls j = q at e
    have e' : markS m ls = markS m (ls.take j) ++ markS (m + total (ls.take j)) ([q] ++ ls.drop (j + 1)) := by rw [← key, ← e]
    rw [e', rgt_right (by rw [markS_length, List.length_take]; omega), markS_length, List.length_take]
    rw [show j - min j ls.length = 0 from by omega]
    rfl
  obtain ⟨U, cu, a1, a2, a3⟩ := hx.row j (by omega)
  rw [hr] at a1 a2 a3
  rw [marks_length] at a1 a2
  have htk := total_take_le ls (j + 1)
  rw [take_snoc_rgt hlt, total_snoc] at htk
  rw [ixn48 (fun h => hx.ptr (by omega)) hlt, ld22 (g.cell a1)]
  refine heldIntS_c (a3.gr g) rfl (by omega) (by omega) fun w2 g2 => ?_
  simp only [go_sem, Nat.reduceEqDiff]
  simp only [show ¬ (m + total (ls.take j) + (rgt ls j).length < 0) from by omega, decide_false, go_sem, Nat.reduceEqDiff]
  rw [i64_of (n := (j : Int) + 1) (by omega) (by omega)]
  refine hN _ _ hlt ⟨hlt, rfl, ?_, gr_trans g g2⟩
  rw [take_snoc_rgt hlt, total_snoc]
  show Value.int .i64 _ = _
  congr 1
  omega
end
end Go.Proofs.Ytiohaeckagjebaa

/- Plain: what derives what, by passes until nothing changes. -/
set_option linter.unusedVariables false
set_option linter.unusedSimpArgs false
namespace Go.Sh
/-! A table of what derives what: nonterminal, from, to. -/
abbrev Tab := Nat → Nat → Nat → Bool
def Tab.put (T : Tab) (x i j : Nat) : Tab := fun a b c => if a = x ∧ b = i ∧ c = j then true else T a b c
def symT (T : Tab) (w : List Int) (x : Int) (i j : Nat) : Bool := if x < 0 then decide (j = i + 1) && decide (w.getD i 0 = -1 - x) else T x.toNat i j
def fitsT (T : Tab) (w : List Int) : List Int → Nat → Nat → Bool
  | [], i, j => decide (i = j)
  | x :: xs, i, j => (List.range' i (j + 1 - i)).any fun m => symT T w x i m && fitsT T w xs m j
theorem fits_tok {T : Tab} {w : List Int} {x : Int} {xs : List Int} {i j : Nat} (hx : x < 0) : fitsT T w (x :: xs) i j = (decide (i < j) && (decide (w.getD i 0 = -1 - x) && fitsT T w xs (i + 1) j)) := by
  rw [Bool.eq_iff_iff]
  simp only [fitsT, symT, hx, if_true, List.any_eq_true, List.mem_range'_1, Bool.and_eq_true, decide_eq_true_eq]
  constructor
  · rintro ⟨m, ⟨h1, h2⟩, ⟨rfl, h4⟩, h5⟩
    exact ⟨by omega, h4, h5⟩
  · rintro ⟨h1, h2, h3⟩
    exact ⟨i + 1, ⟨by omega, by omega⟩, ⟨rfl, h2⟩, h3⟩
theorem fits_non {T : Tab} {w : List Int} {x : Int} {xs : List Int} {i j : Nat} (hx : ¬ x < 0) : fitsT T w (x :: xs) i j = (List.range' i (j + 1 - i)).any fun m => T x.toNat i m && fitsT T w xs m j := by
  simp only [fitsT, symT, hx, if_false]
/-- Whether a place ahead of one holds. -/
theorem any_upto {p : Nat → Bool} {i j : Nat} (h : ∀ m, i ≤ m → m ≤ j → p m = false) : (List.range' i (j + 1 - i)).any p = false := by
  rw [List.any_eq_false]
  intro m hm
  rw [List.mem_range'_1] at hm
  rw [h m hm.1 (by omega)]
  decide
theorem any_at {p : Nat → Bool} {i j m : Nat} (h1 : i ≤ m) (h2 : m ≤ j) (h : p m = true) : (List.range' i (j + 1 - i)).any p = true := by
  rw [List.any_eq_true]
  exact ⟨m, List.mem_range'_1.2 ⟨h1, by omega⟩, h⟩

/-! One pass over all rules and places. -/
abbrev TS := Tab × Bool
def stepT (w : List Int) (r : Int × List Int) (i : Nat) (s : TS) (j : Nat) : TS := if !s.1 r.1.toNat i j && fitsT s.1 w r.2 i j then (s.1.put r.1.toNat i j, true) else s
def rowT (w : List Int) (r : Int × List Int) (s : TS) (i : Nat) : TS := (List.range' i (w.length + 1 - i)).foldl (stepT w r i) s
def ruleT (w : List Int) (s : TS) (r : Int × List Int) : TS := (List.range (w.length + 1)).foldl (rowT w r) s
def passT (rs : List (Int × List Int)) (w : List Int) (s : TS) : TS := rs.foldl (ruleT w) s
def cellT (T : Tab) (p : Nat) : Bool := T (p / 121) (p / 11 % 11) (p % 11)
def openT (T : Tab) : Nat := (List.range 726).countP fun p => !cellT T p
theorem count_le {α : Type} {p q : α → Bool} {l : List α} (h : ∀ a ∈ l, p a = true → q a = true) : l.countP p ≤ l.countP q := List.countP_mono_left h
theorem count_lt {α : Type} {p q : α → Bool} {l : List α} (h : ∀ a ∈ l, p a = true → q a = true) {b : α} (hb : b ∈ l) (hq : q b = true) (hp : p b = false) : l.countP p < l.countP q := by
  induction l with
  | nil => cases hb
  | cons a l ih =>
    have ht : ∀ a ∈ l, p a = true → q a = true := fun x hx => h x (List.mem_cons_of_mem _ hx)
    rw [List.countP_cons, List.countP_cons]
    rcases List.mem_cons.1 hb with rfl | hb
    · have := count_le ht
      rw [hp, hq]
      simp
      omega
    · have := ih ht hb
      have ha := h a (List.mem_cons_self ..)
      by_cases hpa : p a = true
      · rw [if_pos hpa, if_pos (ha hpa)]
        omega
      · rw [if_neg hpa]
        split <;> omega
theorem open_put {T : Tab} {x i j : Nat} (hx : x < 6) (hi : i < 11) (hj : j < 11) (h : T x i j = false) : openT (T.put x i j) < openT T := by
  unfold openT
  refine count_lt (b := x * 121 + i * 11 + j) (fun p hp hh => ?_) (List.mem_range.2 (by omega)) ?_ ?_
  · simp only [cellT, Tab.put, Bool.not_eq_true'] at hh ⊢
    split at hh
    · cases hh
    · exact hh
  · have e1 : (x * 121 + i * 11 + j) / 121 = x := by omega
    have e2 : (x * 121 + i * 11 + j) / 11 % 11 = i := by omega
    have e3 : (x * 121 + i * 11 + j) % 11 = j := by omega
    simp [cellT, e1, e2, e3, h]
  · have e1 : (x * 121 + i * 11 + j) / 121 = x := by omega
    have e2 : (x * 121 + i * 11 + j) / 11 % 11 = i := by omega
    have e3 : (x * 121 + i * 11 + j) % 11 = j := by omega
    simp [cellT, Tab.put, e1, e2, e3]
def Inc (s s' : TS) : Prop := s' = s ∨ (s'.2 = true ∧ openT s'.1 < openT s.1)
theorem Inc.refl (s : TS) : Inc s s := .inl rfl
theorem Inc.trans {a b c : TS} (h : Inc a b) (g : Inc b c) : Inc a c := by
  rcases h with rfl | ⟨h1, h2⟩
  · exact g
  · rcases g with rfl | ⟨g1, g2⟩
    · exact .inr ⟨h1, h2⟩
    · exact .inr ⟨g1, by omega⟩
theorem Inc.fold {α : Type} {f : TS → α → TS} {l : List α} (h : ∀ a ∈ l, ∀ s, Inc s (f s a)) : ∀ s, Inc s (l.foldl f s) := by
  induction l with
  | nil => exact fun s => Inc.refl s
  | cons a l ih =>
    intro s
    exact (h a (List.mem_cons_self ..) s).trans (ih (fun b hb => h b (List.mem_cons_of_mem _ hb)) _)
theorem stepT_inc {w : List Int} {r : Int × List Int} {i j : Nat} {s : TS} (hr : r.1.toNat < 6) (hi : i < 11) (hj : j < 11) : Inc s (stepT w r i s j) := by
  unfold stepT
  split
  · rename_i h
    simp only [Bool.and_eq_true, Bool.not_eq_true'] at h
    exact .inr ⟨rfl, open_put hr hi hj h.1⟩
  · exact .inl rfl
theorem rowT_inc {w : List Int} {r : Int × List Int} {i : Nat} (hr : r.1.toNat < 6) (hw : w.length ≤ 10) (hi : i < 11) (s : TS) : Inc s (rowT w r s i) :=
  Inc.fold (fun j hj s => by
    rw [List.mem_range'_1] at hj
    exact stepT_inc hr hi (by omega)) s
theorem ruleT_inc {w : List Int} {r : Int × List Int} (hr : r.1.toNat < 6) (hw : w.length ≤ 10) (s : TS) : Inc s (ruleT w s r) :=
  Inc.fold (fun i hi s => rowT_inc hr hw (by have := List.mem_range.1 hi; omega) s) s
theorem passT_inc {rs : List (Int × List Int)} {w : List Int} (hr : ∀ r ∈ rs, r.1.toNat < 6) (hw : w.length ≤ 10) (s : TS) : Inc s (passT rs w s) :=
  Inc.fold (fun r h s => ruleT_inc (hr r h) hw s) s
/-- Passes until nothing changes. -/
inductive Span (rs : List (Int × List Int)) (w : List Int) : Tab → Tab → Prop
  | done {T : Tab} : (passT rs w (T, false)).2 = false → Span rs w T (passT rs w (T, false)).1
  | more {T U : Tab} : (passT rs w (T, false)).2 = true → Span rs w (passT rs w (T, false)).1 U → Span rs w T U
theorem Span.det {rs : List (Int × List Int)} {w : List Int} {T U V : Tab} (h : Span rs w T U) (g : Span rs w T V) : U = V := by
  induction h with
  | done h1 =>
    cases g with
    | done g1 => rfl
    | more g1 g2 => rw [h1] at g1; cases g1
  | more h1 h2 ih =>
    cases g with
    | done g1 => rw [h1] at g1; cases g1
    | more g1 g2 => exact ih g2
theorem Span.ex {rs : List (Int × List Int)} {w : List Int} (hr : ∀ r ∈ rs, r.1.toNat < 6) (hw : w.length ≤ 10) : ∀ (n : Nat) (T : Tab), openT T ≤ n → ∃ U, Span rs w T U := by
  intro n
  induction n with
  | zero =>
    intro T hT
    rcases passT_inc hr hw (T, false) with h | ⟨_, h⟩
    · exact ⟨_, .done (by rw [h])⟩
    · exact absurd h (by simp at hT ⊢; omega)
  | succ n ih =>
    intro T hT
    rcases passT_inc hr hw (T, false) with h | ⟨h1, h2⟩
    · exact ⟨_, .done (by rw [h])⟩
    · obtain ⟨U, hU⟩ := ih (passT rs w (T, false)).1 (by simp at h2; omega)
      exact ⟨U, .more h1 hU⟩
def noTab : Tab := fun _ _ _ => false
open Classical in
noncomputable def spanT (rs : List (Int × List Int)) (w : List Int) : Tab := if h : ∃ U, Span rs w noTab U then Classical.choose h else noTab
theorem Span.eq {rs : List (Int × List Int)} {w : List Int} {U : Tab} (h : Span rs w noTab U) : U = spanT rs w := by
  have hx : ∃ U, Span rs w noTab U := ⟨U, h⟩
  unfold spanT
  rw [dif_pos hx]
  exact h.det (Classical.choose_spec hx)
end Go.Sh

/- Numbers of trees by size: the plain law. -/
set_option linter.unusedVariables false
set_option linter.unusedSimpArgs false
set_option maxRecDepth 100000
namespace Go.Sh
open Go
def sumN (f : Nat → Nat) : Nat → Nat
  | 0 => 0
  | n + 1 => sumN f n + f n
/-- In how many ways symbols have trees of size s in all between i and j; c tells the nonterminals' numbers. -/
def cntR (c : Nat → Nat → Nat → Nat → Nat) (ws : List Int) : List Int → Nat → Nat → Nat → Nat
  | [], i, j, s => if i = j ∧ s = 0 then 1 else 0
  | x :: xs, i, j, s => if x < 0 then (if i < j ∧ ws.getD i 0 = -1 - x then cntR c ws xs (i + 1) j s else 0)
      else sumN (fun m => sumN (fun k => c x.toNat i (i + m) (k + 1) * cntR c ws xs (i + m) j (s - (k + 1))) s) (j + 1 - i)
def sumR (rs : List RuleL) (p : RuleL → Nat) : Nat := rs.foldl (fun a r => a + p r) 0
def cntT (rs : List RuleL) (ws : List Int) : Nat → Nat → Nat → Nat → Nat → Nat
  | 0, _, _, _, _ => 0
  | f + 1, A, i, j, s => if s = 0 then 0 else sumR rs fun r => if r.1 = (A : Int) then cntR (cntT rs ws f) ws r.2 i j (s - 1) else 0
/-- How many trees of size s. -/
def cntC (rs : List RuleL) (ws : List Int) (A i j s : Nat) : Nat := cntT rs ws s A i j s
theorem sumN_congr {f g : Nat → Nat} : ∀ {n : Nat}, (∀ k, k < n → f k = g k) → sumN f n = sumN g n := by
  intro n
  induction n with
  | zero => intro _; rfl
  | succ n ih =>
    intro h
    rw [sumN, sumN, ih fun k hk => h k (by omega), h n (by omega)]
theorem cntR_congr {c c' : Nat → Nat → Nat → Nat → Nat} {ws : List Int} : ∀ {xs : List Int} {i j s : Nat}, (∀ A i j k, k ≤ s → c A i j k = c' A i j k) → cntR c ws xs i j s = cntR c' ws xs i j s := by
  intro xs
  induction xs with
  | nil => intro i j s _; rfl
  | cons x xs ih =>
    intro i j s h
    rw [cntR, cntR]
    split
    · split
      · exact ih h
      · rfl
    · refine sumN_congr fun m _ => sumN_congr fun k hk => ?_
      rw [h _ _ _ _ (by omega), ih fun A i j k' hk' => h A i j k' (by omega)]
theorem sumR_congr {rs : List RuleL} {p q : RuleL → Nat} (h : ∀ r, p r = q r) : sumR rs p = sumR rs q := by
  rw [show p = q from funext h]
theorem cntT_more {rs : List RuleL} {ws : List Int} : ∀ {f g A i j s : Nat}, s ≤ f → s ≤ g → cntT rs ws f A i j s = cntT rs ws g A i j s := by
  intro f
  induction f with
  | zero =>
    intro g A i j s h1 h2
    obtain rfl : s = 0 := by omega
    cases g with
    | zero => rfl
    | succ g => rw [cntT, cntT, if_pos rfl]
  | succ f ih =>
    intro g A i j s h1 h2
    cases g with
    | zero =>
      obtain rfl : s = 0 := by omega
      rw [cntT, cntT, if_pos rfl]
    | succ g =>
      rw [cntT, cntT]
      split
      · rfl
      · refine sumR_congr fun r => ?_
        split
        · exact cntR_congr fun A i j k hk => ih (by omega) (by omega)
        · rfl
theorem cntC_zero (rs : List RuleL) (ws : List Int) (A i j : Nat) : cntC rs ws A i j 0 = 0 := rfl
theorem cntC_succ (rs : List RuleL) (ws : List Int) (A i j s : Nat) : cntC rs ws A i j (s + 1) = sumR rs fun r => if r.1 = (A : Int) then cntR (cntC rs ws) ws r.2 i j s else 0 := by
  unfold cntC
  rw [cntT, if_neg (by omega)]
  refine sumR_congr fun r => ?_
  split
  · exact cntR_congr fun A i j k hk => cntT_more (by omega) (Nat.le_refl _)
  · rfl
/-- Kept at most M. -/
theorem cap_add {M a b : Nat} : min M (min M a + min M b) = min M (a + b) := by omega
theorem cap_mul {M a b : Nat} : min M (min M a * min M b) = min M (a * b) := by
  by_cases h0 : a = 0
  · subst h0; simp
  by_cases h1 : b = 0
  · subst h1; simp
  by_cases ha : M ≤ a
  · have e1 : M ≤ a * b := Nat.le_trans ha (Nat.le_mul_of_pos_right _ (by omega))
    rw [Nat.min_eq_left ha, Nat.min_eq_left e1]
    by_cases hM : M = 0
    · subst hM; simp
    exact Nat.min_eq_left (Nat.le_mul_of_pos_right _ (by omega))
  · by_cases hb : M ≤ b
    · have e1 : M ≤ a * b := Nat.le_trans hb (Nat.le_mul_of_pos_left _ (by omega))
      rw [Nat.min_eq_left hb, Nat.min_eq_left e1]
      by_cases hM : M = 0
      · subst hM; simp
      exact Nat.min_eq_left (Nat.le_mul_of_pos_left _ (by omega))
    · rw [Nat.min_eq_right (by omega : a ≤ M), Nat.min_eq_right (by omega : b ≤ M)]
theorem cap_mul_add {M S a b : Nat} : min M (min M S + min M a * min M b) = min M (S + a * b) := by
  rw [← cap_add (a := min M S), cap_mul, Nat.min_eq_right (Nat.min_le_left M S), cap_add]
end Go.Sh

/- Least costs: tables, rows, passes; they end, and costs stay small. -/
set_option linter.unusedVariables false
set_option linter.unusedSimpArgs false
set_option maxRecDepth 100000
namespace Go.Sh
/-! A table of costs: nonterminal, from, to. -/
abbrev CT := Nat → Nat → Nat → Option Nat
def CT.put (T : CT) (A i j n : Nat) : CT := fun A' i' j' => if A' = A ∧ i' = i ∧ j' = j then some n else T A' i' j'
/-- Whether a cost is better than an old one. -/
def better (n : Nat) : Option Nat → Bool
  | none => true
  | some o => decide (n < o)
/-! Passes. -/
abbrev GS := CT × Bool
/-- What a rule offers between two places. -/
abbrev CandG := CT → Nat → Nat → Nat → Option Nat
def stepG (c : CandG) (rs : List RuleL) (q i : Nat) (s : GS) (j : Nat) : GS :=
  match c s.1 q i j with
  | none => s
  | some n => if better n (s.1 (rul rs q).1.toNat i j) then (s.1.put (rul rs q).1.toNat i j n, true) else s
def rowG (c : CandG) (rs : List RuleL) (n q : Nat) (s : GS) (i : Nat) : GS := (List.range' i (n - i)).foldl (stepG c rs q i) s
def ruleG (c : CandG) (rs : List RuleL) (n : Nat) (s : GS) (q : Nat) : GS := (List.range n).foldl (rowG c rs n q) s
def passG (c : CandG) (rs : List RuleL) (n : Nat) (s : GS) : GS := (List.range rs.length).foldl (ruleG c rs n) s
/-- Passes until nothing changes. -/
inductive FixG (c : CandG) (rs : List RuleL) (n : Nat) : CT → CT → Prop
  | done {T : CT} : (passG c rs n (T, false)).2 = false → FixG c rs n T (passG c rs n (T, false)).1
  | more {T U : CT} : (passG c rs n (T, false)).2 = true → FixG c rs n (passG c rs n (T, false)).1 U → FixG c rs n T U
theorem FixG.det {c : CandG} {rs : List RuleL} {n : Nat} {T U V : CT} (h : FixG c rs n T U) (g : FixG c rs n T V) : U = V := by
  induction h with
  | done h1 =>
    cases g with
    | done g1 => rfl
    | more g1 g2 => rw [h1] at g1; cases g1
  | more h1 h2 ih =>
    cases g with
    | done g1 => rw [h1] at g1; cases g1
    | more g1 g2 => exact ih g2
/-! Costs stay small. -/
def eB : Nat → Nat
  | 0 => 1
  | s + 1 => 100 + 4 * eB s
def gB (l s : Nat) : Nat := if l = 0 then eB s else 6749808 * (l - 1) + 562484 * s + l
def cntG (T : CT) (i j : Nat) : Nat := sumN (fun A => if (T A i j).isSome then 1 else 0) 6
theorem sumN_le {f g : Nat → Nat} : ∀ {n : Nat}, (∀ k, k < n → f k ≤ g k) → sumN f n ≤ sumN g n := by
  intro n
  induction n with
  | zero => intro _; exact Nat.le_refl _
  | succ n ih =>
    intro h
    have := ih fun k hk => h k (by omega)
    have := h n (by omega)
    rw [sumN, sumN]
    omega
theorem sumN_one {f g : Nat → Nat} {p d : Nat} : ∀ {n : Nat}, p < n → (∀ k, k < n → k ≠ p → f k = g k) → f p + d = g p → sumN f n + d = sumN g n := by
  intro n
  induction n with
  | zero => intro h; omega
  | succ n ih =>
    intro h h1 h2
    rw [sumN, sumN]
    by_cases hp : p = n
    · subst hp
      rw [sumN_congr fun k hk => h1 k (by omega) (by omega)]
      omega
    · have := ih (by omega) (fun k hk => h1 k (by omega)) h2
      have := h1 n (by omega) (by omega)
      omega
theorem cntG_le (T : CT) (i j : Nat) : cntG T i j ≤ 6 := by
  have := sumN_le (f := fun A => if (T A i j).isSome then 1 else 0) (g := fun _ => 1) (n := 6) (fun k _ => by split <;> omega)
  exact this
theorem eB_mono : ∀ {s t : Nat}, s ≤ t → eB s ≤ eB t := by
  intro s t h
  induction h with
  | refl => exact Nat.le_refl _
  | step _ ih => rw [eB]; omega
theorem eB6 : eB 6 = 140596 := by decide
theorem gB_mono {l s t : Nat} (h : s ≤ t) : gB l s ≤ gB l t := by
  unfold gB
  split
  · exact eB_mono h
  · omega
theorem gB_zero (s : Nat) : gB 0 s = eB s := if_pos rfl
theorem gB_pos {l s : Nat} (h : 0 < l) : gB l s = 6749808 * (l - 1) + 562484 * s + l := if_neg (by omega)
/-- Entries are small, the smaller the fewer there are. -/
def SmallG (T : CT) : Prop := ∀ A i j n, i ≤ j → T A i j = some n → n ≤ gB (j - i) (cntG T i j)
theorem SmallG.six {T : CT} (h : SmallG T) {A i j n : Nat} (hij : i ≤ j) (hT : T A i j = some n) : n ≤ gB (j - i) 6 := Nat.le_trans (h A i j n hij hT) (gB_mono (cntG_le T i j))
section
variable {tok : Int → Nat → Nat → Option Nat} {nl : Nat → Nat → Option Nat} {T : CT}
end
theorem SmallG.le {T : CT} (h : SmallG T) {A i j n : Nat} (hij : i ≤ j) (hj : j ≤ 10) (hT : T A i j = some n) : n ≤ 100000000 := by
  have := h.six hij hT
  by_cases e : i = j
  · subst e
    rw [Nat.sub_self, gB_zero, eB6] at this
    omega
  · rw [gB_pos (by omega)] at this
    omega
theorem cntG_put {T : CT} {A i j n : Nat} (hA : A < 6) : cntG (T.put A i j n) i j + (if (T A i j).isSome then 1 else 0) = cntG T i j + 1 := by
  unfold cntG
  by_cases h : (T A i j).isSome
  · rw [if_pos h]
    congr 1
    refine sumN_congr fun k hk => ?_
    unfold CT.put
    by_cases e : k = A
    · subst e
      simp [h]
    · simp [e]
  · rw [if_neg h]
    symm
    refine sumN_one (p := A) hA (fun k hk hne => ?_) ?_
    · simp [CT.put, hne]
    · simp [CT.put, h]
theorem cntG_other {T : CT} {A i j n i' j' : Nat} (h : ¬ (i' = i ∧ j' = j)) : cntG (T.put A i j n) i' j' = cntG T i' j' := by
  unfold cntG
  refine sumN_congr fun k hk => ?_
  have : T.put A i j n k i' j' = T k i' j' := if_neg fun e => h e.2
  rw [this]
theorem smallG_put {T : CT} (h : SmallG T) {A i j n : Nat} (hA : A < 6) (hn : n ≤ gB (j - i) (cntG T i j + 1)) (hb : better n (T A i j) = true) : SmallG (T.put A i j n) := by
  intro A' i' j' m hij hm
  by_cases e : i' = i ∧ j' = j
  · obtain ⟨rfl, rfl⟩ := e
    have hc := cntG_put (T := T) (i := i') (j := j') (n := n) hA
    have hmono : gB (j' - i') (cntG T i' j') ≤ gB (j' - i') (cntG (T.put A i' j' n) i' j') := gB_mono (by split at hc <;> omega)
    unfold CT.put at hm
    by_cases e2 : A' = A
    · subst e2
      rw [if_pos ⟨rfl, rfl, rfl⟩] at hm
      cases hm
      cases ho : T A' i' j' with
      | none =>
        rw [ho] at hc
        rw [if_neg (by simp)] at hc
        rwa [show cntG (T.put A' i' j' n) i' j' = cntG T i' j' + 1 from by omega]
      | some o =>
        rw [ho] at hb
        have := h _ _ _ _ hij ho
        unfold better at hb
        have := of_decide_eq_true hb
        omega
    · rw [if_neg fun e => e2 e.1] at hm
      have := h _ _ _ _ hij hm
      omega
  · rw [cntG_other e]
    unfold CT.put at hm
    rw [if_neg fun e' => e e'.2] at hm
    exact h _ _ _ _ hij hm
/-! Passes end. -/
def cellG (T : CT) (p : Nat) : Nat := match T (p / 121) (p / 11 % 11) (p % 11) with | none => 100000001 | some n => n
def sumG (T : CT) : Nat := sumN (cellG T) 726
theorem cellG_at {T : CT} {A i j : Nat} (hi : i < 11) (hj : j < 11) : cellG T (A * 121 + i * 11 + j) = match T A i j with | none => 100000001 | some n => n := by
  unfold cellG
  rw [show (A * 121 + i * 11 + j) / 121 = A from by omega, show (A * 121 + i * 11 + j) / 11 % 11 = i from by omega, show (A * 121 + i * 11 + j) % 11 = j from by omega]
theorem sumG_put {T : CT} {A i j n : Nat} (hA : A < 6) (hi : i < 11) (hj : j < 11) (hn : n ≤ 100000000) (hb : better n (T A i j) = true) : sumG (T.put A i j n) < sumG T := by
  unfold sumG
  have h1 : cellG (T.put A i j n) (A * 121 + i * 11 + j) = n := by
    rw [cellG_at hi hj]
    simp [CT.put]
  have h2 : n < cellG T (A * 121 + i * 11 + j) := by
    rw [cellG_at hi hj]
    cases ho : T A i j with
    | none => show n < 100000001; omega
    | some o =>
      rw [ho] at hb
      exact of_decide_eq_true hb
  have := sumN_one (f := cellG (T.put A i j n)) (g := cellG T) (p := A * 121 + i * 11 + j) (d := cellG T (A * 121 + i * 11 + j) - n) (n := 726) (by omega) (fun k hk hne => by
    unfold cellG CT.put
    rw [if_neg (by omega)]) (by omega)
  omega
/-- A step changes nothing, or says so and lessens. -/
def DropG (s s' : GS) : Prop := s' = s ∨ (s'.2 = true ∧ sumG s'.1 < sumG s.1)
theorem DropG.trans {a b c : GS} (h : DropG a b) (g : DropG b c) : DropG a c := by
  rcases h with rfl | ⟨h1, h2⟩
  · exact g
  · rcases g with rfl | ⟨g1, g2⟩
    · exact .inr ⟨h1, h2⟩
    · exact .inr ⟨g1, by omega⟩
theorem DropG.fold {α : Type} {I : CT → Prop} {f : GS → α → GS} : ∀ {l : List α} {s : GS}, (∀ a ∈ l, ∀ s, I s.1 → I (f s a).1 ∧ DropG s (f s a)) → I s.1 → I (l.foldl f s).1 ∧ DropG s (l.foldl f s) := by
  intro l
  induction l with
  | nil => intro s _ h; exact ⟨h, .inl rfl⟩
  | cons a l ih =>
    intro s hs h
    obtain ⟨h1, h2⟩ := hs a (List.mem_cons_self ..) s h
    obtain ⟨h3, h4⟩ := ih (fun b hb => hs b (List.mem_cons_of_mem _ hb)) h1
    exact ⟨h3, h2.trans h4⟩
/-- What a rule offers is small. -/
def OfferG (c : CandG) (rs : List RuleL) (n : Nat) : Prop := (∀ q, q < rs.length → (rul rs q).1.toNat < 6) ∧ n ≤ 11 ∧ ∀ T q i j m, SmallG T → q < rs.length → i ≤ j → j < n → c T q i j = some m → m ≤ gB (j - i) (cntG T i j + 1)
section
variable {c : CandG} {rs : List RuleL} {n : Nat}
theorem stepG_drop (hc : OfferG c rs n) {q i j : Nat} (hq : q < rs.length) (hij : i ≤ j) (hj : j < n) {s : GS} (hs : SmallG s.1) : SmallG (stepG c rs q i s j).1 ∧ DropG s (stepG c rs q i s j) := by
  unfold stepG
  split
  · exact ⟨hs, .inl rfl⟩
  · rename_i m hm
    split
    · rename_i hb
      have h1 := smallG_put hs (hc.1 q hq) (hc.2.2 _ _ _ _ _ hs hq hij hj hm) hb
      refine ⟨h1, .inr ⟨rfl, sumG_put (hc.1 q hq) (by have := hc.2.1; omega) (by have := hc.2.1; omega) ?_ hb⟩⟩
      exact h1.le (A := (rul rs q).1.toNat) hij (by have := hc.2.1; omega) (by simp [CT.put])
    · exact ⟨hs, .inl rfl⟩
theorem rowG_drop (hc : OfferG c rs n) {q : Nat} (hq : q < rs.length) {s : GS} (hs : SmallG s.1) (i : Nat) : SmallG (rowG c rs n q s i).1 ∧ DropG s (rowG c rs n q s i) :=
  DropG.fold (I := SmallG) (fun j hj s hs => by
    rw [List.mem_range'_1] at hj
    exact stepG_drop hc hq hj.1 (by omega) hs) hs
theorem ruleG_drop (hc : OfferG c rs n) {q : Nat} (hq : q < rs.length) {s : GS} (hs : SmallG s.1) : SmallG (ruleG c rs n s q).1 ∧ DropG s (ruleG c rs n s q) :=
  DropG.fold (I := SmallG) (fun i hi s hs => rowG_drop hc hq hs i) hs
theorem passG_drop (hc : OfferG c rs n) {s : GS} (hs : SmallG s.1) : SmallG (passG c rs n s).1 ∧ DropG s (passG c rs n s) :=
  DropG.fold (I := SmallG) (fun q hq s hs => ruleG_drop hc (List.mem_range.1 hq) hs) hs
theorem FixG.small (hc : OfferG c rs n) {T U : CT} (h : FixG c rs n T U) (hT : SmallG T) : SmallG U := by
  induction h with
  | done h1 => exact (passG_drop hc (s := (_, false)) hT).1
  | more h1 h2 ih => exact ih (passG_drop hc (s := (_, false)) hT).1
/-- At the end nothing better is offered. -/
theorem DropG.still {α : Type} {I : CT → Prop} {f : GS → α → GS} : ∀ {l : List α} {s : GS}, (∀ a ∈ l, ∀ s, I s.1 → I (f s a).1 ∧ DropG s (f s a)) → I s.1 → s.2 = false → (l.foldl f s).2 = false → ∀ a ∈ l, f s a = s := by
  intro l
  induction l with
  | nil => intro s _ _ _ _ a ha; simp at ha
  | cons b l ih =>
    intro s hs h0 h he a ha
    rw [List.foldl_cons] at he
    have hb : f s b = s := by
      rcases (hs b (List.mem_cons_self ..) s h0).2 with e | ⟨e, _⟩
      · exact e
      · exfalso
        rcases (DropG.fold (fun c hc => hs c (List.mem_cons_of_mem _ hc)) (hs b (List.mem_cons_self ..) s h0).1).2 with e' | ⟨e', _⟩
        · rw [e', e] at he
          cases he
        · rw [e'] at he
          cases he
    rcases List.mem_cons.1 ha with rfl | ha
    · exact hb
    · rw [hb] at he
      exact ih (fun c hc => hs c (List.mem_cons_of_mem _ hc)) h0 h he a ha
end
end Go.Sh

/- Mending: the table of the reference, where the rest may be left out behind any symbols, and the program's, where it may not, are the same in the end. -/
set_option linter.unusedVariables false
set_option linter.unusedSimpArgs false
set_option maxRecDepth 100000
namespace Go.Sh
open Go
end Go.Sh

/- Least costs of trees: what rows cost, and that costs are at least 1. -/
set_option linter.unusedVariables false
set_option linter.unusedSimpArgs false
set_option maxRecDepth 100000
namespace Go.Sh
open Go
def costQ (cs : List Int) (q : Nat) : Nat := (cs.getD q 0).toNat
end Go.Sh

/- Slices of slices of values that are owned. -/
set_option linter.unusedVariables false
set_option linter.unusedSimpArgs false
set_option maxRecDepth 100000
namespace Go.Sh
open Go
def vls (ls : List (List Value)) (j : Nat) : List Value := ls.getD j []
theorem vls_eq {ls : List (List Value)} {j : Nat} (h : j < ls.length) : vls ls j = ls[j] := by simp [vls, List.getD_eq_getElem?_getD, h]
theorem vls_set {ls : List (List Value)} {i j : Nat} {l : List Value} (hi : i < ls.length) : vls (ls.set i l) j = if j = i then l else vls ls j := by
  simp only [vls, List.getD_eq_getElem?_getD, List.getElem?_set]
  by_cases hij : i = j
  · subst hij
    simp [hi]
  · rw [if_neg hij, if_neg (fun e => hij e.symm)]
/-- Slices of values of the call's own: the row, and a slice of its own for each. -/
structure OwnV (e1 e2 : Nat) (w : World) (B : Nat) (X : Option Addr) (c : Nat) (ls : List (List Value)) (ps : Nat → Option Addr × Nat) : Prop where
  row : ∃ cells, Row w B e1 1 X ls.length c cells ∧ ∀ j, j < ls.length → cells[j]? = some (.slice (ps j).1 (vls ls j).length (ps j).2)
  own : ∀ j, j < ls.length → Row w B e2 1 (ps j).1 (vls ls j).length (ps j).2 (vls ls j)
  two : ∀ i j, i < ls.length → j < ls.length → i ≠ j → blk (ps i).1 = none ∨ blk (ps i).1 ≠ blk (ps j).1
section
variable {e1 e2 : Nat} {w w' : World} {B B' : Nat} {X : Option Addr} {c : Nat} {ls : List (List Value)} {ps : Nat → Option Addr × Nat}
theorem OwnV.same (h : OwnV e1 e2 w B X c ls ps) (hs : ∀ q, Foot X ps ls.length q → w'.heap[q]? = w.heap[q]?) : OwnV e1 e2 w' B X c ls ps := by
  obtain ⟨⟨cells, hr, hc⟩, ho, ht⟩ := h
  exact ⟨⟨cells, hr.same fun q hq => hs q (.inl hq), hc⟩, fun j hj => Row.same (ho j hj) fun q hq => hs q (.inr ⟨j, hj, hq⟩), ht⟩
theorem OwnV.up (h : OwnV e1 e2 w B X c ls ps) (hs : ∀ q, Foot X ps ls.length q → B' ≤ q) : OwnV e1 e2 w B' X c ls ps := by
  obtain ⟨⟨cells, hr, hc⟩, ho, ht⟩ := h
  exact ⟨⟨cells, hr.up fun q hq => hs q (.inl hq), hc⟩, fun j hj => Row.up (ho j hj) fun q hq => hs q (.inr ⟨j, hj, hq⟩), ht⟩
theorem OwnV.mono (h : OwnV e1 e2 w B X c ls ps) (hb : B' ≤ B) : OwnV e1 e2 w B' X c ls ps := by
  obtain ⟨⟨cells, hr, hc⟩, ho, ht⟩ := h
  exact ⟨⟨cells, Row.mono hr hb, hc⟩, fun j hj => Row.mono (ho j hj) hb, ht⟩
theorem OwnV.foot (h : OwnV e1 e2 w B X c ls ps) {q : Nat} (hq : Foot X ps ls.length q) : B ≤ q ∧ q < w.heap.size := by
  obtain ⟨⟨cells, hr, hc⟩, ho, ht⟩ := h
  rcases hq with hq | ⟨l, hl, hq⟩
  · exact hr.ge hq
  · exact Row.ge (ho l hl) hq
theorem OwnV.ptr (h : OwnV e1 e2 w B X c ls ps) (hl : 0 < ls.length) : X = some (ad X) := by
  obtain ⟨⟨cells, hr, hc⟩, _⟩ := h
  exact hr.ptr hl
theorem OwnV.cell (h : OwnV e1 e2 w B X c ls ps) {j : Nat} (hj : j < ls.length) : w.cell? ((ad X).add j) = some (.slice (ps j).1 (vls ls j).length (ps j).2) := by
  obtain ⟨⟨cells, hr, hc⟩, _⟩ := h
  exact hr.src.cell _ _ (hc j hj)
/-- One value of one slice is written. -/
theorem OwnV.put {i m : Nat} {v : Value} (h : OwnV e1 e2 w B X c ls ps) (he : e1 ≠ e2) (hi : i < ls.length) (hr : Row w' B e2 1 (ps i).1 (vls ls i).length (ps i).2 ((vls ls i).set m v)) (g : w.grownBy w' (blk (ps i).1)) : OwnV e1 e2 w' B X c (ls.set i ((vls ls i).set m v)) ps := by
  obtain ⟨⟨cells, hr0, hc⟩, ho, ht⟩ := h
  refine ⟨⟨cells, by rw [List.length_set]; exact Row.kept hr0 g (row_ne hr0 (ho i hi) he), fun j hj => ?_⟩, fun j hj => ?_, fun a b ha hb hab => ?_⟩
  · rw [List.length_set] at hj
    rw [hc j hj, vls_set hi]
    by_cases hij : j = i
    · subst hij
      rw [if_pos rfl, List.length_set]
    · rw [if_neg hij]
  · rw [List.length_set] at hj
    rw [vls_set hi]
    by_cases hij : j = i
    · subst hij
      rw [if_pos rfl, List.length_set]
      exact hr
    · rw [if_neg hij]
      exact Row.kept (ho j hj) g (ht j i hj hi hij)
  · rw [List.length_set] at ha hb
    exact ht a b ha hb hab
/-- One slice comes to a place. -/
theorem OwnV.setRow {i d B2 : Nat} {Y : Option Addr} {l cells : List Value} (h : OwnV e1 e2 w B X c ls ps) (he : e1 ≠ e2) (hi : i < ls.length) (ho : Row w B2 e2 1 Y l.length d l) (hne : ∀ j, j < ls.length → blk (ps j).1 = none ∨ blk (ps j).1 ≠ blk Y)
    (hr0 : Row w B e1 1 X ls.length c cells) (hc : ∀ j, j < ls.length → cells[j]? = some (.slice (ps j).1 (vls ls j).length (ps j).2)) (hr : Row w' B e1 1 X ls.length c (cells.set i (.slice Y l.length d))) (g : w.grownBy w' (blk X)) : OwnV e1 e2 w' 0 X c (ls.set i l) (fun j => if j = i then (Y, d) else ps j) := by
  have hlen := hr0.len
  refine ⟨⟨_, by rw [List.length_set]; exact Row.mono hr (Nat.zero_le _), fun j hj => ?_⟩, fun j hj => ?_, fun a b ha hb hab => ?_⟩
  · rw [List.length_set] at hj
    rw [vls_set hi]
    by_cases hij : j = i
    · subst hij
      simp only [if_true]
      rw [List.getElem?_set_self (by omega)]
    · simp only [hij, if_false]
      rw [List.getElem?_set_ne (fun e => hij e.symm)]
      exact hc j hj
  · rw [List.length_set] at hj
    rw [vls_set hi]
    by_cases hij : j = i
    · subst hij
      simp only [if_true]
      exact Row.mono (Row.kept ho g (row_ne ho hr0 fun e => he e.symm)) (Nat.zero_le _)
    · simp only [hij, if_false]
      exact Row.mono (Row.kept (h.own j hj) g (row_ne (h.own j hj) hr0 fun e => he e.symm)) (Nat.zero_le _)
  · rw [List.length_set] at ha hb
    by_cases hai : a = i <;> by_cases hbi : b = i
    · omega
    · simp only [hai, hbi, if_true, if_false]
      exact blk_sym (hne b hb)
    · simp only [hai, hbi, if_true, if_false]
      exact hne a ha
    · simp only [hai, hbi, if_false]
      exact h.two a b ha hb hab
end
def vvi (e1 e2 : Nat) (X : Option Addr) (c : Nat) (ls : List (List Value)) (ps : Nat → Option Addr × Nat) : Thing := ⟨fun w => OwnV e1 e2 w 0 X c ls ps, Foot X ps ls.length⟩
theorem vvi_kept {w : World} {B e1 e2 c : Nat} {X : Option Addr} {ls : List (List Value)} {ps : Nat → Option Addr × Nat} (h : OwnV e1 e2 w B X c ls ps) : ∀ w', (∀ q, (vvi e1 e2 X c ls ps).ft q → w'.heap[q]? = w.heap[q]?) → (vvi e1 e2 X c ls ps).P w' := fun w' hq => (h.mono (Nat.zero_le B)).same hq
theorem Apt.vv {w0 w : World} {L : List Thing} (H : Apt w0 w L) (i : Nat) {e1 e2 c : Nat} {X : Option Addr} {ls : List (List Value)} {ps : Nat → Option Addr × Nat} (hi : L[i]? = some (vvi e1 e2 X c ls ps)) : OwnV e1 e2 w w0.heap.size X c ls ps := OwnV.up (H.get i hi) (H.ok i _ hi).lo
/-- A row of nil slices. -/
theorem Apt.nilVV {w0 w : World} {L : List Thing} (H : Apt w0 w L) (i : Nat) {e1 c n : Nat} (e2 : Nat) {X : Option Addr} (hi : L[i]? = some (rwi e1 1 X n c (List.replicate n (.slice none 0 0)))) : Apt w0 w (L.set i (vvi e1 e2 X c (List.replicate n []) fun _ => (none, 0))) := by
  have hr := H.row i hi
  have hv : ∀ j, vls (List.replicate n []) j = [] := fun j => by
    simp only [vls, List.getD_eq_getElem?_getD, List.getElem?_replicate]
    split <;> rfl
  have o : OwnV e1 e2 w w0.heap.size X c (List.replicate n []) fun _ => (none, 0) := by
    refine ⟨⟨_, by rw [List.length_replicate]; exact hr, fun j hj => ?_⟩, fun j hj => ?_, fun i j hi hj hij => .inl rfl⟩
    · rw [List.length_replicate] at hj
      rw [hv]
      simp [hj]
    · rw [hv]
      exact Row.nil _ _ _ _
  refine H.set hi (Gx.refl _ w) (fun q hq => ?_) (fun q hq => (o.foot hq).2) (vvi_kept o)
  rcases hq with hq | ⟨l, hl, hq⟩
  · exact .inl hq
  · cases hq
section
variable {P : Program} {k : Value → World → Prop} {w0 w : World} {L : List Thing}
/-- A store of one value into one slice among slices. -/
theorem storeVV (H : Apt w0 w L) (i j : Nat) {t e1 e2 m c : Nat} {X : Option Addr} {ls : List (List Value)} {ps : Nat → Option Addr × Nat} {v : Value} (hi : L[i]? = some (vvi e1 e2 X c ls ps)) (he : e1 ≠ e2) (hs : szOf P t 1) (hv : v.cells.toList = [v]) (h1 : v.oneCell' = true) (hj : j < ls.length) (hm : m < (vls ls j).length)
    (h : ∀ w', Apt w0 w' (L.set i (vvi e1 e2 X c (ls.set j ((vls ls j).set m v)) ps)) → k undef w') : Do P (sStore t (.pointer (some ((ad (ps j).1).add m))) v) k w := by
  have o := H.vv i hi
  refine do_store_row hs hv h1 (o.own j hj) (by omega) fun w' g hsz hr => ?_
  have o' := o.put he hj hr g
  refine h w' (H.set hi (gx_of g fun q hq => .inr ⟨j, hj, hq⟩) (fun q hq => .inl ?_) (fun q hq => (o'.foot hq).2) (vvi_kept o'))
  rcases hq with hq | ⟨l, hl, hq⟩
  · exact .inl hq
  · rw [List.length_set] at hl
    exact .inr ⟨l, hl, hq⟩
/-- A store of an owned slice into a row of slices. -/
theorem setRowVV (H : Apt w0 w L) (i j x : Nat) (hij : i ≠ j) {t e1 e2 c d n : Nat} {X Y : Option Addr} {ls : List (List Value)} {l : List Value} {ps : Nat → Option Addr × Nat} (hi : L[i]? = some (vvi e1 e2 X c ls ps)) (hj : L[j]? = some (rwi e2 1 Y n d l)) (hn : n = l.length) (he : e1 ≠ e2) (hs : szOf P t 1) (hx : x < ls.length)
    (h : ∀ w' ps', Apt w0 w' ((L.set i (vvi e1 e2 X c (ls.set x l) ps')).set j emp) → k undef w') : Do P (sStore t (.pointer (some ((ad X).add x))) (.slice Y n d)) k w := by
  subst hn
  have o := H.vv i hi
  obtain ⟨⟨cells, hr0, hc⟩, _⟩ := id o
  refine do_store_row hs rfl rfl hr0 (by omega) fun w' g hsz hr => ?_
  have o' := o.setRow he hx (H.row j hj) (fun m hm => by
    cases hq : blk (ps m).1 with
    | none => exact .inl rfl
    | some q => exact .inr fun e => H.two i j _ _ hij hi hj q (.inr ⟨m, hm, hq⟩) (show blk Y = some q from e.symm)) hr0 hc hr g
  refine h w' _ (H.join hij hi hj (gx_of g fun q hq => .inl (.inl hq)) (fun q hq => ?_) (fun q hq => (o'.foot hq).2) (vvi_kept o'))
  rcases hq with hq | ⟨m, hm, hq⟩
  · exact .inl (.inl hq)
  · rw [List.length_set] at hm
    by_cases e : m = x
    · simp only [e, if_true] at hq
      exact .inr (.inl hq)
    · simp only [e, if_false] at hq
      exact .inl (.inr ⟨m, hm, hq⟩)
end
end Go.Sh

/- Contracts: where a tree ends (the reference). -/
set_option linter.unusedVariables false
set_option linter.unusedSimpArgs false
set_option maxRecDepth 100000
namespace Go.Sh
open Go
end Go.Sh
namespace Go.Proofs.Ytiohaeckagjebaa
open Go Go.Sh Go.RowKit

end Go.Proofs.Ytiohaeckagjebaa

/- Contracts: whether a tree is one, its parts, by the reference. -/
set_option linter.unusedVariables false
set_option linter.unusedSimpArgs false
set_option maxRecDepth 100000
namespace Go.Sh
open Go
theorem good_nons {g : Gram} (hg : goodG g = true) : 1 ≤ g.nons ∧ g.nons ≤ 6 := by
  simp only [goodG, inB, Bool.and_eq_true, decide_eq_true_eq] at hg
  exact hg.1.1.1
theorem good_toks {g : Gram} (hg : goodG g = true) : 1 ≤ g.toks ∧ g.toks ≤ 4 := by
  simp only [goodG, inB, Bool.and_eq_true, decide_eq_true_eq] at hg
  exact hg.1.1.2
def isT (gm : Gram) (tree : List Int) : Bool := decide (0 < tree.length) && decide (endT gm.rules tree tree.length 0 0 = some tree.length)
def askedT (gm : Gram) (tree : List Int) : Bool := goodG gm && decide (tree.length ≤ 60) && isT gm tree
end Go.Sh
namespace Go.Proofs.Ytiohaeckagjebaa
open Go Go.Sh Go.RowKit

end Go.Proofs.Ytiohaeckagjebaa

/- Bf: bodies of functions as terms of the frame calculus, printed by shgen.py of this repository. -/
set_option linter.unusedVariables false
set_option maxRecDepth 100000
namespace Go.Proofs.Ytiohaeckagjebaa
open Go Go.Sh

/-! loop.example/g00758/laws.FnExactIsPump -/
/-! loop.example/g00758/spec.IsPump -/
/-! loop.example/g00758/impl.IsPump -/
/-! loop.example/g00758/impl.isWord -/
def pl99 : Plans := fun _ => ⟨false, [], .nil⟩
def S99 (v0 v1 : Value) (k : Value → World → Prop) (w : World) : Prop :=
 Do Try.prog (sBox 3 v0) (fun t1 w2 =>
 Rd Try.prog (WS.at w2) (sBuiltin .len #[22] 3 [false] [v1]) fun t3 =>
 Rd Try.prog (WS.at w2) (sBin .leq 3 true t3 (.int .i64 10)) fun t4 =>
 GuardK t4 true (fun k w' => k v1 w') (fun t5 w6 =>
 GuardK t4 true (fun k w' => Rd Try.prog (WS.at w6) (sMakeFunc (.func 146) [] [t1]) fun v => k v w') (fun t7 w8 =>
 GuardK t4 true (fun k w' => CallK Try.prog 129 [t5, t7] k w') (fun t9 w10 =>
 GuardK t4 true (fun k w' => Rd Try.prog (WS.at w10) (sUn .not t9) fun v => k v w') (fun t11 w12 =>
 Rd Try.prog (WS.at w12) (sPick t4 t11 (.bool false)) fun t13 =>
 k t13 w12) w10) w8) w6) w2) w
theorem body99 : Try.f99.body = some (bodyOf Try.f99) := by kernel_rfl
theorem same99 (v0 v1 : Value) (k : Value → World → Prop) (w : World) : wpF Try.prog pl99 (bodyOf Try.f99) (bodyQ Try.prog Try.f99.results.toList k) (initF [v0, v1]) w = S99 v0 v1 k w := by kernel_rfl
theorem enter99 {v0 v1 : Value} {k : Value → World → Prop} {w : World} (h : S99 v0 v1 k w) : CallK Try.prog 99 [v0, v1] k w :=
  call_of_wpF (pl := pl99) mixed Try.func99 body99 (by kernel_rfl) (of_decide_eq_true (by kernel_rfl)) (by kernel_rfl) (by kernel_rfl) (same99 v0 v1 k w ▸ h)

/-! loop.example/g00758/spec.GoodWord -/
def pl101 : Plans := fun _ => ⟨false, [], .nil⟩
def S101 (v0 v1 : Value) (k : Value → World → Prop) (w : World) : Prop :=
 Do Try.prog (sBox 37 v0) (fun t1 w2 =>
 Rd Try.prog (WS.at w2) (sLoad 37 t1) fun t3 =>
 CallK Try.prog 81 [t3] (fun t4 w5 =>
 GuardK t4 true (fun k w' => Rd Try.prog (WS.at w5) (sLoad 37 t1) fun v => k v w') (fun t6 w7 =>
 GuardK t4 true (fun k w' => k v1 w') (fun t8 w9 =>
 GuardK t4 true (fun k w' => CallK Try.prog 112 [t6, t8] k w') (fun t10 w11 =>
 Rd Try.prog (WS.at w11) (sPick t4 t10 (.bool false)) fun t12 =>
 k t12 w11) w9) w7) w5) w2) w
theorem body101 : Try.f101.body = some (bodyOf Try.f101) := by kernel_rfl
theorem same101 (v0 v1 : Value) (k : Value → World → Prop) (w : World) : wpF Try.prog pl101 (bodyOf Try.f101) (bodyQ Try.prog Try.f101.results.toList k) (initF [v0, v1]) w = S101 v0 v1 k w := by kernel_rfl
theorem enter101 {v0 v1 : Value} {k : Value → World → Prop} {w : World} (h : S101 v0 v1 k w) : CallK Try.prog 101 [v0, v1] k w :=
  call_of_wpF (pl := pl101) mixed Try.func101 body101 (by kernel_rfl) (of_decide_eq_true (by kernel_rfl)) (by kernel_rfl) (by kernel_rfl) (same101 v0 v1 k w ▸ h)

/-! loop.example/g00758/spec.l4In -/
/-! (loop.example/g00758/impl.Grammar).spans -/
def pl104 : Plans := fun i => match i with
  | 14 => ⟨false, [18], .step 0 .any (.step 1 .any (.step 2 .held (.step 3 .any (.step 4 .any (.step 5 .any (.step 6 .any (.step 7 .any (.step 8 .any (.step 9 .any (.step 10 .held (.step 11 .any (.step 12 .any (.step 13 .any (.step 14 .any (.step 15 .held (.step 16 .any (.step 17 .any (.step 18 .last (.step 19 .any (.nil))))))))))))))))))))⟩
  | 15 => ⟨false, [10], .step 0 .any (.step 1 .any (.step 2 .held (.step 3 .any (.step 4 .any (.step 5 .any (.step 6 .any (.step 7 .any (.step 8 .any (.step 9 .any (.step 10 .last (.nil)))))))))))⟩
  | _ => ⟨false, [], .nil⟩
def S104 (v0 v1 : Value) (k : Value → World → Prop) (w : World) : Prop :=
 Do Try.prog (sBox 37 v0) (fun t1 w2 =>
 Rd Try.prog (WS.at w2) (sBuild 111 [(0, v1)]) fun t3 =>
 Do Try.prog (sBox 111 t3) (fun t4 w5 =>
 LoopF [14, 6, 15, 16, 17, 18, 19, 20, 21, 8, 22, 23, 24, 25, 26, 27, 9, 28, 10, 29, 30, 31, 32, 35, 36, 37, 38, 39, 40, 41, 42, 43, 44, 45, 46, 47, 48, 49, 50, 51, 52, 53, 54, 55, 56, 57, 58, 59, 60, 61, 62, 63, 64, 6, 33, 34, 10, 65, 25, 66, 18] (fun Q6 f7 w8 =>
  CondK (f7 6)
   (Rd Try.prog (WS.at w8) (sFieldAddr 37 (f7 2) 2) fun t9 =>
   Rd Try.prog (WS.at w8) (sLoad 35 t9) fun t10 =>
   Rd Try.prog (WS.at w8) (sBuiltin .len #[35] 3 [false] [t10]) fun t11 =>
   LoopF [19, 20, 21, 8, 22, 23, 24, 25, 26, 27, 9, 28, 10, 29, 30, 31, 32, 35, 36, 37, 38, 39, 40, 41, 42, 43, 44, 45, 46, 47, 48, 49, 50, 51, 52, 53, 54, 55, 56, 57, 58, 59, 60, 61, 62, 63, 64, 6, 33, 34, 10, 65, 25, 66, 18] (fun Q12 f13 w14 =>
    Rd Try.prog (WS.at w14) (sBin .lss 3 false (f13 18) (f13 17)) fun t15 =>
    CondK t15
     (Rd Try.prog (WS.at w14) (sIndexAddr 35 (f13 16) (f13 18)) fun t16 =>
     Rd Try.prog (WS.at w14) (sLoad 77 t16) fun t17 =>
     Do Try.prog (sAlloc 77) (fun t18 w19 =>
     Do Try.prog (sStore 77 t18 t17) (fun _ w20 =>
     Rd Try.prog (WS.at w20) (sBuiltin .len #[22] 3 [false] [(f13 1)]) fun t21 =>
     Rd Try.prog (WS.at w20) (sBin .add 3 true t21 (.int .i64 1)) fun t22 =>
     LoopF [26, 27, 9, 28, 10, 29, 30, 31, 32, 35, 36, 37, 38, 39, 40, 41, 42, 43, 44, 45, 46, 47, 48, 49, 50, 51, 52, 53, 54, 55, 56, 57, 58, 59, 60, 61, 62, 63, 64, 6, 33, 34, 10, 65, 25] (fun Q23 f24 w25 =>
      Rd Try.prog (WS.at w25) (sBin .lss 3 false (f24 25) (f24 24)) fun t26 =>
      CondK t26
       (LoopF [29, 30, 31, 32, 35, 36, 37, 38, 39, 40, 41, 42, 43, 44, 45, 46, 47, 48, 49, 50, 51, 52, 53, 54, 55, 56, 57, 58, 59, 60, 61, 62, 63, 64, 6, 33, 34, 10] (fun Q27 f28 w29 =>
        Rd Try.prog (WS.at w29) (sBuiltin .len #[22] 3 [false] [(f28 1)]) fun t30 =>
        Rd Try.prog (WS.at w29) (sBin .leq 3 false (f28 10) t30) fun t31 =>
        CondK t31
         (Join (fun K32 =>
         Rd Try.prog WS.any (sFieldAddr 77 (f28 8) 0) fun t35 =>
         Rd Try.prog (WS.at w29.drew) (sLoad 3 t35) fun t36 =>
         Rd Try.prog WS.any (sNilCheck (f28 5)) fun t37 =>
         Rd Try.prog WS.any (sFieldAddr 111 t37 1) fun t38 =>
         Rd Try.prog WS.any (sIndexAddr 109 t38 t36) fun t39 =>
         Rd Try.prog WS.any (sIndexAddr 108 t39 (f28 9)) fun t40 =>
         Rd Try.prog WS.any (sIndexAddr 107 t40 (f28 10)) fun t41 =>
         Rd Try.prog (WS.at w29.drew) (sLoad 4 t41) fun t42 =>
         Rd Try.prog WS.any (sUn .not t42) fun t43 =>
         GuardK t43 true (fun k w' => k (f28 5) w') (fun t44 w45 =>
         GuardK t43 true (fun k w' => Rd Try.prog WS.any (sFieldAddr 77 (f28 8) 1) fun v => k v w') (fun t46 w47 =>
         GuardK t43 true (fun k w' => Rd Try.prog (WS.at w29.drew) (sLoad 22 t46) fun v => k v w') (fun t48 w49 =>
         GuardK t43 true (fun k w' => k (f28 9) w') (fun t50 w51 =>
         GuardK t43 true (fun k w' => k (f28 10) w') (fun t52 w53 =>
         GuardK t43 true (fun k w' => CallK Try.prog 149 [t44, t48, t50, t52] k w') (fun t54 w55 =>
         Rd Try.prog WS.any (sPick t43 t54 (.bool false)) fun t56 =>
         CondK t56
          (Rd Try.prog WS.any (sFieldAddr 77 (f28 8) 0) fun t57 =>
          Rd Try.prog (WS.at w55.drew) (sLoad 3 t57) fun t58 =>
          Rd Try.prog WS.any (sNilCheck (f28 5)) fun t59 =>
          Rd Try.prog WS.any (sFieldAddr 111 t59 1) fun t60 =>
          Rd Try.prog WS.any (sIndexAddr 109 t60 t58) fun t61 =>
          Rd Try.prog WS.any (sIndexAddr 108 t61 (f28 9)) fun t62 =>
          Rd Try.prog WS.any (sIndexAddr 107 t62 (f28 10)) fun t63 =>
          Do Try.prog (sStore 4 t63 (.bool true)) (fun _ w64 =>
          K32 (F.upd (F.upd (F.upd (F.upd (F.upd (F.upd (F.upd (F.upd (F.upd (F.upd (F.upd (F.upd (F.upd (F.upd (F.upd (F.upd (F.upd (F.upd (F.upd (F.upd (F.upd (F.upd (F.upd (F.upd (F.upd (F.upd (F.upd (F.upd (F.upd (F.upd (F.upd (F.upd (F.upd (F.upd (F.upd f28 29 (f28 10)) 30 (f28 1)) 31 t30) 32 t31) 35 (f28 5)) 36 t35) 37 t36) 38 (f28 9)) 39 (f28 10)) 40 t37) 41 t38) 42 t39) 43 t40) 44 t41) 45 t42) 46 t43) 47 t43) 48 t44) 49 t46) 50 t48) 51 t50) 52 t52) 53 t54) 54 t56) 55 (f28 5)) 56 t57) 57 t58) 58 (f28 9)) 59 (f28 10)) 60 t59) 61 t60) 62 t61) 63 t62) 64 t63) 6 (.bool true)) w64) w55.drew)
          (K32 (F.upd (F.upd (F.upd (F.upd (F.upd (F.upd (F.upd (F.upd (F.upd (F.upd (F.upd (F.upd (F.upd (F.upd (F.upd (F.upd (F.upd (F.upd (F.upd (F.upd (F.upd (F.upd (F.upd (F.upd f28 29 (f28 10)) 30 (f28 1)) 31 t30) 32 t31) 35 (f28 5)) 36 t35) 37 t36) 38 (f28 9)) 39 (f28 10)) 40 t37) 41 t38) 42 t39) 43 t40) 44 t41) 45 t42) 46 t43) 47 t43) 48 t44) 49 t46) 50 t48) 51 t50) 52 t52) 53 t54) 54 t56) w55)) w53) w51) w49) w47) w45) w29.drew) (fun f33 w34 =>
         Rd Try.prog (WS.at w34) (sBin .add 3 true (f33 10) (.int .i64 1)) fun t65 =>
         Q27 .normal (F.upd (F.upd (F.upd f33 33 (f33 10)) 34 t65) 10 t65) w34))
         (Q27 (.exit 6) (F.upd (F.upd (F.upd (F.upd f28 29 (f28 10)) 30 (f28 1)) 31 t30) 32 t31) w29))
        (blockQ 6 (blockQ 5 (seqQ (fun f66 w67 =>
       Rd Try.prog (WS.at w67) (sBin .add 3 true (f66 25) (.int .i64 1)) fun t68 =>
       Q23 .normal (F.upd (F.upd f66 65 t68) 25 t68) w67) Q23)))
        (F.upd (F.upd (F.upd (F.upd (F.upd f24 26 t26) 27 (f24 25)) 9 (f24 25)) 28 (f24 25)) 10 (f24 25)) w25)
       (Q23 (.exit 4) (F.upd f24 26 t26) w25))
      (blockQ 4 (blockQ 3 (seqQ (fun f69 w70 =>
     Rd Try.prog (WS.at w70) (sBin .add 3 true (f69 18) (.int .i64 1)) fun t71 =>
     Q12 .normal (F.upd (F.upd f69 66 t71) 18 t71) w70) Q12)))
      (F.upd (F.upd (F.upd (F.upd (F.upd (F.upd (F.upd (F.upd f13 19 t15) 20 t16) 21 t17) 8 t18) 22 (f13 1)) 23 t21) 24 t22) 25 (.int .i64 0)) w20) w19) w14)
     (Q12 (.exit 2) (F.upd f13 19 t15) w14))
    (blockQ 2 (blockQ 1 Q6))
    (F.upd (F.upd (F.upd (F.upd (F.upd (F.upd f7 14 (f7 6)) 6 (.bool false)) 15 t9) 16 t10) 17 t11) 18 (.int .i64 0)) w8)
   (Q6 (.exit 0) (F.upd f7 14 (f7 6)) w8))
  (blockQ 0 (seqQ (fun f72 w73 =>
 k (f72 5) w73) (bodyQ Try.prog [.tmp 4] k)))
  (F.upd (F.upd (F.upd (F.upd (F.upd (F.upd (F.upd (initF [v0, v1]) 2 t1) 4 (.pointer none)) 11 v1) 12 t3) 13 t4) 5 t4) 6 (.bool true)) w5) w2) w
theorem body104 : Try.f104.body = some (bodyOf Try.f104) := by kernel_rfl
theorem same104 (v0 v1 : Value) (k : Value → World → Prop) (w : World) : wpF Try.prog pl104 (bodyOf Try.f104) (bodyQ Try.prog Try.f104.results.toList k) (initF [v0, v1]) w = S104 v0 v1 k w := by kernel_rfl
theorem enter104 {v0 v1 : Value} {k : Value → World → Prop} {w : World} (h : S104 v0 v1 k w) : CallK Try.prog 104 [v0, v1] k w :=
  call_of_wpF (pl := pl104) mixed Try.func104 body104 (by kernel_rfl) (of_decide_eq_true (by kernel_rfl)) (by kernel_rfl) (by kernel_rfl) (same104 v0 v1 k w ▸ h)

/-! loop.example/g00758/spec.l1Word -/
def pl112 : Plans := fun _ => ⟨false, [], .nil⟩
def S112 (v0 v1 : Value) (k : Value → World → Prop) (w : World) : Prop :=
 Do Try.prog (sBox 37 v0) (fun t1 w2 =>
 Rd Try.prog (WS.at w2) (sBuiltin .len #[22] 3 [false] [v1]) fun t3 =>
 Rd Try.prog (WS.at w2) (sBin .leq 3 true t3 (.int .i64 10)) fun t4 =>
 GuardK t4 true (fun k w' => k v1 w') (fun t5 w6 =>
 GuardK t4 true (fun k w' => Rd Try.prog (WS.at w6) (sFieldAddr 37 t1 1) fun v => k v w') (fun t7 w8 =>
 GuardK t4 true (fun k w' => Rd Try.prog (WS.at w8) (sLoad 3 t7) fun v => k v w') (fun t9 w10 =>
 GuardK t4 true (fun k w' => Rd Try.prog (WS.at w10) (sBin .sub 3 true t9 (.int .i64 1)) fun v => k v w') (fun t11 w12 =>
 GuardK t4 true (fun k w' => CallK Try.prog 75 [t5, (.int .i64 0), t11] k w') (fun t13 w14 =>
 Rd Try.prog (WS.at w14) (sPick t4 t13 (.bool false)) fun t15 =>
 k t15 w14) w12) w10) w8) w6) w2) w
theorem body112 : Try.f112.body = some (bodyOf Try.f112) := by kernel_rfl
theorem same112 (v0 v1 : Value) (k : Value → World → Prop) (w : World) : wpF Try.prog pl112 (bodyOf Try.f112) (bodyQ Try.prog Try.f112.results.toList k) (initF [v0, v1]) w = S112 v0 v1 k w := by kernel_rfl
theorem enter112 {v0 v1 : Value} {k : Value → World → Prop} {w : World} (h : S112 v0 v1 k w) : CallK Try.prog 112 [v0, v1] k w :=
  call_of_wpF (pl := pl112) mixed Try.func112 body112 (by kernel_rfl) (of_decide_eq_true (by kernel_rfl)) (by kernel_rfl) (by kernel_rfl) (same112 v0 v1 k w ▸ h)

/-! loop.example/g00758/impl.isWord$1 -/
def pl146 : Plans := fun _ => ⟨false, [], .nil⟩
def S146 (v0 v1 : Value) (k : Value → World → Prop) (w : World) : Prop :=
 Rd Try.prog (WS.at w) (sLoad 3 v1) fun t1 =>
 Rd Try.prog (WS.at w) (sBin .sub 3 true t1 (.int .i64 1)) fun t2 =>
 CallK Try.prog 103 [v0, (.int .i64 0), t2] (fun t3 w4 =>
 Rd Try.prog (WS.at w4) (sUn .not t3) fun t5 =>
 k t5 w4) w
theorem body146 : Try.f146.body = some (bodyOf Try.f146) := by kernel_rfl
theorem same146 (v0 v1 : Value) (k : Value → World → Prop) (w : World) : wpF Try.prog pl146 (bodyOf Try.f146) (bodyQ Try.prog Try.f146.results.toList k) (initF [v0, v1]) w = S146 v0 v1 k w := by kernel_rfl
theorem enter146 {v0 v1 : Value} {k : Value → World → Prop} {w : World} (h : S146 v0 v1 k w) : CallK Try.prog 146 [v0, v1] k w :=
  call_of_wpF (pl := pl146) mixed Try.func146 body146 (by kernel_rfl) (of_decide_eq_true (by kernel_rfl)) (by kernel_rfl) (by kernel_rfl) (same146 v0 v1 k w ▸ h)

/-! loop.example/g00758/spec.l4Table -/
/-! (*loop.example/g00758/impl.table).sequence -/
def pl149 : Plans := fun _ => ⟨false, [], .nil⟩
def S149 (v0 v1 v2 v3 : Value) (k : Value → World → Prop) (w : World) : Prop :=
 Rd Try.prog (WS.at w) (sBuiltin .len #[22] 3 [false] [v1]) fun t1 =>
 Rd Try.prog (WS.at w) (sBin .eql 3 true t1 (.int .i64 0)) fun t2 =>
 CondK t2
  (Rd Try.prog (WS.at w) (sBin .eql 3 false v2 v3) fun t3 =>
  k t3 w)
  (Rd Try.prog (WS.at w) (sIndexAddr 22 v1 (.int .i64 0)) fun t4 =>
  Rd Try.prog (WS.at w) (sLoad 3 t4) fun t5 =>
  Rd Try.prog (WS.at w) (sBin .lss 3 true t5 (.int .i64 0)) fun t6 =>
  CondK t6
   (Rd Try.prog (WS.at w) (sBin .lss 3 false v2 v3) fun t7 =>
   GuardK t7 true (fun k w' => k v0 w') (fun t8 w9 =>
   GuardK t7 true (fun k w' => Rd Try.prog (WS.at w9) (sNilCheck t8) fun v => k v w') (fun t10 w11 =>
   GuardK t7 true (fun k w' => Rd Try.prog (WS.at w11) (sFieldAddr 111 t10 0) fun v => k v w') (fun t12 w13 =>
   GuardK t7 true (fun k w' => Rd Try.prog (WS.at w13) (sLoad 22 t12) fun v => k v w') (fun t14 w15 =>
   GuardK t7 true (fun k w' => k v2 w') (fun t16 w17 =>
   GuardK t7 true (fun k w' => Rd Try.prog (WS.at w17) (sIndexAddr 22 t14 t16) fun v => k v w') (fun t18 w19 =>
   GuardK t7 true (fun k w' => Rd Try.prog (WS.at w19) (sLoad 3 t18) fun v => k v w') (fun t20 w21 =>
   GuardK t7 true (fun k w' => CallK Try.prog 179 [t20] k w') (fun t22 w23 =>
   GuardK t7 true (fun k w' => k t5 w') (fun t24 w25 =>
   GuardK t7 true (fun k w' => Rd Try.prog (WS.at w25) (sBin .eql 3 false t22 t24) fun v => k v w') (fun t26 w27 =>
   Rd Try.prog (WS.at w27) (sPick t7 t26 (.bool false)) fun t28 =>
   GuardK t28 true (fun k w' => k v0 w') (fun t29 w30 =>
   GuardK t28 true (fun k w' => k v1 w') (fun t31 w32 =>
   GuardK t28 true (fun k w' => Rd Try.prog (WS.at w32) (sSlice 22 t31 (some (.int .i64 1)) none none) fun v => k v w') (fun t33 w34 =>
   GuardK t28 true (fun k w' => k v2 w') (fun t35 w36 =>
   GuardK t28 true (fun k w' => Rd Try.prog (WS.at w36) (sBin .add 3 true t35 (.int .i64 1)) fun v => k v w') (fun t37 w38 =>
   GuardK t28 true (fun k w' => k v3 w') (fun t39 w40 =>
   GuardK t28 true (fun k w' => CallK Try.prog 149 [t29, t33, t37, t39] k w') (fun t41 w42 =>
   Rd Try.prog (WS.at w42) (sPick t28 t41 (.bool false)) fun t43 =>
   k t43 w42) w40) w38) w36) w34) w32) w30) w27) w25) w23) w21) w19) w17) w15) w13) w11) w9) w)
   (LoopF [47, 48, 49, 52, 53, 54, 55, 56, 57, 58, 59, 60, 61, 62, 63, 64, 65, 66, 67, 68, 69, 8, 50, 51, 10] (fun Q44 f45 w46 =>
    Rd Try.prog (WS.at w46) (sBin .leq 3 false (f45 10) (f45 3)) fun t47 =>
    CondK t47
     (Rd Try.prog (WS.at w46) (sNilCheck (f45 0)) fun t48 =>
     Rd Try.prog (WS.at w46) (sFieldAddr 111 t48 1) fun t49 =>
     Rd Try.prog (WS.at w46) (sIndexAddr 109 t49 (f45 9)) fun t50 =>
     Rd Try.prog (WS.at w46) (sIndexAddr 108 t50 (f45 2)) fun t51 =>
     Rd Try.prog (WS.at w46) (sIndexAddr 107 t51 (f45 10)) fun t52 =>
     Rd Try.prog (WS.at w46) (sLoad 4 t52) fun t53 =>
     GuardK t53 true (fun k w' => k (f45 0) w') (fun t54 w55 =>
     GuardK t53 true (fun k w' => k (f45 1) w') (fun t56 w57 =>
     GuardK t53 true (fun k w' => Rd Try.prog (WS.at w57) (sSlice 22 t56 (some (.int .i64 1)) none none) fun v => k v w') (fun t58 w59 =>
     GuardK t53 true (fun k w' => k (f45 10) w') (fun t60 w61 =>
     GuardK t53 true (fun k w' => k (f45 3) w') (fun t62 w63 =>
     GuardK t53 true (fun k w' => CallK Try.prog 149 [t54, t58, t60, t62] k w') (fun t64 w65 =>
     Rd Try.prog (WS.at w65) (sPick t53 t64 (.bool false)) fun t66 =>
     CondK t66
      (Q44 .ret (F.upd (F.upd (F.upd (F.upd (F.upd (F.upd (F.upd (F.upd (F.upd (F.upd (F.upd (F.upd (F.upd (F.upd (F.upd (F.upd (F.upd (F.upd (F.upd (F.upd (F.upd (F.upd f45 47 (f45 10)) 48 (f45 3)) 49 t47) 52 (f45 0)) 53 (f45 9)) 54 (f45 2)) 55 (f45 10)) 56 t48) 57 t49) 58 t50) 59 t51) 60 t52) 61 t53) 62 t53) 63 t54) 64 t56) 65 t58) 66 t60) 67 t62) 68 t64) 69 t66) 8 (.bool true)) w65)
      (Rd Try.prog (WS.at w65) (sBin .add 3 true (f45 10) (.int .i64 1)) fun t67 =>
      Q44 .normal (F.upd (F.upd (F.upd (F.upd (F.upd (F.upd (F.upd (F.upd (F.upd (F.upd (F.upd (F.upd (F.upd (F.upd (F.upd (F.upd (F.upd (F.upd (F.upd (F.upd (F.upd (F.upd (F.upd (F.upd f45 47 (f45 10)) 48 (f45 3)) 49 t47) 52 (f45 0)) 53 (f45 9)) 54 (f45 2)) 55 (f45 10)) 56 t48) 57 t49) 58 t50) 59 t51) 60 t52) 61 t53) 62 t53) 63 t54) 64 t56) 65 t58) 66 t60) 67 t62) 68 t64) 69 t66) 50 (f45 10)) 51 t67) 10 t67) w65)) w63) w61) w59) w57) w55) w46)
     (Q44 (.exit 0) (F.upd (F.upd (F.upd f45 47 (f45 10)) 48 (f45 3)) 49 t47) w46))
    (blockQ 0 (seqQ (fun f68 w69 =>
   k (.bool false) w69) (bodyQ Try.prog [.tmp 8] k)))
    (F.upd (F.upd (F.upd (F.upd (F.upd (F.upd (F.upd (F.upd (F.upd (F.upd (F.upd (F.upd (initF [v0, v1, v2, v3]) 8 (.bool false)) 11 v1) 12 t1) 13 t2) 17 v1) 18 t4) 19 t5) 9 t5) 20 t5) 21 t6) 46 v2) 10 v2) w))
theorem body149 : Try.f149.body = some (bodyOf Try.f149) := by kernel_rfl
theorem same149 (v0 v1 v2 v3 : Value) (k : Value → World → Prop) (w : World) : wpF Try.prog pl149 (bodyOf Try.f149) (bodyQ Try.prog Try.f149.results.toList k) (initF [v0, v1, v2, v3]) w = S149 v0 v1 v2 v3 k w := by kernel_rfl
theorem enter149 {v0 v1 v2 v3 : Value} {k : Value → World → Prop} {w : World} (h : S149 v0 v1 v2 v3 k w) : CallK Try.prog 149 [v0, v1, v2, v3] k w :=
  call_of_wpF (pl := pl149) mixed Try.func149 body149 (by kernel_rfl) (of_decide_eq_true (by kernel_rfl)) (by kernel_rfl) (by kernel_rfl) (same149 v0 v1 v2 v3 k w ▸ h)

/-! loop.example/g00758/spec.l4Fits -/
/-! loop.example/g00758/spec.l4Symbol -/
end Go.Proofs.Ytiohaeckagjebaa
