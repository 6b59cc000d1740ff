/- Contracts: a copy of a grammar, that the call owns. -/
import Derived.Test.YtiohaeckagjebaaShG3
set_option linter.unusedVariables false
set_option linter.unusedSimpArgs false
set_option maxRecDepth 100000
namespace Go.Sh
open Go
/-- A grammar as a value, of the call's own. -/
def GramO (w : World) (B : Nat) (v : Value) (g : Gram) : Prop := ∃ X c ps, v = .agg #[.int .i64 g.nons, .int .i64 g.toks, .slice X g.rules.length c] ∧ OwnR 77 3 w B X c g.rules ps
theorem GramO.gx {D : Nat → Prop} {w w' : World} {B : Nat} {v : Value} {r : Gram} (h : GramO w B v r) (g : Gx D w w') (hn : ∀ b, B ≤ b → b < w.heap.size → ¬ D b) : GramO w' B v r := by
  obtain ⟨X, c, ps, h1, h2⟩ := h
  exact ⟨X, c, ps, h1, h2.gx g hn⟩
theorem GramO.gr {w w' : World} {B : Nat} {v : Value} {r : Gram} (h : GramO w B v r) (g : Gr w w') : GramO w' B v r := by
  obtain ⟨X, c, ps, h1, h2⟩ := h
  exact ⟨X, c, ps, h1, h2.gr g⟩
theorem GramO.mono {w : World} {B B' : Nat} {v : Value} {r : Gram} (h : GramO w B v r) (hb : B' ≤ B) : GramO w B' v r := by
  obtain ⟨X, c, ps, h1, h2⟩ := h
  exact ⟨X, c, ps, h1, h2.mono hb⟩
theorem GramO.read {w : World} {B : Nat} {v : Value} {r : Gram} (h : GramO w B v r) : GramV (fun b => B ≤ b ∧ b < w.heap.size) w v r := by
  obtain ⟨X, c, ps, h1, h2⟩ := h
  obtain ⟨⟨cells, hr, _⟩, _⟩ := h2
  exact ⟨X, c, h1, (Row.cap hr).1, OwnR.read ⟨⟨cells, hr, by assumption⟩, by assumption, by assumption⟩⟩
theorem zeros_rules {n j : Nat} (h : j < n) : (madeCells (Value.cells (.agg #[.int .i64 0, .slice none 0 0])) (n * 2)).toList[j * 2]? = some (.int .i64 0) ∧ (madeCells (Value.cells (.agg #[.int .i64 0, .slice none 0 0])) (n * 2)).toList[j * 2 + 1]? = some (.slice none 0 0) := by
  constructor
  · simp [madeCells, Value.cells]
    rw [List.getElem?_range (by omega)]
    simp
  · simp [madeCells, Value.cells]
    rw [List.getElem?_range (by omega)]
    simp [Nat.add_mod]
theorem rul_replicate {n j : Nat} : rul (List.replicate n (0, [])) j = (0, []) := by
  simp only [rul, List.getD_eq_getElem?_getD, List.getElem?_replicate]
  split <;> rfl
end Go.Sh
namespace Go.Proofs.Ytiohaeckagjebaa
open Go Go.Sh Go.RowKit

theorem toRule_c {F : Nat → Prop} {w : World} {v : Value} {r : RuleL} (hv : RuleV F w v r) (hb : r.2.length * 8 ≤ 281474976710656) {k : Value → World → Prop}
    (hk : ∀ Y d w', Gr w w' → Own 3 w' w.heap.size Y d r.2 → k (.agg #[.int .i64 r.1, .slice Y r.2.length d]) w') :
    CallK Try.prog 134 [v] k w := by
  obtain ⟨Y, c, rfl, hc, hy⟩ := hv
  refine enter134 ?_
  unfold S134
  refine do_box fun b w1 g1 hb1 hB => ?_
  refine do_alloc_of inf77 fun b3 w2 g2 hb2 h3 => ?_
  have n1 := hB.ne hb2
  have hB := hB.gr g2
  refine do_alloc_of inf77 fun b5 w3 g3 hb3 h5 => ?_
  have n2 := hB.ne hb3
  have n3 := h3.ne hb3
  have hB := hB.gr g3
  have h3 := h3.gr g3
  have g := gr_trans g1 (gr_trans g2 g3)
  have q3 := Nat.le_trans g1.size hb2
  have q5 := Nat.le_trans (gr_trans g1 g2).size hb3
  simp only [go_sem, Nat.reduceEqDiff]
  rw [ldB3 hB rfl]
  refine do_store sz3 rfl (by intro u hu; simp [Value.cells] at hu; subst hu; rfl) h5 (by simp [Value.cells]) fun w4 g4 s4 h5 => ?_
  have hB := hB.put g4 n2
  have h3 := h3.put g4 n3
  have g := gr_put g g4 q5
  rw [ldB22 hB rfl]
  refine toIntS_c (hy.is.gr g) rfl (by assumption) fun X' c' w5 g5 o5 => ?_
  have l5 := h5.lt
  have l3 := h3.lt
  refine do_store sz22 rfl (by intro u hu; simp [Value.cells] at hu; subst hu; rfl) (h5.gr g5) (by simp [Value.cells]) fun w6 g6 s6 h5 => ?_
  have h3 := (h3.gr g5).put g6 n3
  have o6 := Row.kept_old o5 g6 l5
  have g := gr_put (gr_trans g g5) g6 q5
  rw [ldB_agg agg77 sz77 rfl h5]
  refine do_store sz77 rfl (by intro u hu; simp [Value.cells] at hu; rcases hu with rfl | rfl <;> rfl) h3 (by simp [Value.cells]) fun w7 g7 s7 h3 => ?_
  have o7 := Row.kept_old o6 g7 l3
  have g := gr_put g g7 q3
  rw [rd_loadVar, ldB_agg agg77 sz77 rfl h3]
  exact hk X' c' w7 g (Row.mono o7 (by have := g.size; omega))
theorem toRuleS_c {F : Nat → Prop} {w : World} {X : Option Addr} {c : Nat} {rs : List RuleL} (hx : RulesF F w X rs) (hb : sizeR rs ≤ 1048576) {k : Value → World → Prop}
    (hk : ∀ X' c' ps w', Gr w w' → OwnR 77 3 w' w.heap.size X' c' rs ps → k (.slice X' rs.length c') w') :
    CallK Try.prog 83 [.slice X rs.length c] k w := by
  have hn : rs.length ≤ 1048576 := by unfold sizeR at hb; omega
  refine enter83 ?_
  unfold S83
  simp only [go_sem, Nat.reduceEqDiff]
  refine mk35 (by omega) fun b w1 hb1 hb2 g1 hrow => ?_
  have o1 := hrow _ (Nat.le_refl _)
  refine ⟨fun f w' => ∃ i : Nat, i ≤ rs.length ∧ f 4 = .int .i64 i ∧ Gr w w' ∧ ∃ ps, (∀ j, i ≤ j → ps j = (none, 0)) ∧ OwnR 77 3 w' w.heap.size (some ⟨b, 0, none⟩) rs.length (rs.take i ++ (List.replicate rs.length ((0 : Int), ([] : List Int))).drop i) ps, fun f _ => rs.length - (intOf (f 4)).toNat,
    ⟨0, Nat.zero_le _, rfl, g1, fun _ => (none, 0), fun _ _ => rfl, ?_⟩, ?_⟩
  · rw [List.take_zero, List.nil_append, List.drop_zero]
    refine ⟨⟨_, by rw [List.length_replicate]; exact o1, fun j hj => ?_⟩, fun j hj => ?_, fun i j hi hj hij => .inl rfl⟩
    · rw [List.length_replicate] at hj
      rw [rul_replicate]
      exact zeros_rules hj
    · rw [rul_replicate]
      exact Row.nil _ _ _ _
  rintro f w2 hag ⟨i, hi, h4, g2, ps, hps, o2⟩
  have f0 : f 0 = .slice X rs.length c := hag 0 (by decide)
  have f3 : f 3 = .slice (some ⟨b, 0, none⟩) rs.length rs.length := hag 3 (by decide)
  simp only [f0, f3, h4, go_sem, Nat.reduceEqDiff]
  have hlen : (rs.take i ++ (List.replicate rs.length ((0 : Int), ([] : List Int))).drop i).length = rs.length := by simp; omega
  by_cases hlt : i < rs.length
  · have hlt' : (i : Int) < rs.length := by omega
    simp only [hlt', decide_true, go_sem, Nat.reduceEqDiff]
    rw [ixn29 hx.ptr hlt]
    refine ld_rule agg148 sz148 (hx.gr g2) hlt fun v hv => ?_
    have hone := lens_one hlt
    refine toRule_c hv (by unfold sizeR at hb; omega) fun Y d w3 g3 o3 => ?_
    rw [ixn35 (X := some ⟨b, 0, none⟩) (fun _ => rfl) hlt]
    refine do_store_rule sz77 (by decide) (o2.gr g3) (by rw [hlen]; exact hlt) (Row.mono o3 (Nat.le_refl _) |>.mono g2.size) (fun j hj hji => ?_) fun w4 g4 s4 o4 => ?_
    · cases hq : blk Y with
      | none => exact .inl rfl
      | some q =>
        refine .inr fun e => ?_
        have h1 := (Row.ge o3 hq).1
        have h2 := (Row.ge (o2.own j hj) e.symm).2
        omega
    rw [set_rul (by simpa using hlt) (by simp)] at o4
    have hq : w.heap.size ≤ b := hb1
    rw [i64_of (by omega) (by omega)]
    refine ⟨⟨i + 1, hlt, rfl, gr_put (gr_trans g2 g3) g4 hq, _, fun j hj => ?_, o4⟩, ?_⟩
    · rw [if_neg (by omega)]
      exact hps j (by omega)
    · simp only [intOf]
      omega
  · have hi' : i = rs.length := by omega
    subst hi'
    simp only [Int.lt_irrefl, decide_false, go_sem, Nat.reduceEqDiff]
    refine hk _ _ ps w2 g2 ?_
    simpa using o2
/-- A copy of a grammar. -/
theorem toGrammar_c {F : Nat → Prop} {w : World} {v : Value} {gm : Gram} (hv : GramV F w v gm) (hb : sizeR gm.rules ≤ 1048576) {k : Value → World → Prop}
    (hk : ∀ v' w', Gr w w' → GramO w' w.heap.size v' gm → k v' w') : CallK Try.prog 31 [v] k w := by
  obtain ⟨Y, c, rfl, hc, hy⟩ := hv
  refine enter31 ?_
  unfold S31
  refine do_box fun b w1 g1 hb1 hB => ?_
  refine do_alloc_of inf37 fun b3 w2 g2 hb2 h3 => ?_
  have n1 := hB.ne hb2
  have hB := hB.gr g2
  refine do_alloc_of inf37 fun b5 w3 g3 hb3 h5 => ?_
  have n2 := hB.ne hb3
  have n3 := h3.ne hb3
  have hB := hB.gr g3
  have h3 := h3.gr g3
  have g := gr_trans g1 (gr_trans g2 g3)
  have q3 := Nat.le_trans g1.size hb2
  have q5 := Nat.le_trans (gr_trans g1 g2).size hb3
  simp only [go_sem, Nat.reduceEqDiff]
  rw [ldB3 hB rfl]
  refine do_store sz3 rfl (by intro u hu; simp [Value.cells] at hu; subst hu; rfl) h5 (by simp [Value.cells]) fun w4 g4 s4 h5 => ?_
  have hB := hB.put g4 n2
  have h3 := h3.put g4 n3
  have g := gr_put g g4 q5
  rw [ldB3 hB rfl]
  refine do_store sz3 rfl (by intro u hu; simp [Value.cells] at hu; subst hu; rfl) h5 (by simp [Value.cells]) fun w4 g4 s4 h5 => ?_
  have hB := hB.put g4 n2
  have h3 := h3.put g4 n3
  have g := gr_put g g4 q5
  rw [ldB29 hB rfl]
  refine toRuleS_c (hy.gr g) (by assumption) fun X' c' ps w5 g5 o5 => ?_
  have l5 := h5.lt
  have l3 := h3.lt
  refine do_store sz35 rfl (by intro u hu; simp [Value.cells] at hu; subst hu; rfl) (h5.gr g5) (by simp [Value.cells]) fun w6 g6 s6 h5 => ?_
  have h3 := (h3.gr g5).put g6 n3
  have o6 := o5.gx (gx_of g6 (D := fun q => q = b5) fun q hq => by simpa using hq.symm) (fun q h1 h2 h3 => by omega)
  have g := gr_put (gr_trans g g5) g6 q5
  rw [ldB_agg agg37 sz37 rfl h5]
  refine do_store sz37 rfl (by intro u hu; simp [Value.cells] at hu; rcases hu with rfl | rfl | rfl <;> rfl) h3 (by simp [Value.cells]) fun w7 g7 s7 h3 => ?_
  have o7 := o6.gx (gx_of g7 (D := fun q => q = b3) fun q hq => by simpa using hq.symm) (fun q h1 h2 h3 => by omega)
  have g := gr_put g g7 q3
  rw [rd_loadVar, ldB_agg agg37 sz37 rfl h3]
  exact hk _ w7 g ⟨X', c', ps, rfl, o7.mono (by have := g.size; omega)⟩
end Go.Proofs.Ytiohaeckagjebaa
