/- Contract: rules moved on (the reference's l20Shift). -/
import Derived.Test.YtiohaeckagjebaaShH0
import Derived.Test.YtiohaeckagjebaaShG6
import Derived.Test.YtiohaeckagjebaaShC1
import Derived.Test.YtiohaeckagjebaaBc
set_option linter.unusedVariables false
set_option linter.unusedSimpArgs false
set_option maxRecDepth 100000
namespace Go.Sh
open Go
def shiftS (d s : Int) : Int := if 0 ≤ s then IntKind.i64.wrap (s + d) else s
def shiftR (d : Int) (r : RuleL) : RuleL := (IntKind.i64.wrap (r.1 + d), r.2.map (shiftS d))
def shiftRs (d : Int) (rs : List RuleL) : List RuleL := rs.map (shiftR d)
theorem map_take_snoc {xs : List Int} {i : Nat} {p : Int → Int} (h : i < xs.length) : (xs.map p).take (i + 1) = (xs.map p).take i ++ [p (xs.getD i 0)] := by
  rw [take_snoc (by simpa using h)]
  simp [List.getD_eq_getElem?_getD, h]
theorem rul_map {rs : List RuleL} {j : Nat} {p : RuleL → RuleL} (h : j < rs.length) : rul (rs.map p) j = p (rul rs j) := by
  rw [rul_eq (by simpa using h), rul_eq h]
  simp
theorem ints_one_cell (x : Int) : ints [x] = [.int .i64 x] := rfl
end Go.Sh
namespace Go.Proofs.Ytiohaeckagjebaa
open Go Go.Sh Go.RowKit

theorem l20Shift_c {F : Nat → Prop} {w : World} {v : Value} {gm : Gram} {d : Int} (hv : GramV F w v gm) (hg : goodG gm = true) {k : Value → World → Prop}
    (hk : ∀ X c ps w', Gr w w' → OwnR 77 3 w' w.heap.size X c (shiftRs d gm.rules) ps → k (.slice X gm.rules.length c) w') :
    CallK Try.prog 140 [v, .int .i64 d] k w := by
  obtain ⟨Y, c, rfl, hc, hy⟩ := hv
  have hgl : gm.rules.length ≤ 16 := by
    simp only [goodG, Bool.and_eq_true, decide_eq_true_eq] at hg
    exact hg.1.2
  have hgr : ∀ i, i < gm.rules.length → (rul gm.rules i).2.length ≤ 4 := fun i hi => by
    simp only [goodG, Bool.and_eq_true, List.all_eq_true] at hg
    have := hg.2 i (List.mem_range.2 hi)
    simp only [goodR, Bool.and_eq_true, decide_eq_true_eq] at this
    exact this.1.1.2
  refine enter140 ?_
  unfold S140
  refine do_box fun b w1 g1 hb1 hB => ?_
  simp only [go_sem, Nat.reduceEqDiff]
  rw [ldB35 hB rfl]
  simp only [go_sem, Nat.reduceEqDiff]
  refine ⟨fun f w' => ∃ (i : Nat) (X : Option Addr) (e : Nat) (ps : Nat → Option Addr × Nat), i ≤ gm.rules.length ∧ f 14 = .int .i64 i ∧ f 5 = .slice X i e ∧ Gr w w' ∧ OwnR 77 3 w' w.heap.size X e (shiftRs d (gm.rules.take i)) ps, fun f _ => gm.rules.length - (intOf (f 14)).toNat,
    ⟨0, none, 0, fun _ => (none, 0), Nat.zero_le _, rfl, rfl, g1, ⟨[], Row.nil _ _ _ _, fun j hj => by simp [shiftRs] at hj⟩, fun j hj => by simp [shiftRs] at hj, fun i j hi => by simp [shiftRs] at hi⟩, ?_⟩
  rintro f w2 hag ⟨i, X, e, ps, hi, h14, h5, g2, o2⟩
  have f1 : f 1 = .int .i64 d := hag 1 (by decide)
  have f12 : f 12 = .slice Y gm.rules.length c := hag 12 (by decide)
  have f13 : f 13 = .int .i64 gm.rules.length := hag 13 (by decide)
  have hlen : (shiftRs d (gm.rules.take i)).length = i := by simp [shiftRs]; omega
  simp only [f1, f12, f13, h14, h5, go_sem, Nat.reduceEqDiff]
  by_cases hlt : i < gm.rules.length
  rotate_left
  · simp only [show ¬ (i : Int) < gm.rules.length from by omega, decide_false, go_sem, Nat.reduceEqDiff]
    obtain rfl : i = gm.rules.length := by omega
    rw [List.take_length] at o2
    exact hk _ _ _ _ g2 o2
  have hlt' : (i : Int) < gm.rules.length := by omega
  simp only [hlt', decide_true, go_sem, Nat.reduceEqDiff]
  rw [ixn35 hy.ptr hlt]
  refine ld_rule agg77 sz77 (hy.gr g2) hlt fun v hv => ?_
  obtain ⟨Z, z, rfl, hz0, hz⟩ := hv
  have hz4 := hgr i hlt
  refine do_alloc_of inf77 fun b3 w3 g3 hb3 h3 => ?_
  refine do_store sz77 rfl (by intro u hu; simp [Value.cells] at hu; rcases hu with rfl | rfl <;> rfl) h3 (by simp [Value.cells]) fun w4 g4 s4 h4 => ?_
  have g24 := gr_put g3 g4 hb3
  simp only [go_sem, Nat.reduceEqDiff]
  rw [ldB3 h4 rfl]
  simp only [go_sem, Nat.reduceEqDiff]
  rw [bd77 (cells := #[.int .i64 (IntKind.i64.wrap ((rul gm.rules i).1 + d)), .slice none 0 0]) rfl]
  refine do_alloc_of inf77 fun b5 w5 g5 hb5 h5 => ?_
  have n5 := h4.ne hb5
  refine do_store sz77 rfl (by intro u hu; simp [Value.cells] at hu; rcases hu with rfl | rfl <;> rfl) h5 (by simp [Value.cells]) fun w6 g6 s6 h6 => ?_
  have h46 := (h4.gr g5).put g6 n5
  have g26 := gr_trans g24 (gr_put g5 g6 hb5)
  rw [ldB22 h46 rfl]
  simp only [go_sem, Nat.reduceEqDiff]
  have hq5 : w2.heap.size ≤ b5 := Nat.le_trans g24.size hb5
  refine ⟨fun f' w' => ∃ (j : Nat) (U : Option Addr) (u : Nat), j ≤ (rul gm.rules i).2.length ∧ f' 26 = .int .i64 j ∧ Gr w2 w' ∧ Box w' b5 [.int .i64 (IntKind.i64.wrap ((rul gm.rules i).1 + d)), .slice U j u] 77 ∧ Own 3 w' w2.heap.size U u (((rul gm.rules i).2.map (shiftS d)).take j), fun f' _ => (rul gm.rules i).2.length - (intOf (f' 26)).toNat,
    ⟨0, none, 0, Nat.zero_le _, rfl, g26, h6, Row.nil _ _ _ _⟩, ?_⟩
  rintro f' w7 hag' ⟨j, U, u, hj, h26, g7, hB7, o7⟩
  have e1 : f' 1 = .int .i64 d := (hag' 1 (by decide)).trans f1
  have e8 : f' 8 = .pointer (some ⟨b5, 0, none⟩) := hag' 8 (by decide)
  have e24 : f' 24 = .slice Z (rul gm.rules i).2.length z := hag' 24 (by decide)
  have e25 : f' 25 = .int .i64 (rul gm.rules i).2.length := hag' 25 (by decide)
  have e5 : f' 5 = .slice X i e := (hag' 5 (by decide)).trans (by assumption)
  have e14 : f' 14 = .int .i64 i := (hag' 14 (by decide)).trans h14
  simp only [e1, e8, e24, e25, e5, e14, h26, go_sem, Nat.reduceEqDiff]
  by_cases hlt2 : j < (rul gm.rules i).2.length
  · have hlt2' : (j : Int) < (rul gm.rules i).2.length := by omega
    simp only [hlt2', decide_true, go_sem, Nat.reduceEqDiff]
    rw [ixn22 hz.is.ptr hlt2, ld3 ((hz.is.gr g7).cell j hlt2)]
    have hl : (((rul gm.rules i).2.map (shiftS d)).take j).length = j := by simp; omega
    have hshift : ∀ (s' : Int), s' = shiftS d ((rul gm.rules i).2.getD j 0) → ints [s'] = ints [shiftS d ((rul gm.rules i).2.getD j 0)] := fun _ e => by rw [e]
    by_cases hs : 0 ≤ (rul gm.rules i).2.getD j 0
    · simp only [hs, decide_true, go_sem, Nat.reduceEqDiff]
      rw [show IntKind.i64.wrap ((rul gm.rules i).2.getD j 0 + d) = shiftS d ((rul gm.rules i).2.getD j 0) from (if_pos hs).symm]
      rw [ldB22 hB7 rfl]
      refine bs22 [.int .i64 (shiftS d ((rul gm.rules i).2.getD j 0))] (by decide) (by simp [Instr.fill, madeCells, Value.cells, rng1]) rfl fun b8 w8 hb8 hb8' g8 hbox8 hrow8 => ?_
      have o8 : Own 3 w8 w7.heap.size (some ⟨b8, 0, none⟩) 1 [shiftS d ((rul gm.rules i).2.getD j 0)] := hrow8 _ (Nat.le_refl _)
      refine apI (o7.gr g8) o8.ints hl.symm rfl (by rw [hl]; simp; omega) (Nat.le_trans g7.size g8.size) fun U' u' w9 o9 g9 => ?_
      rw [← map_take_snoc hlt2] at o9
      rw [show (((rul gm.rules i).2.map (shiftS d)).take j ++ [shiftS d ((rul gm.rules i).2.getD j 0)]).length = j + 1 from by simp; omega]
      have hB9 := (hB7.gr g8).kept g9 (box_row (hB7.gr g8) (o7.gr g8) (by decide))
      refine do_store sz22 rfl (by intro u hu; simp [Value.cells] at hu; subst hu; rfl) hB9 (by simp [Value.cells]) fun w10 g10 s10 h10 => ?_
      rw [i64_of (by omega) (by omega)]
      have g89 := gr_mod (gr_trans g7 g8) g9 fun q hq => (Row.ge o7 hq).1
      refine ⟨⟨j + 1, U', u', hlt2, rfl, gr_put g89 g10 hq5, h10, Row.kept o9 g10 (.inr (box_row hB9 o9 (by decide)))⟩, ?_⟩
      · simp only [intOf]
        omega
    · simp only [hs, decide_false, go_sem, Nat.reduceEqDiff]
      rw [show [((0 : Nat), Value.int .i64 ((rul gm.rules i).2.getD j 0))] = [((0 : Nat), Value.int .i64 (shiftS d ((rul gm.rules i).2.getD j 0)))] from by unfold shiftS; rw [if_neg hs]]
      rw [ldB22 hB7 rfl]
      refine bs22 [.int .i64 (shiftS d ((rul gm.rules i).2.getD j 0))] (by decide) (by simp [Instr.fill, madeCells, Value.cells, rng1]) rfl fun b8 w8 hb8 hb8' g8 hbox8 hrow8 => ?_
      have o8 : Own 3 w8 w7.heap.size (some ⟨b8, 0, none⟩) 1 [shiftS d ((rul gm.rules i).2.getD j 0)] := hrow8 _ (Nat.le_refl _)
      refine apI (o7.gr g8) o8.ints hl.symm rfl (by rw [hl]; simp; omega) (Nat.le_trans g7.size g8.size) fun U' u' w9 o9 g9 => ?_
      rw [← map_take_snoc hlt2] at o9
      rw [show (((rul gm.rules i).2.map (shiftS d)).take j ++ [shiftS d ((rul gm.rules i).2.getD j 0)]).length = j + 1 from by simp; omega]
      have hB9 := (hB7.gr g8).kept g9 (box_row (hB7.gr g8) (o7.gr g8) (by decide))
      refine do_store sz22 rfl (by intro u hu; simp [Value.cells] at hu; subst hu; rfl) hB9 (by simp [Value.cells]) fun w10 g10 s10 h10 => ?_
      rw [i64_of (by omega) (by omega)]
      have g89 := gr_mod (gr_trans g7 g8) g9 fun q hq => (Row.ge o7 hq).1
      refine ⟨⟨j + 1, U', u', hlt2, rfl, gr_put g89 g10 hq5, h10, Row.kept o9 g10 (.inr (box_row hB9 o9 (by decide)))⟩, ?_⟩
      · simp only [intOf]
        omega
  · simp only [show ¬ (j : Int) < (rul gm.rules i).2.length from by omega, decide_false, go_sem, Nat.reduceEqDiff]
    obtain rfl : j = (rul gm.rules i).2.length := by omega
    rw [List.take_of_length_le (by simp)] at o7
    rw [ldB_agg agg77 sz77 rfl hB7]
    refine bs35 [.int .i64 (IntKind.i64.wrap ((rul gm.rules i).1 + d)), .slice U (rul gm.rules i).2.length u] (by decide) (by simp [Instr.fill, madeCells, Value.cells, rng2]) rfl fun b8 w8 hb8 hb8' g8 hbox8 hrow8 => ?_
    have hN : RCells [.int .i64 (IntKind.i64.wrap ((rul gm.rules i).1 + d)), .slice U (rul gm.rules i).2.length u] [shiftR d (rul gm.rules i)] (fun _ => (U, u)) := ⟨rfl, fun j hj => by
      obtain rfl : j = 0 := by simpa using hj
      simp [rul, shiftR]⟩
    have gw7 := gr_trans g2 g7
    have gw8 := gr_trans gw7 g8
    refine do_append_rules (ps := ps) (rs := shiftRs d (gm.rules.take i)) (qs := [shiftR d (rul gm.rules i)]) u35 inf77 rfl (by decide) hlen.symm rfl (o2.gr (gr_trans g7 g8)) (Row.src (hrow8 _ (Nat.le_refl _))) hN (fun j hj => ?_) (fun i j hi hj hij => ?_) (fun i' j hi' hj => ?_) (by rw [hlen]; simp; omega) (by rw [hlen]; simp; omega) gw8.size fun X' c' w9 g9 o9 _ => ?_
    · obtain rfl : j = 0 := by simpa using hj
      exact Row.mono (Row.gr o7 g8) g2.size
    · simp at hi hj
      omega
    · exact blk_ne (fun q hq => (Row.ge (o2.own i' hi') hq).2) (fun q hq => (Row.ge o7 hq).1) (Nat.le_refl _)
    rw [i64_of (by omega) (by omega)]
    refine ⟨⟨i + 1, X', c', _, hlt, rfl, rfl, gr_mod gw8 g9 fun q hq => ?_, by
      rw [take_rul hlt, shiftRs, List.map_append]
      exact o9⟩, ?_⟩
    · obtain ⟨cells, hr, _⟩ := o2.row
      exact (Row.ge hr hq).1
    · simp only [intOf]
      omega
end Go.Proofs.Ytiohaeckagjebaa
