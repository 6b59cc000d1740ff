/- Contract: a copy of a grammar by the program. -/
import Derived.Test.YtiohaeckagjebaaShH3
set_option linter.unusedVariables false
set_option linter.unusedSimpArgs false
set_option maxRecDepth 100000
namespace Go.Sh
open Go
theorem good_rule {g : Gram} (hg : goodG g = true) : ∀ i, i < g.rules.length → (rul g.rules i).2.length ≤ 4 := fun i hi => by
  simp only [goodG, Bool.and_eq_true, List.all_eq_true] at hg
  have := hg.2 i (List.mem_range.2 hi)
  simp only [goodR, Bool.and_eq_true, decide_eq_true_eq] at this
  exact this.1.1.2
end Go.Sh
namespace Go.Proofs.Ytiohaeckagjebaa
open Go Go.Sh Go.RowKit

theorem copyGrammar_c {F : Nat → Prop} {w : World} {v : Value} {gm : Gram} (hv : GramV F w v gm) (hg : goodG gm = true) {k : Value → World → Prop}
    (hk : ∀ v w', Gr w w' → GramO w' w.heap.size v gm → k v w') : CallK Try.prog 141 [v] k w := by
  obtain ⟨Y, c, rfl, hc, hy⟩ := hv
  have hgl := good_len hg
  have hgr := good_rule hg
  refine enter141 ?_
  unfold S141
  refine do_box fun b1 w1 g1 hb1 h1 => ?_
  refine do_alloc_of inf37 fun b3 w2 g2 hb3 h3 => ?_
  have n3 := h1.ne hb3
  have h1 := h1.gr g2
  have q3 := Nat.le_trans g1.size hb3
  simp only [go_sem, Nat.reduceEqDiff]
  rw [ldB3 h1 rfl, ldB3 h1 rfl]
  rw [bd37 (cells := #[.int .i64 gm.nons, .int .i64 gm.toks, .slice none 0 0]) rfl]
  refine do_alloc_of inf37 fun b4 w4 g4 hb4 h4 => ?_
  have n4 := h3.ne hb4
  have n14 := h1.ne hb4
  have q4 := Nat.le_trans (gr_trans g1 g2).size hb4
  refine do_store sz37 rfl (by intro u hu; simp [Value.cells] at hu; rcases hu with rfl | rfl | rfl <;> rfl) h4 (by simp [Value.cells]) fun w5 g5 s5 h4 => ?_
  have h1 := (h1.gr g4).put g5 n14
  have h3 := (h3.gr g4).put g5 n4
  have g := gr_put (gr_trans (gr_trans g1 g2) g4) g5 q4
  rw [ldB35 h1 rfl]
  simp only [go_sem, Nat.reduceEqDiff]
  refine ⟨fun f w' => ∃ (i : Nat) (X : Option Addr) (e : Nat) (ps : Nat → Option Addr × Nat), i ≤ gm.rules.length ∧ f 14 = .int .i64 i ∧ Gr w w' ∧ Box w' b3 [.int .i64 0, .int .i64 0, .slice none 0 0] 37 ∧ Box w' b4 [.int .i64 gm.nons, .int .i64 gm.toks, .slice X i e] 37 ∧ OwnR 77 3 w' w.heap.size X e (gm.rules.take i) ps, fun f _ => gm.rules.length - (intOf (f 14)).toNat,
    ⟨0, none, 0, fun _ => (none, 0), Nat.zero_le _, rfl, g, h3, h4, ⟨[], Row.nil _ _ _ _, fun j hj => by simp at hj⟩, fun j hj => by simp at hj, fun i j hi => by simp at hi⟩, ?_⟩
  rintro f w6 hag ⟨i, X, e, ps, hi, h14, g6, hb3', hb4', o6⟩
  have f2 : f 2 = .pointer (some ⟨b3, 0, none⟩) := hag 2 (by decide)
  have f3 : f 3 = .pointer (some ⟨b4, 0, none⟩) := hag 3 (by decide)
  have f12 : f 12 = .slice Y gm.rules.length c := hag 12 (by decide)
  have f13 : f 13 = .int .i64 gm.rules.length := hag 13 (by decide)
  have hlen : (gm.rules.take i).length = i := by simp; omega
  simp only [f2, f3, f12, f13, h14, go_sem, Nat.reduceEqDiff]
  by_cases hlt : i < gm.rules.length
  rotate_left
  · simp only [show ¬ (i : Int) < gm.rules.length from by omega, decide_false, go_sem, Nat.reduceEqDiff]
    obtain rfl : i = gm.rules.length := by omega
    rw [List.take_length] at o6
    rw [ldB_agg agg37 sz37 rfl hb4']
    refine do_store sz37 rfl (by intro u hu; simp [Value.cells] at hu; rcases hu with rfl | rfl | rfl <;> rfl) hb3' (by simp [Value.cells]) fun w7 g7 s7 h7 => ?_
    rw [rd_loadVar, ldB_agg agg37 sz37 rfl h7]
    exact hk _ w7 (gr_put g6 g7 q3) ⟨X, e, ps, rfl, o6.put hb3' (by decide) (by decide) g7⟩
  have hlt' : (i : Int) < gm.rules.length := by omega
  simp only [hlt', decide_true, go_sem, Nat.reduceEqDiff]
  rw [ixn35 hy.ptr hlt]
  refine ld_rule agg77 sz77 (hy.gr g6) hlt fun v hv => ?_
  obtain ⟨Z, z, rfl, hz0, hz⟩ := hv
  have hz4 := hgr i hlt
  refine do_alloc_of inf77 fun b7 w7 g7 hb7 h7 => ?_
  refine do_store sz77 rfl (by intro u hu; simp [Value.cells] at hu; rcases hu with rfl | rfl <;> rfl) h7 (by simp [Value.cells]) fun w8 g8 s8 h8 => ?_
  have g68 := gr_put g7 g8 hb7
  have gd := gr_drew w8
  have g6d := gr_trans g68 gd
  refine ⟨fun w' => Gr w8.drew w', Gr.refl _, ?_⟩
  simp only [go_sem, Nat.reduceEqDiff]
  rw [ldS35 (fun w' hw' => ((hb4'.gr g6d).gr hw').cell 2), ldS3 (fun w' hw' => ((h8.gr gd).gr hw').cell 0), ldS22 (fun w' hw' => ((h8.gr gd).gr hw').cell 1)]
  refine bs22 [] (by decide) (by simp [Instr.fill, madeCells]) rfl fun b9 w9 hb9 hb9' g9 hbox9 hrow9 => ?_
  refine ⟨g9, ?_⟩
  refine apI (xs := []) (B := w8.drew.heap.size) (hrow9 _ (Nat.le_refl _)) (hz.is.gr (gr_trans g6d g9)) rfl rfl (by simp; omega) g9.size fun U u w10 o10 g10 => ?_
  rw [List.nil_append] at o10 ⊢
  have gd10 : Gr w8.drew w10 := gr_put g9 g10 hb9
  refine ⟨gd10, ?_⟩
  rw [bd77 (cells := #[.int .i64 (rul gm.rules i).1, .slice U (rul gm.rules i).2.length u]) rfl]
  refine bs35 [.int .i64 (rul gm.rules i).1, .slice U (rul gm.rules i).2.length u] (by decide) (by simp [Instr.fill, madeCells, Value.cells, rng2]) rfl fun b11 w11 hb11 hb11' g11 hbox11 hrow11 => ?_
  have gd11 := gr_trans gd10 g11
  refine ⟨gd11, ?_⟩
  have g611 := gr_trans g6d gd11
  have gw11 := gr_trans g6 g611
  have hN : RCells [.int .i64 (rul gm.rules i).1, .slice U (rul gm.rules i).2.length u] [rul gm.rules i] (fun _ => (U, u)) := ⟨rfl, fun j hj => by
    obtain rfl : j = 0 := by simpa using hj
    exact ⟨rfl, rfl⟩⟩
  have hX4 : blk X ≠ some b4 ∧ blk X ≠ some b3 := by
    obtain ⟨cells, hr, _⟩ := (o6.gr g611).cells
    exact ⟨box_row (hb4'.gr g611) hr (by decide), box_row (hb3'.gr g611) hr (by decide)⟩
  refine do_append_rules (ps := ps) (rs := gm.rules.take i) (qs := [rul gm.rules i]) u35 inf77 rfl (by decide) hlen.symm rfl (o6.gr g611) (Row.src (hrow11 _ (Nat.le_refl _))) hN (fun j hj => ?_) (fun i j hi hj hij => ?_) (fun i' j hi' hj => ?_) (by rw [hlen]; simp; omega) (by rw [hlen]; simp; omega) gw11.size fun X' c' w12 g12 o12 _ => ?_
  · obtain rfl : j = 0 := by simpa using hj
    exact Row.mono (Row.gr o10 g11) (gr_trans g6 g6d).size
  · simp at hi hj
    omega
  · exact blk_ne (fun q hq => (Row.ge (o6.own i' hi') hq).2) (fun q hq => (Row.ge o10 hq).1) g6d.size
  have hb412 := (hb4'.gr g611).kept g12 hX4.1
  have hb312 := (hb3'.gr g611).kept g12 hX4.2
  refine do_store sz35 rfl (by intro u hu; simp [Value.cells] at hu; subst hu; rfl) hb412 (by simp [Value.cells]) fun w13 g13 s13 hb413 => ?_
  have gw12 : Gr w w12 := gr_mod gw11 g12 fun q hq => by
    obtain ⟨cells, hr, _⟩ := o6.row
    exact (Row.ge hr hq).1
  rw [i64_of (by omega) (by omega)]
  refine ⟨⟨i + 1, X', c', _, hlt, rfl, gr_put gw12 g13 q4, hb312.put g13 n4, by simpa [Value.cells] using hb413, by
    rw [take_rul hlt]
    exact o12.put hb412 (by decide) (by decide) g13⟩, ?_⟩
  simp only [intOf]
  omega
end Go.Proofs.Ytiohaeckagjebaa
