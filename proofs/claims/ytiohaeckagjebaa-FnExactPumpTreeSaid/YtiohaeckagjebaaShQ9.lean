/- Contracts: PumpOf and PathIn of the program. -/
import Derived.Test.YtiohaeckagjebaaShQ8
set_option linter.unusedVariables false
set_option linter.unusedSimpArgs false
set_option maxRecDepth 100000
namespace Go.Sh
open Go
theorem Apt.emptySS {w0 w : World} {L : List Thing} (H : Apt w0 w L) (i : Nat) {e1 e2 c : Nat} {X : Option Addr} (ps : Nat → Option Addr × Nat) (hi : L[i]? = some (rwi e1 1 X 0 c [])) : Apt w0 w (L.set i (Sh.lssi e1 e2 X c [] ps)) := by
  have hr := H.row i hi
  have o : OwnSS e1 e2 w w0.heap.size X c [] ps := ⟨⟨[], hr, fun j hj => by simp at hj⟩, fun j hj => by simp at hj, fun i j hi => by simp at hi⟩
  refine H.set hi (Gx.refl _ w) (fun q hq => ?_) (fun q hq => (o.foot hq).2) (lssi_kept o)
  rcases hq with hq | ⟨l, hl, _⟩
  · exact .inl hq
  · simp at hl
end Go.Sh
namespace Go.Proofs.Ytiohaeckagjebaa
open Go Go.Sh Go.RowKit

theorem inf181 : Inf Try.prog 181 .nilFunc 1 8 := inf_of (by kernel_rfl)
theorem tree_c {gm : Gram} {tree : List Int} {X : Option Addr} {n c : Nat} (hg : goodG gm = true) (ht : tree.length ≤ 60) {F : Nat → Prop} {w : World} {v : Value} (hv : GramV F w v gm) (hx : Ints w X tree) (hn : n = tree.length) {k : Value → World → Prop}
    (hk0 : readT gm.rules tree tree.length 0 0 [] = none → ∀ w' v1 v2, Gr w w' → k (.tuple #[v1, v2, .bool false]) w')
    (hk1 : ∀ p ws, readT gm.rules tree tree.length 0 0 [] = some (p, ws) → ∀ w' b E W cw, Apt w w' [ows W cw ws, pti E p b] → k (.tuple #[ptrv b, .slice W ws.length cw, .bool true]) w') :
    CallK Try.prog 144 [v, .int .i64 0, .slice X n c] k w := by
  subst hn
  obtain ⟨Y, cy, rfl, hc, hy⟩ := hv
  refine enter144 ?_
  unfold S144
  have H := Apt.nil w
  refine boxH H fun bG w1 H => ?_
  refine boxH H fun bR w2 H => ?_
  refine buildH H u22 inf3 [] (by decide) (by decide) (by simp [Instr.fill, madeCells]) rfl fun b0 w3 H => ?_
  refine allocH H inf22 fun bW w4 H => ?_
  refine storeH H 3 rfl sz22 rfl rfl rfl fun w5 H => ?_
  refine allocH H inf181 fun bF w6 H => ?_
  simp only [go_sem, Nat.reduceEqDiff]
  refine storeH H 4 rfl sz181 rfl rfl rfl fun w7 H => ?_
  simp only [List.nil_append, List.cons_append, List.set_cons_zero, List.set_cons_succ] at H
  have H := H.pick (L' := held4 gm tree X Y c cy bR bG bW bF (some ⟨b0, 0, none⟩) 0 []) (fun i => [1, 0, 3, 4, 2].getD i 0) (fun i a ha => by
    match i, ha with
    | 0, ha => exact ha
    | 1, ha => exact ha
    | 2, ha => exact ha
    | 3, ha => exact ha
    | 4, ha => exact ha
    | i + 5, ha => simp [held4] at ha) (fun i j hi hj e => by
    simp only [held4, List.length_cons, List.length_nil] at hi hj
    match i, j, hi, hj, e with
    | 0, 0, _, _, _ | 1, 1, _, _, _ | 2, 2, _, _, _ | 3, 3, _, _, _ | 4, 4, _, _, _ => rfl
    | 0, 1, _, _, e | 0, 2, _, _, e | 0, 3, _, _, e | 0, 4, _, _, e | 1, 0, _, _, e | 1, 2, _, _, e | 1, 3, _, _, e | 1, 4, _, _, e | 2, 0, _, _, e | 2, 1, _, _, e | 2, 3, _, _, e | 2, 4, _, _, e | 3, 0, _, _, e | 3, 1, _, _, e | 3, 2, _, _, e | 3, 4, _, _, e | 4, 0, _, _, e | 4, 1, _, _, e | 4, 2, _, _, e | 4, 3, _, _, e => exact absurd e (by decide)
    | i + 5, _, h, _, _ => omega
    | _, j + 5, _, h, _ => omega)
  rw [ldB181 (H.box 3 rfl) rfl]
  refine callVc (caps := [ptrv bR, ptrv bG, ptrv bW, ptrv bF]) ?_
  refine read_c hg ht hx hy tree.length (M := []) (a := 0) H (by omega) (by simp; omega) (fun hz w8 v W cw ws H => ?_) fun p ws hz w8 b E W cw H => ?_
  · simp only [go_sem, Nat.reduceEqDiff]
    have H := H.drew
    rw [ldB22 (H.box 2 rfl) rfl]
    exact hk0 hz _ _ _ H.gr
  · simp only [go_sem, Nat.reduceEqDiff]
    have H := H.drew
    rw [ldB22 (H.box 2 rfl) rfl]
    exact hk1 p ws hz _ _ _ _ _ ((((H.erase 0).erase 0).erase 0).erase 0)
theorem whole_c {gm : Gram} {tree : List Int} {X : Option Addr} {n c : Nat} {F : Nat → Prop} {w : World} {v : Value} (hv : GramV F w v gm) (hx : Ints w X tree) (hn : n = tree.length) {k : Value → World → Prop}
    (hk0 : askedT gm tree = false → ∀ w' v1 v2, Gr w w' → k (.tuple #[v1, v2, .bool false]) w')
    (hk1 : ∀ p ws, Whole gm tree p ws → ∀ w' b E W cw, Apt w w' [ows W cw ws, pti E p b] → k (.tuple #[ptrv b, .slice W ws.length cw, .bool true]) w') :
    CallK Try.prog 93 [v, .slice X n c] k w := by
  subst hn
  obtain ⟨Y, cy, rfl, hc, hy⟩ := hv
  refine enter93 ?_
  unfold S93
  have H := Apt.nil w
  refine boxH H fun b1 w1 H => ?_
  rw [ldB_agg agg37 sz37 rfl (H.box 0 rfl)]
  refine isGrammar_c (gm := gm) ⟨Y, cy, rfl, hc, hy.gr H.gr⟩ fun w2 g2 => ?_
  have H := H.step g2
  cases hg : goodG gm
  · simp only [Bool.not_false, go_sem, Nat.reduceEqDiff]
    exact hk0 (by simp [askedT, hg]) _ _ _ H.gr
  simp only [Bool.not_true, go_sem, Nat.reduceEqDiff]
  by_cases hl : tree.length ≤ 60
  case neg =>
    simp only [show (60 : Int) < tree.length from by omega, decide_true, go_sem, Nat.reduceEqDiff]
    exact hk0 (by simp [askedT, hl]) _ _ _ H.gr
  simp only [show ¬ (60 : Int) < tree.length from by omega, decide_false, go_sem, Nat.reduceEqDiff]
  rw [ldB_agg agg37 sz37 rfl (H.box 0 rfl)]
  have G := H.gr
  refine tree_c hg hl ⟨Y, cy, rfl, hc, hy.gr H.gr⟩ (hx.gr H.gr) rfl (fun hz w3 v1 v2 g3 => ?_) fun p ws hz w3 b E W cw H3 => ?_
  · simp only [go_sem, Nat.reduceEqDiff]
    refine hk0 ?_ _ _ _ (gr_trans (gr_trans G g3) (gr_drew _))
    cases ha : askedT gm tree with
    | false => rfl
    | true =>
      obtain ⟨p, ws, hW⟩ := asked_whole.1 ha
      rw [hW.read] at hz
      cases hz
  · simp only [go_sem, Nat.reduceEqDiff]
    have H3 := H3.drew
    obtain ⟨Xp, cp, hb, _⟩ := (show PartAt E w3.drew p b from H3.get 1 rfl).box
    rw [ldB3 hb rfl]
    simp only [go_sem, Int.natCast_inj]
    have H4 := Apt.append (Apt.nil w |>.step G) H3
    by_cases hf : p.fin = tree.length
    · simp only [hf, decide_true]
      exact hk1 p ws ⟨hg, hl, hz, hf⟩ _ _ _ _ _ H4
    · simp only [hf, decide_false]
      refine hk0 ?_ _ _ _ H4.gr
      cases ha : askedT gm tree with
      | false => rfl
      | true =>
        obtain ⟨p', ws', hW⟩ := asked_whole.1 ha
        have := hW.read
        rw [hz] at this
        simp only [Option.some.injEq, Prod.mk.injEq] at this
        exact absurd (this.1 ▸ hW.fin) hf
theorem pti_lt {w w' : World} {L : List Thing} {i b : Nat} {E : Nat → Prop} {p : PT} (H : Apt w w' L) (hi : L[i]? = some (pti E p b)) : ∀ q, E q → q < w'.heap.size := fun q hq => (H.ok i _ hi).hi q hq
theorem implPumpOf_c {F : Nat → Prop} {w : World} {v : Value} {gm : Gram} {tree : List Int} {X : Option Addr} {n c : Nat} (hv : GramV F w v gm) (hx : Ints w X tree) (hn : n = tree.length) {k : Value → World → Prop}
    (hk : ∀ w' U d, Gr w w' → Own 3 w' w.heap.size U d (pumpOfV gm tree).1 → k (.tuple #[.slice U (pumpOfV gm tree).1.length d, .bool (pumpOfV gm tree).2]) w') :
    CallK Try.prog 43 [v, .slice X n c] k w := by
  subst hn
  obtain ⟨Y, cy, rfl, hc, hy⟩ := hv
  refine enter43 ?_
  unfold S43
  have H := Apt.nil w
  refine boxH H fun b1 w1 H => ?_
  rw [ldB_agg agg37 sz37 rfl (H.box 0 rfl)]
  unfold pumpOfV at hk
  have G1 := H.gr
  refine whole_c (gm := gm) (tree := tree) ⟨Y, cy, rfl, hc, hy.gr H.gr⟩ (hx.gr H.gr) rfl (fun ha w2 v1 v2 g2 => ?_) fun p ws hW w2 b E W cw H2 => ?_
  · simp only [go_sem, Bool.not_false]
    rw [whole_no ha] at hk
    exact hk _ none 0 (gr_trans G1 g2) (Row.nil _ _ _ _)
  rw [hW.eq] at hk
  simp only [go_sem, Bool.not_true]
  have H := H.append H2
  refine pump_c hW (pti_lt H (i := 2) rfl) (H.get 2 rfl) (fun he w3 g3 => ?_) fun i j he w3 bi bj g3 pi pj => ?_
  · have H := H.step g3
    simp only [he] at hk
    simp only [go_sem, Nat.reduceEqDiff]
    rw [bin_eql_ptr Try.underlying86]
    simp only [Option.isNone_none, go_sem, Nat.reduceEqDiff]
    exact hk _ none 0 H.gr (Row.nil _ _ _ _)
  · have H := (H.step g3).drew
    simp only [he] at hk
    simp only [go_sem, Nat.reduceEqDiff]
    rw [bin_eql_ptr Try.underlying86]
    simp only [Option.isNone_some, go_sem, Nat.reduceEqDiff]
    obtain ⟨hi, hij, hjf, hj, _⟩ := cuts_of hW he
    have lai := (hW.laid i hi).1
    have laj := (hW.laid j hj).1
    rw [← ptn_eq hi] at lai
    rw [← ptn_eq hj] at laj
    obtain ⟨Xi, ci, bxi, _⟩ := (PartAt.gr (gr_drew w3) _ _ pi).box
    obtain ⟨Xj, cj, bxj, _⟩ := (PartAt.gr (gr_drew w3) _ _ pj).box
    rw [ldB3 bxi rfl, ldB3 bxj rfl, ldB3 bxi rfl, ldB3 bxj rfl, ldB3 bxj rfl, ldB3 bxi rfl]
    rw [lai, laj, Nat.zero_add, Nat.zero_add]
    refine buildH H u22 inf3 (ints (pumpR p.parts i j)) (by decide) (by decide) (by simp [Instr.fill, madeCells, Value.cells, rng6, ints, pumpR]) rfl fun b5 w5 H => ?_
    exact hk _ _ 6 H.gr (H.row 3 rfl)
theorem implPathIn_c {F : Nat → Prop} {w : World} {v : Value} {gm : Gram} {tree : List Int} {X : Option Addr} {n c : Nat} (hv : GramV F w v gm) (hx : Ints w X tree) (hn : n = tree.length) {k : Value → World → Prop}
    (hk : ∀ w' U d ps, Gr w w' → OwnSS 22 3 w' w.heap.size U d (pathInV gm tree).1 ps → k (.tuple #[.slice U (pathInV gm tree).1.length d, .bool (pathInV gm tree).2]) w') :
    CallK Try.prog 45 [v, .slice X n c] k w := by
  subst hn
  obtain ⟨Y, cy, rfl, hc, hy⟩ := hv
  refine enter45 ?_
  unfold S45
  have H := Apt.nil w
  refine boxH H fun b1 w1 H => ?_
  rw [ldB_agg agg37 sz37 rfl (H.box 0 rfl)]
  unfold pathInV at hk
  have G1 := H.gr
  refine whole_c (gm := gm) (tree := tree) ⟨Y, cy, rfl, hc, hy.gr H.gr⟩ (hx.gr H.gr) rfl (fun ha w2 v1 v2 g2 => ?_) fun p ws hW w2 b E W cw H2 => ?_
  · simp only [go_sem, Bool.not_false]
    rw [whole_no ha] at hk
    exact hk _ none 0 (fun _ => (none, 0)) (gr_trans G1 g2) (OwnSS.nil _ _ _ _ _)
  rw [hW.eq] at hk
  dsimp only at hk
  simp only [go_sem, Bool.not_true]
  have H := H.append H2
  have hlen := hW.len
  have h60 := hW.le
  refine buildH H u48 inf22 [] (by decide) (by decide) (by simp [Instr.fill, madeCells]) rfl fun b2 w3 H => ?_
  have H := H.emptySS 3 (e2 := 3) (fun _ => (none, 0)) rfl
  refine parts_c p.parts.length (Nat.le_refl _) (by omega) (pti_lt H (i := 2) rfl) (H.get 2 rfl) fun w4 U d bs g4 r4 a4 => ?_
  have H := H.addRow g4 r4
  simp only [List.nil_append, List.cons_append, List.set_cons_zero, List.set_cons_succ] at H
  have hbl := a4.1
  simp only [go_sem, Nat.reduceEqDiff]
  have H := H.weaken 2 (b := ptsi E p.parts bs) rfl (fun q h => h) (fun w' hs _ => a4.same hs) (fun w' w'' hh hp => hp.same hh)
  simp only [List.set_cons_zero, List.set_cons_succ] at H
  have G4 := H.gr
  generalize hP : p.parts = P at *
  refine loop_to P.length 0 (fun i f w' => i ≤ P.length ∧ f 25 = .int .i64 i ∧ ∃ (V : Option Addr) (e : Nat) (ps : Nat → Option Addr × Nat), f 9 = .slice V (rowsP (P.take i)).length e ∧ Apt w w' [bx b1 [.int .i64 gm.nons, .int .i64 gm.toks, .slice Y gm.rules.length cy] 37, ows W cw ws, ptsi E P bs, lss V e (rowsP (P.take i)) ps, rwi 86 1 U bs.length d (bs.map ptrv)])
    ⟨Nat.zero_le _, rfl, _, _, _, rfl, H⟩ ?_
  rintro i f w5 N hag ⟨hi, h25, V, e, ps, h9, H⟩ hN
  have hA : AllPt E w5 P bs := H.get 2 rfl
  have f23 : f 23 = .slice U bs.length d := hag 23 (by decide)
  have f24 : f 24 = .int .i64 bs.length := hag 24 (by decide)
  simp only [f23, f24, h25, h9, go_sem, Nat.reduceEqDiff]
  by_cases hlt : i < P.length
  case neg =>
    simp only [show ¬ (i : Int) < bs.length from by omega, decide_false, go_sem, Nat.reduceEqDiff]
    obtain rfl : i = P.length := by omega
    rw [List.take_length] at H
    rw [List.take_length]
    exact hk _ V e ps H.gr (H.lssi 3 rfl)
  simp only [show (i : Int) < bs.length from by omega, decide_true, go_sem, Nat.reduceEqDiff]
  have hpt := hA.2 i hlt
  rw [ixn91 (Row.ptr (H.row 4 rfl)) (by omega), ld86 ((H.row 4 rfl).src.cell i _ (ptrs_at (by omega)))]
  have H := H.drew
  obtain ⟨Xp, cp, hb, _⟩ := (PartAt.gr (gr_drew w5) _ _ hpt).box
  simp only [go_sem, Nat.reduceEqDiff]
  rw [ldB3 hb rfl, ldB3 hb rfl, ldB3 hb rfl, ldB3 hb rfl]
  refine do_build_of u22 inf3 (cells := ints (ptn P i).row) (by decide) (by decide) (by simp [Instr.fill, madeCells, Value.cells, rng4, ints, PT.row]) rfl fun b6 w6 hb6 hb6' g6 hB6 hr6 => ?_
  have H := H.addRow g6 (hr6 _ (Nat.le_refl _))
  refine pushSSH H 3 5 (by decide) (m := 4) (ys := (ptn P i).row) rfl rfl rfl rfl (by rw [rowsP_length, List.length_take]; omega) fun _ V' e' w7 ps' H => ?_
  have H := H.erase 5
  rw [i64_of (by omega) (by omega)]
  have hrow : rowsP (P.take (i + 1)) = rowsP (P.take i) ++ [(ptn P i).row] := by
    rw [List.take_succ_eq_append_getElem hlt, rowsP_append, ptn_eq hlt]
    rfl
  refine hN _ _ hlt ⟨hlt, rfl, V', e', ps', by rw [hrow]; rfl, ?_⟩
  rw [hrow]
  exact H
end Go.Proofs.Ytiohaeckagjebaa
