/- Contract: a grammar made of grammars (the reference's l20Made). -/
import Derived.Test.YtiohaeckagjebaaShH1
set_option linter.unusedVariables false
set_option linter.unusedSimpArgs false
set_option maxRecDepth 100000
namespace Go.Sh
open Go
def gmn (gs : List Gram) (j : Nat) : Gram := gs.getD j ⟨0, 0, []⟩
/-- A slice of grammars that is read; it lies in F. -/
structure GramsF (F : Nat → Prop) (w : World) (X : Option Addr) (gs : List Gram) : Prop where
  le : gs.length ≤ 9223372036854775807
  ptr : 0 < gs.length → X = some (ad X)
  foot : 0 < gs.length → F (ad X).block
  row : ∀ j, j < gs.length → ∃ Y c, w.cell? ((ad X).add (j * 3)) = some (.int .i64 (gmn gs j).nons) ∧ w.cell? ((ad X).add (j * 3 + 1)) = some (.int .i64 (gmn gs j).toks) ∧ w.cell? ((ad X).add (j * 3 + 2)) = some (.slice Y (gmn gs j).rules.length c) ∧ (gmn gs j).rules.length ≤ c ∧ RulesF F w Y (gmn gs j).rules
theorem GramsF.gx {F D : Nat → Prop} {w w' : World} {X : Option Addr} {gs : List Gram} (h : GramsF F w X gs) (g : Gx D w w') (hn : ∀ b, F b → ¬ D b) : GramsF F w' X gs := by
  refine ⟨h.le, h.ptr, h.foot, fun j hj => ?_⟩
  obtain ⟨Y, c, h1, h2, h3, h4, h5⟩ := h.row j hj
  have hf := hn _ (h.foot (by omega))
  exact ⟨Y, c, g.cell h1 (by rw [add_block]; exact hf), g.cell h2 (by rw [add_block]; exact hf), g.cell h3 (by rw [add_block]; exact hf), h4, h5.gx g hn⟩
theorem ld_gram {P : Program} {t : TypeId} (ht : agg P t) (hs : szOf P t 3) {F : Nat → Prop} {w : World} {X : Option Addr} {gs : List Gram} (hx : GramsF F w X gs) {j : Nat} (hj : j < gs.length) {k : Value → Prop}
    (hk : ∀ v, GramV F w v (gmn gs j) → k v) : Rd P (WS.at w) (sLoad t (.pointer (some ((ad X).add (j * 3))))) k := by
  obtain ⟨Y, c, h1, h2, h3, h4, h5⟩ := hx.row j hj
  rw [ld_agg ht hs (cs := [.int .i64 (gmn gs j).nons, .int .i64 (gmn gs j).toks, .slice Y (gmn gs j).rules.length c]) rfl]
  · exact hk _ ⟨Y, c, rfl, h4, h5⟩
  · intro i hi
    match i, hi with
    | 0, _ => rw [add_add, Nat.add_zero]; exact h1
    | 1, _ => rw [add_add]; exact h2
    | 2, _ => rw [add_add]; exact h3
def nextN (gs : List Gram) : Nat → Int
  | 0 => 1
  | i + 1 => IntKind.i64.wrap (nextN gs i + (gmn gs i).nons)
def moreN (first : List RuleL) (gs : List Gram) : Nat → List RuleL
  | 0 => first
  | i + 1 => moreN first gs i ++ shiftRs (nextN gs i) (gmn gs i).rules
theorem moreN_length {first : List RuleL} {gs : List Gram} (hg : ∀ j, j < gs.length → (gmn gs j).rules.length ≤ 16) : ∀ i, i ≤ gs.length → (moreN first gs i).length ≤ first.length + 16 * i
  | 0, _ => by simp [moreN]
  | i + 1, hi => by
    have := moreN_length (first := first) hg i (by omega)
    have := hg i (by omega)
    simp [moreN, shiftRs]
    omega
theorem good_len {g : Gram} (hg : goodG g = true) : g.rules.length ≤ 16 := by
  simp only [goodG, Bool.and_eq_true, decide_eq_true_eq] at hg
  exact hg.1.2
/-- Where a block that is old comes from. -/
def From (w : World) (X0 X : Option Addr) : Prop := ∀ q, blk X = some q → q < w.heap.size → blk X0 = some q
theorem From.moved {w w2 : World} {X0 X X' : Option Addr} (h : From w X0 X) (hm : Moved w2 X X') (hs : w.heap.size ≤ w2.heap.size) : From w X0 X' := by
  intro q hq hlt
  rcases hm with e | e
  · exact h q (e ▸ hq) hlt
  · have := e q hq
    omega
abbrev zeroGram : Value := .agg #[.int .i64 0, .int .i64 0, .slice none 0 0]
end Go.Sh
namespace Go.Proofs.Ytiohaeckagjebaa
open Go Go.Sh Go.RowKit

theorem l20Made_c {F : Nat → Prop} {w : World} {B c n d : Nat} {X0 G : Option Addr} {nons toks : Int} {first : List RuleL} {gs : List Gram} {ps : Nat → Option Addr × Nat}
    (hf : OwnR 77 3 w B X0 c first ps) (hn : n = first.length) (hfl : first.length ≤ 16) (hx : GramsF F w G gs) (hgl : gs.length ≤ 4) (hgood : ∀ j, j < gs.length → goodG (gmn gs j) = true) (hsep : ∀ q, F q → blk X0 ≠ some q) (hB : B ≤ w.heap.size) {k : Value → World → Prop}
    (hk : ∀ v w', Gx (fun q => blk X0 = some q) w w' → (if goodG ⟨nons, toks, moreN first gs gs.length⟩ = true then GramO w' B v ⟨nons, toks, moreN first gs gs.length⟩ else v = zeroGram) → k (.tuple #[v, .bool (goodG ⟨nons, toks, moreN first gs gs.length⟩)]) w') :
    CallK Try.prog 86 [.int .i64 nons, .int .i64 toks, .slice X0 n c, .slice G gs.length d] k w := by
  subst hn
  refine enter86 ?_
  unfold S86
  refine do_alloc_of inf37 fun b1 w1 g1 hb1 h1 => ?_
  rw [bd37 (cells := #[.int .i64 nons, .int .i64 toks, .slice X0 first.length c]) rfl]
  refine do_alloc_of inf37 fun b4 w2 g2 hb4 h4 => ?_
  have n4 := h1.ne hb4
  refine do_store sz37 rfl (by intro u hu; simp [Value.cells] at hu; rcases hu with rfl | rfl | rfl <;> rfl) h4 (by simp [Value.cells]) fun w3 g3 s3 h4 => ?_
  have h1 := (h1.gr g2).put g3 n4
  have q4 := Nat.le_trans g1.size hb4
  have g := gr_put (gr_trans g1 g2) g3 q4
  simp only [go_sem, Nat.reduceEqDiff]
  refine ⟨fun f w' => ∃ (i : Nat) (X : Option Addr) (e : Nat) (ps : Nat → Option Addr × Nat), i ≤ gs.length ∧ f 20 = .int .i64 i ∧ f 11 = .int .i64 (nextN gs i) ∧ Gx (fun q => blk X0 = some q) w w' ∧ Box w' b1 [.int .i64 0, .int .i64 0, .slice none 0 0] 37 ∧ Box w' b4 [.int .i64 nons, .int .i64 toks, .slice X (moreN first gs i).length e] 37 ∧ From w X0 X ∧ OwnR 77 3 w' B X e (moreN first gs i) ps, fun f _ => gs.length - (intOf (f 20)).toNat,
    ⟨0, X0, c, ps, Nat.zero_le _, rfl, rfl, gx_of_gr g _, h1, h4, fun q hq _ => hq, hf.gr g⟩, ?_⟩
  rintro f w4 hag ⟨i, X, e, ps, hi, h20, h11, g4, hb1', hb4', hfrom, o4⟩
  have f8 : f 8 = .pointer (some ⟨b1, 0, none⟩) := hag 8 (by decide)
  have f10 : f 10 = .pointer (some ⟨b4, 0, none⟩) := hag 10 (by decide)
  have f18 : f 18 = .slice G gs.length d := hag 18 (by decide)
  have f19 : f 19 = .int .i64 gs.length := hag 19 (by decide)
  simp only [f8, f10, f18, f19, h20, h11, go_sem, Nat.reduceEqDiff]
  have hml := moreN_length (first := first) (fun j hj => good_len (hgood j hj)) i hi
  by_cases hlt : i < gs.length
  · have hlt' : (i : Int) < gs.length := by omega
    simp only [hlt', decide_true, go_sem, Nat.reduceEqDiff]
    have hx4 := hx.gx g4 fun q hq h => hsep q hq h
    rw [ixn154 hx.ptr hlt]
    refine ld_gram agg37 sz37 hx4 hlt fun v hv => ?_
    have hvc := hv
    obtain ⟨Y, y, rfl, hy1, hy2⟩ := hvc
    refine do_alloc_of inf37 fun b5 w5 g5 hb5 h5 => ?_
    have m1 := hb1'.ne hb5
    have m4 := hb4'.ne hb5
    refine do_store sz37 rfl (by intro u hu; simp [Value.cells] at hu; rcases hu with rfl | rfl | rfl <;> rfl) h5 (by simp [Value.cells]) fun w6 g6 s6 h5 => ?_
    have g46 := gr_put g5 g6 hb5
    have hb1' := hb1'.gr g46
    have hb4' := hb4'.gr g46
    refine ⟨fun w' => Gr w6.drew w', Gr.refl _, ?_⟩
    have gd := gr_drew w6
    simp only [go_sem, Nat.reduceEqDiff]
    rw [ldS35 (fun w' hw' => ((hb4'.gr gd).gr hw').cell 2)]
    rw [rd_loadAgg agg37 sz37 (cs := [.int .i64 (gmn gs i).nons, .int .i64 (gmn gs i).toks, .slice Y (gmn gs i).rules.length y]) rfl (fun w' hw' j hj => by
      rw [add_plain, Nat.zero_add, ((h5.gr gd).gr hw').cell]
      exact List.getElem?_eq_getElem hj)]
    have g4d := gr_trans g46 gd
    refine l20Shift_c (hv.gr g4d) (hgood i hlt) fun X2 c2 ps2 w7 g7 o7 => ?_
    refine ⟨g7, ?_⟩
    obtain ⟨news, hr7, hN⟩ := o7.cells
    have g47 := gr_trans g4d g7
    have o47 := o4.gr g47
    have hl16 := good_len (hgood i hlt)
    have hl7 : (shiftRs (nextN gs i) (gmn gs i).rules).length = (gmn gs i).rules.length := by simp [shiftRs]
    refine do_append_rules u35 inf77 rfl (by decide) rfl hl7.symm o47 (Row.src hr7) hN (fun j hj => Row.mono (o7.own j hj) (Nat.le_trans hB (Nat.le_trans g4.size g4d.size))) o7.two (fun i' j hi' hj => blk_ne (fun q hq => (Row.ge (o4.own i' hi') hq).2) (fun q hq => (Row.ge (o7.own j hj) hq).1) g4d.size) (by omega) (by omega) (Nat.le_trans hB (Nat.le_trans g4.size g47.size)) fun X' c' w8 g8 o8 hmv => ?_
    have hX4 : blk X ≠ some b4 ∧ blk X ≠ some b1 ∧ blk X ≠ some b5 := by
      obtain ⟨cells, hr, _⟩ := o47.cells
      exact ⟨box_row (hb4'.gr (gr_trans gd g7)) hr (by decide), box_row (hb1'.gr (gr_trans gd g7)) hr (by decide), box_row (h5.gr (gr_trans gd g7)) hr (by decide)⟩
    have hb48 := (hb4'.gr (gr_trans gd g7)).kept g8 hX4.1
    have hb18 := (hb1'.gr (gr_trans gd g7)).kept g8 hX4.2.1
    have h58 := (h5.gr (gr_trans gd g7)).kept g8 hX4.2.2
    refine do_store sz35 rfl (by intro u hu; simp [Value.cells] at hu; subst hu; rfl) hb48 (by simp [Value.cells]) fun w9 g9 s9 hb49 => ?_
    have hb19 := hb18.put g9 n4
    have h59 := h58.put g9 (fun e => m4 e.symm)
    rw [ldB3 h59 rfl]
    simp only [go_sem, Nat.reduceEqDiff]
    have hG8 : Gx (fun q => blk X0 = some q) w w8 := (g4.after (gx_of_gr g47 fun _ => False) (fun _ h _ => h.elim)).after (gx_of g8 (D := fun q => blk X = some q) fun q hq => hq) fun q hq hlt => hfrom q hq hlt
    have hG9 : Gx (fun q => blk X0 = some q) w w9 := hG8.after (gx_of g9 (D := fun q => q = b4) fun q hq => by simpa using hq.symm) fun q hq hlt => by omega
    rw [i64_of (n := (i : Int) + 1) (by omega) (by omega)]
    refine ⟨⟨i + 1, X', c', joinP (moreN first gs i).length ps ps2, hlt, rfl, rfl, hG9, hb19, ?_, hfrom.moved hmv (Nat.le_trans g4.size g47.size), o8.put hb48 (by decide) (by decide) g9⟩, ?_⟩
    · simpa [moreN, hl7, Value.cells] using hb49
    · simp only [intOf]
      omega
  simp only [show ¬ (i : Int) < gs.length from by omega, decide_false, go_sem, Nat.reduceEqDiff]
  obtain rfl : i = gs.length := by omega
  rw [ldB_agg agg37 sz37 rfl hb4']
  have o4v : GramV (fun _ => True) w4 (.agg #[.int .i64 nons, .int .i64 toks, .slice X (moreN first gs gs.length).length e]) ⟨nons, toks, moreN first gs gs.length⟩ := by
    obtain ⟨cells, hr, hc⟩ := o4.cells
    exact ⟨X, e, rfl, (Row.cap hr).1, o4.read.mono fun _ _ => trivial⟩
  refine goodGrammar_c o4v fun w5 g5 => ?_
  have hb15 := hb1'.gr g5
  have hG5 : Gx (fun q => blk X0 = some q) w w5 := g4.after (gx_of_gr g5 fun _ => False) fun _ h _ => h.elim
  have hlt1 : w.heap.size ≤ b1 := hb1
  cases hgd : goodG ⟨nons, toks, moreN first gs gs.length⟩
  · simp only [Bool.not_false, go_sem, Nat.reduceEqDiff]
    rw [bd37 (cells := #[.int .i64 0, .int .i64 0, .slice none 0 0]) rfl]
    refine do_store sz37 rfl (by intro u hu; simp [Value.cells] at hu; rcases hu with rfl | rfl | rfl <;> rfl) hb15 (by simp [Value.cells]) fun w6 g6 s6 hb16 => ?_
    rw [rd_loadVar, ldB_agg agg37 sz37 rfl hb16]
    have := hk zeroGram w6 (hG5.after (gx_of g6 (D := fun q => q = b1) fun q hq => by simpa using hq.symm) fun q hq hlt => by omega)
    rw [hgd] at this
    exact this (by simp)
  · simp only [Bool.not_true, go_sem, Nat.reduceEqDiff]
    rw [ldB_agg agg37 sz37 rfl (hb4'.gr g5)]
    refine do_store sz37 rfl (by intro u hu; simp [Value.cells] at hu; rcases hu with rfl | rfl | rfl <;> rfl) hb15 (by simp [Value.cells]) fun w6 g6 s6 hb16 => ?_
    rw [rd_loadVar, ldB_agg agg37 sz37 rfl hb16]
    have := hk (.agg #[.int .i64 nons, .int .i64 toks, .slice X (moreN first gs gs.length).length e]) w6 (hG5.after (gx_of g6 (D := fun q => q = b1) fun q hq => by simpa using hq.symm) fun q hq hlt => by omega)
    rw [hgd] at this
    exact this (by simp only [if_true]; exact ⟨X, e, ps, rfl, (o4.gr g5).put hb15 (by decide) (by decide) g6⟩)
end Go.Proofs.Ytiohaeckagjebaa
