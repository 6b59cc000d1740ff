/- Contract: grammars set beside each other by the program. -/
import Derived.Test.YtiohaeckagjebaaShH4
set_option linter.unusedVariables false
set_option linter.unusedSimpArgs false
set_option maxRecDepth 100000
namespace Go.Sh
open Go
def rgt (rl : List (List Int)) (j : Nat) : List Int := rl.getD j []
/-- A slice of slices of ints that is read. -/
structure Intss (w : World) (X : Option Addr) (rl : List (List Int)) : Prop where
  le : rl.length ≤ 9223372036854775807
  ptr : 0 < rl.length → X = some (ad X)
  row : ∀ j, j < rl.length → ∃ Y c, w.cell? ((ad X).add j) = some (.slice Y (rgt rl j).length c) ∧ (rgt rl j).length ≤ c ∧ Ints w Y (rgt rl j)
theorem Intss.gr {w w' : World} {X : Option Addr} {rl : List (List Int)} (h : Intss w X rl) (g : Gr w w') : Intss w' X rl := ⟨h.le, h.ptr, fun j hj => by
  obtain ⟨Y, c, h1, h2, h3⟩ := h.row j hj
  exact ⟨Y, c, g.cell h1, h2, h3.gr g⟩⟩
def firsts (rl : List (List Int)) : List RuleL := rl.map fun r => (0, r)
theorem firsts_snoc {rl : List (List Int)} {i : Nat} (h : i < rl.length) : firsts (rl.take (i + 1)) = firsts (rl.take i) ++ [(0, rgt rl i)] := by
  unfold firsts rgt
  rw [List.take_succ_eq_append_getElem h, List.map_append]
  simp [List.getD_eq_getElem?_getD, h]
theorem OwnR.inner {e1 e2 : Nat} {w w' : World} {B B' c n d : Nat} {X U : Option Addr} {rs : List RuleL} {ps : Nat → Option Addr × Nat} {xs : List Value} (h : OwnR e1 e2 w B X c rs ps) (hu : Row w B' e2 1 U n d xs) (he : e1 ≠ e2) (hne : ∀ l, l < rs.length → blk (ps l).1 = none ∨ blk (ps l).1 ≠ blk U) (g : w.grownBy w' (blk U)) : OwnR e1 e2 w' B X c rs ps := by
  obtain ⟨⟨cells, hr, hc⟩, ho, ht⟩ := h
  exact ⟨⟨cells, Row.kept hr g (row_ne hr hu he), hc⟩, fun j hj => Row.kept (ho j hj) g (hne j hj), ht⟩
theorem OwnR.congr {e1 e2 : Nat} {w : World} {B c : Nat} {X : Option Addr} {rs : List RuleL} {ps qs : Nat → Option Addr × Nat} (h : OwnR e1 e2 w B X c rs ps) (he : ∀ j, j < rs.length → qs j = ps j) : OwnR e1 e2 w B X c rs qs := by
  obtain ⟨⟨cells, hr, hc⟩, ho, ht⟩ := h
  refine ⟨⟨cells, hr, fun j hj => by rw [he j hj]; exact hc j hj⟩, fun j hj => by rw [he j hj]; exact ho j hj, fun i j hi hj hij => ?_⟩
  rw [he i hi, he j hj]
  exact ht i j hi hj hij
theorem take_keep {xs ys : List Int} {i : Nat} (h : i < ys.length) (hl : xs.length = ys.length) (e : xs.getD i 0 = ys.getD i 0) : xs.take i ++ ys.drop i = xs.take (i + 1) ++ ys.drop (i + 1) := by
  rw [take_snoc (by omega), List.drop_eq_getElem_cons h, e]
  simp [List.getD_eq_getElem?_getD, h]
theorem getD_map {xs : List Int} {i : Nat} {p : Int → Int} (h : i < xs.length) : (xs.map p).getD i 0 = p (xs.getD i 0) := by
  simp [List.getD_eq_getElem?_getD, h]
theorem getD_app {xs ys : List Int} {m : Nat} (h : m < ys.length) (hl : xs.length = ys.length) : (xs.take m ++ ys.drop m).getD m 0 = ys.getD m 0 := by
  have : (xs.take m).length = m := by simp; omega
  simp [List.getD_eq_getElem?_getD, List.getElem?_append_right (show (xs.take m).length ≤ m by omega), this]
theorem blk_sym {U V : Option Addr} (h : blk U = none ∨ blk U ≠ blk V) : blk V = none ∨ blk V ≠ blk U := by
  cases hq : blk V with
  | none => exact .inl rfl
  | some q =>
    refine .inr fun e => ?_
    rcases h with h | h
    · rw [h] at e; cases e
    · exact h (by rw [hq, e])
theorem Row.putb {w w' : World} {B e sz n c b t : Nat} {X : Option Addr} {cells cs : List Value} (h : Row w B e sz X n c cells) (hb : Box w b cs t) (he : e ≠ t) (g : w.grownBy w' (some b)) : Row w' B e sz X n c cells := Row.kept h g (.inr (box_row hb h he))
end Go.Sh
namespace Go.Proofs.Ytiohaeckagjebaa
open Go Go.Sh Go.RowKit

theorem beside_c {w : World} {cr d : Nat} {R G : Option Addr} {rl : List (List Int)} {gs : List Gram} (hr : Intss w R rl) (hrl : rl.length ≤ 4) (hr4 : ∀ j, j < rl.length → (rgt rl j).length ≤ 4)
    (hx : GramsF (fun _ => True) w G gs) (hg0 : 0 < gs.length) (hgl : gs.length ≤ 4) (hgood : ∀ j, j < gs.length → goodG (gmn gs j) = true) {k : Value → World → Prop}
    (hk : ∀ v w', Gr w w' → GramR w' w.heap.size v (madeV (firsts rl) (nextN gs gs.length) (gmn gs 0).toks gs) → k (.tuple #[v, .bool (madeV (firsts rl) (nextN gs gs.length) (gmn gs 0).toks gs).isSome]) w') :
    CallK Try.prog 87 [.slice R rl.length cr, .slice G gs.length d] k w := by
  refine enter87 ?_
  unfold S87
  refine do_alloc_of inf37 fun b1 w1 g1 hb1 h1 => ?_
  obtain ⟨G0, hG0⟩ : ∃ a, G = some a := ⟨_, hx.ptr hg0⟩
  rw [ix154_0 hx.ptr (by omega), fa37_1, add_add]
  obtain ⟨Y0, c0, t0, t1, t2, t3, t4⟩ := hx.row 0 hg0
  rw [ld3 (a := (ad G).add (0 + 1)) (v := .int .i64 (gmn gs 0).toks) (g1.cell t1)]
  rw [bd37 (cells := #[.int .i64 1, .int .i64 (gmn gs 0).toks, .slice none 0 0]) rfl]
  refine do_alloc_of inf37 fun b6 w2 g2 hb6 h6 => ?_
  have n6 := h1.ne hb6
  have q6 := Nat.le_trans g1.size hb6
  refine do_store sz37 rfl (by intro u hu; simp [Value.cells] at hu; rcases hu with rfl | rfl | rfl <;> rfl) h6 (by simp [Value.cells]) fun w3 g3 s3 h6 => ?_
  have h1 := (h1.gr g2).put g3 n6
  have g := gr_put (gr_trans g1 g2) g3 q6
  simp only [go_sem, Nat.reduceEqDiff]
  refine ⟨fun f w' => ∃ (i : Nat) (X : Option Addr) (e : Nat) (ps : Nat → Option Addr × Nat), i ≤ rl.length ∧ f 22 = .int .i64 i ∧ Gr w w' ∧ Box w' b1 [.int .i64 0, .int .i64 0, .slice none 0 0] 37 ∧ Box w' b6 [.int .i64 1, .int .i64 (gmn gs 0).toks, .slice X i e] 37 ∧ OwnR 77 3 w' w.heap.size X e (firsts (rl.take i)) ps, fun f _ => rl.length - (intOf (f 22)).toNat,
    ⟨0, none, 0, fun _ => (none, 0), Nat.zero_le _, rfl, g, h1, h6, ⟨[], Row.nil _ _ _ _, fun j hj => by simp [firsts] at hj⟩, fun j hj => by simp [firsts] at hj, fun i j hi => by simp [firsts] at hi⟩, ?_⟩
  rintro f w4 hag ⟨i, X, e, ps, hi, h22, g4, hb1', hb6', o4⟩
  have f1 : f 1 = .slice G gs.length d := hag 1 (by decide)
  have f4 : f 4 = .pointer (some ⟨b1, 0, none⟩) := hag 4 (by decide)
  have f6 : f 6 = .pointer (some ⟨b6, 0, none⟩) := hag 6 (by decide)
  have f20 : f 20 = .slice R rl.length cr := hag 20 (by decide)
  have f21 : f 21 = .int .i64 rl.length := hag 21 (by decide)
  simp only [f1, f4, f6, f20, f21, h22, go_sem, Nat.reduceEqDiff]
  by_cases hlt : i < rl.length
  · have hlt' : (i : Int) < rl.length := by omega
    simp only [hlt', decide_true, go_sem, Nat.reduceEqDiff]
    obtain ⟨Z, z, hz1, hz2, hz⟩ := (hr.gr g4).row i hlt
    have hz4 := hr4 i hlt
    rw [ixn48 hr.ptr hlt]
    rw [ld22 (v := .slice Z (rgt rl i).length z) (by simpa using hz1)]
    have gd := gr_drew w4
    refine ⟨fun w' => Gr w4.drew w', Gr.refl _, ?_⟩
    simp only [go_sem, Nat.reduceEqDiff]
    rw [ldS35 (fun w' hw' => ((hb6'.gr gd).gr hw').cell 2)]
    have hlen : (firsts (rl.take i)).length = i := by simp [firsts]; omega
    refine bs22 [] (by decide) (by simp [Instr.fill, madeCells]) rfl fun b9 w9 hb9 hb9' g9 hbox9 hrow9 => ?_
    refine ⟨g9, ?_⟩
    refine apI (xs := []) (B := w4.drew.heap.size) (hrow9 _ (Nat.le_refl _)) (hz.gr (gr_trans gd g9)) rfl rfl (by simp; omega) g9.size fun U u w10 o10 g10 => ?_
    rw [List.nil_append] at o10 ⊢
    have gd10 : Gr w4.drew w10 := gr_put g9 g10 hb9
    refine ⟨gd10, ?_⟩
    rw [bd77 (cells := #[.int .i64 0, .slice U (rgt rl i).length u]) rfl]
    refine bs35 [.int .i64 0, .slice U (rgt rl i).length u] (by decide) (by simp [Instr.fill, madeCells, Value.cells, rng2]) rfl fun b11 w11 hb11 hb11' g11 hbox11 hrow11 => ?_
    have gd11 := gr_trans gd10 g11
    refine ⟨gd11, ?_⟩
    have g411 := gr_trans gd gd11
    have gw11 := gr_trans g4 g411
    have hN : RCells [.int .i64 0, .slice U (rgt rl i).length u] [(0, rgt rl i)] (fun _ => (U, u)) := ⟨rfl, fun j hj => by
      obtain rfl : j = 0 := by simpa using hj
      exact ⟨rfl, rfl⟩⟩
    have hX4 : blk X ≠ some b6 ∧ blk X ≠ some b1 := by
      obtain ⟨cells, hr, _⟩ := (o4.gr g411).cells
      exact ⟨box_row (hb6'.gr g411) hr (by decide), box_row (hb1'.gr g411) hr (by decide)⟩
    refine do_append_rules (ps := ps) (rs := firsts (rl.take i)) (qs := [(0, rgt rl i)]) u35 inf77 rfl (by decide) hlen.symm rfl (o4.gr g411) (Row.src (hrow11 _ (Nat.le_refl _))) hN (fun j hj => ?_) (fun i j hi hj hij => ?_) (fun i' j hi' hj => ?_) (by rw [hlen]; simp; omega) (by rw [hlen]; simp; omega) gw11.size fun X' c' w12 g12 o12 _ => ?_
    · obtain rfl : j = 0 := by simpa using hj
      exact Row.mono (Row.gr o10 g11) (gr_trans g4 gd).size
    · simp at hi hj
      omega
    · exact blk_ne (fun q hq => (Row.ge (o4.own i' hi') hq).2) (fun q hq => (Row.ge o10 hq).1) gd.size
    have hb612 := (hb6'.gr g411).kept g12 hX4.1
    have hb112 := (hb1'.gr g411).kept g12 hX4.2
    refine do_store sz35 rfl (by intro u hu; simp [Value.cells] at hu; subst hu; rfl) hb612 (by simp [Value.cells]) fun w13 g13 s13 hb613 => ?_
    have gw12 : Gr w w12 := gr_mod gw11 g12 fun q hq => by
      obtain ⟨cells, hr, _⟩ := o4.row
      exact (Row.ge hr hq).1
    rw [i64_of (by omega) (by omega)]
    refine ⟨⟨i + 1, X', c', _, hlt, rfl, gr_put gw12 g13 q6, hb112.put g13 n6, by simpa [Value.cells] using hb613, by
      rw [firsts_snoc hlt]
      exact o12.put hb612 (by decide) (by decide) g13⟩, ?_⟩
    simp only [intOf]
    omega
  simp only [show ¬ (i : Int) < rl.length from by omega, decide_false, go_sem, Nat.reduceEqDiff]
  obtain rfl : i = rl.length := by omega
  rw [List.take_length] at o4
  have hfl : (firsts rl).length = rl.length := by simp [firsts]
  refine ⟨fun f w' => ∃ (i : Nat) (X : Option Addr) (e : Nat) (ps : Nat → Option Addr × Nat), i ≤ gs.length ∧ f 38 = .int .i64 i ∧ Gr w w' ∧ Box w' b1 [.int .i64 0, .int .i64 0, .slice none 0 0] 37 ∧ Box w' b6 [.int .i64 (nextN gs i), .int .i64 (gmn gs 0).toks, .slice X (moreN (firsts rl) gs i).length e] 37 ∧ OwnR 77 3 w' w.heap.size X e (moreN (firsts rl) gs i) ps, fun f _ => gs.length - (intOf (f 38)).toNat,
    ⟨0, X, e, ps, Nat.zero_le _, rfl, g4, hb1', by simpa [moreN, nextN, hfl] using hb6', o4⟩, ?_⟩
  rintro f2 w5 hag2 ⟨i, X, e, ps, hi, h38, g5, hb15, hb65, o5⟩
  have e4 : f2 4 = .pointer (some ⟨b1, 0, none⟩) := (hag2 4 (by decide)).trans f4
  have e6 : f2 6 = .pointer (some ⟨b6, 0, none⟩) := (hag2 6 (by decide)).trans f6
  have e36 : f2 36 = .slice G gs.length d := hag2 36 (by decide)
  have e37 : f2 37 = .int .i64 gs.length := hag2 37 (by decide)
  have hml := moreN_length (first := firsts rl) (fun j hj => good_len (hgood j hj)) i hi
  simp only [e4, e6, e36, e37, h38, go_sem, Nat.reduceEqDiff]
  by_cases hlt : i < gs.length
  rotate_left
  · simp only [show ¬ (i : Int) < gs.length from by omega, decide_false, go_sem, Nat.reduceEqDiff]
    obtain rfl : i = gs.length := by omega
    rw [ldB_agg agg37 sz37 rfl hb65]
    have o5v : GramV (fun _ => True) w5 (.agg #[.int .i64 (nextN gs gs.length), .int .i64 (gmn gs 0).toks, .slice X (moreN (firsts rl) gs gs.length).length e]) ⟨nextN gs gs.length, (gmn gs 0).toks, moreN (firsts rl) gs gs.length⟩ := by
      obtain ⟨cells, hr, hc⟩ := o5.cells
      exact ⟨X, e, rfl, (Row.cap hr).1, o5.read.mono fun _ _ => trivial⟩
    refine isGrammar_c o5v fun w6 g6 => ?_
    have hb16 := hb15.gr g6
    have g06 := gr_trans g5 g6
    unfold madeV at hk
    cases hgd : goodG ⟨nextN gs gs.length, (gmn gs 0).toks, moreN (firsts rl) gs gs.length⟩
    · simp only [Bool.not_false, go_sem, Nat.reduceEqDiff]
      rw [bd37 (cells := #[.int .i64 0, .int .i64 0, .slice none 0 0]) rfl]
      refine do_store sz37 rfl (by intro u hu; simp [Value.cells] at hu; rcases hu with rfl | rfl | rfl <;> rfl) hb16 (by simp [Value.cells]) fun w7 g7 s7 hb17 => ?_
      rw [rd_loadVar, ldB_agg agg37 sz37 rfl hb17]
      have := hk zeroGram w7 (gr_put g06 g7 hb1)
      rw [if_neg (by rw [hgd]; decide)] at this
      exact this rfl
    · simp only [Bool.not_true, go_sem, Nat.reduceEqDiff]
      rw [ldB_agg agg37 sz37 rfl (hb65.gr g6)]
      refine do_store sz37 rfl (by intro u hu; simp [Value.cells] at hu; rcases hu with rfl | rfl | rfl <;> rfl) hb16 (by simp [Value.cells]) fun w7 g7 s7 hb17 => ?_
      rw [rd_loadVar, ldB_agg agg37 sz37 rfl hb17]
      have := hk (.agg #[.int .i64 (nextN gs gs.length), .int .i64 (gmn gs 0).toks, .slice X (moreN (firsts rl) gs gs.length).length e]) w7 (gr_put g06 g7 hb1)
      rw [if_pos hgd] at this
      exact this ⟨X, e, ps, rfl, (o5.gr g6).put hb16 (by decide) (by decide) g7⟩
  have hlt' : (i : Int) < gs.length := by omega
  simp only [hlt', decide_true, go_sem, Nat.reduceEqDiff]
  rw [ixn154 hx.ptr hlt]
  refine ld_gram agg37 sz37 (hx.gx (gx_of_gr g5 fun _ => False) fun _ _ h => h) hlt fun v hv => ?_
  obtain ⟨Y, y, rfl, hy1, hy2⟩ := hv
  have hgl := good_len (hgood i hlt)
  have hgr := good_rule (hgood i hlt)
  refine do_alloc_of inf37 fun b10 w6 g6 hb10 h10 => ?_
  have m1 := hb15.ne hb10
  have m6 := hb65.ne hb10
  refine do_store sz37 rfl (by intro u hu; simp [Value.cells] at hu; rcases hu with rfl | rfl | rfl <;> rfl) h10 (by simp [Value.cells]) fun w7 g7 s7 h10 => ?_
  have g57 := gr_put g6 g7 hb10
  rw [ldB_agg agg37 sz37 rfl h10]
  refine copyGrammar_c (gm := gmn gs i) ⟨Y, y, rfl, hy1, hy2.gr g57⟩ (hgood i hlt) fun v w8 g8 oc => ?_
  obtain ⟨Xc, cc, psc, rfl, oc⟩ := oc
  rw [fd37_2]
  simp only [go_sem, Nat.reduceEqDiff]
  have g58 := gr_trans g57 g8
  obtain ⟨cellsc, hrc, hcc⟩ := oc.cells
  have hXc : blk X = none ∨ blk X ≠ blk Xc := by
    obtain ⟨cells, hr, _⟩ := o5.cells
    exact blk_ne (fun q hq => (Row.ge hr hq).2) (fun q hq => (Row.ge hrc hq).1) g57.size
  refine ⟨fun f w' => ∃ (j : Nat) (X' : Option Addr) (e' : Nat) (pm : Nat → Option Addr × Nat), j ≤ (gmn gs i).rules.length ∧ f 46 = .int .i64 j ∧ Gr w w' ∧ w5.heap.size ≤ w'.heap.size ∧ Box w' b1 [.int .i64 0, .int .i64 0, .slice none 0 0] 37 ∧ Box w' b6 [.int .i64 (nextN gs i), .int .i64 (gmn gs 0).toks, .slice X' ((moreN (firsts rl) gs i).length + j) e'] 37 ∧ Box w' b10 [.int .i64 (gmn gs i).nons, .int .i64 (gmn gs i).toks, .slice Y (gmn gs i).rules.length y] 37 ∧ OwnR 77 3 w' w.heap.size X' e' (moreN (firsts rl) gs i ++ shiftRs (nextN gs i) ((gmn gs i).rules.take j)) pm ∧
      (∀ l, l < (moreN (firsts rl) gs i).length → pm l = ps l) ∧ (∀ l, l < j → pm ((moreN (firsts rl) gs i).length + l) = psc l) ∧ Row w' w7.heap.size 77 2 Xc (gmn gs i).rules.length cc cellsc ∧ (∀ l, j ≤ l → l < (gmn gs i).rules.length → Own 3 w' w7.heap.size (psc l).1 (psc l).2 (rul (gmn gs i).rules l).2) ∧ (blk X' = none ∨ blk X' ≠ blk Xc), fun f _ => (gmn gs i).rules.length - (intOf (f 46)).toNat,
    ⟨0, X, e, ps, Nat.zero_le _, rfl, gr_trans g5 g58, g58.size, hb15.gr g58, hb65.gr g58, h10.gr g8, by simpa [shiftRs] using o5.gr g58, fun _ _ => rfl, fun l hl => absurd hl (Nat.not_lt_zero l), hrc, fun l _ hl => oc.own l hl, hXc⟩, ?_⟩
  rintro f3 w9 hag3 ⟨j, X3, e3, pm, hj, h46, g9, hs9, hb19, hb69, hb109, o9, hpm1, hpm2, hrc9, hown9, hsep9⟩
  have d4 : f3 4 = .pointer (some ⟨b1, 0, none⟩) := (hag3 4 (by decide)).trans e4
  have d6 : f3 6 = .pointer (some ⟨b6, 0, none⟩) := (hag3 6 (by decide)).trans e6
  have d10 : f3 10 = .pointer (some ⟨b10, 0, none⟩) := hag3 10 (by decide)
  have d38 : f3 38 = .int .i64 i := (hag3 38 (by decide)).trans h38
  have d44 : f3 44 = .slice Xc (gmn gs i).rules.length cc := hag3 44 (by decide)
  have d45 : f3 45 = .int .i64 (gmn gs i).rules.length := hag3 45 (by decide)
  have hlenj : (shiftRs (nextN gs i) ((gmn gs i).rules.take j)).length = j := by simp [shiftRs]; omega
  simp only [d4, d6, d10, d38, d44, d45, h46, go_sem, Nat.reduceEqDiff]
  by_cases hlt3 : j < (gmn gs i).rules.length
  rotate_left
  · simp only [show ¬ (j : Int) < (gmn gs i).rules.length from by omega, decide_false, go_sem, Nat.reduceEqDiff]
    obtain rfl : j = (gmn gs i).rules.length := by omega
    rw [List.take_length] at o9
    rw [ldB3 hb69 rfl, ldB3 hb109 rfl]
    simp only [go_sem, Nat.reduceEqDiff]
    refine do_store sz3 rfl (by intro u hu; simp [Value.cells] at hu; subst hu; rfl) hb69 (by simp [Value.cells]) fun w10 g10 s10 h10 => ?_
    rw [i64_of (n := (i : Int) + 1) (by omega) (by omega)]
    refine ⟨⟨i + 1, X3, e3, pm, hlt, rfl, gr_put g9 g10 q6, hb19.put g10 n6, ?_, o9.put hb69 (by decide) (by decide) g10⟩, ?_⟩
    · have hll : (moreN (firsts rl) gs (i + 1)).length = (moreN (firsts rl) gs i).length + (gmn gs i).rules.length := by simp [moreN, shiftRs]
      rw [hll]
      simpa [nextN, Value.cells] using h10
    · simp only [intOf]
      omega
  have hlt3' : (j : Int) < (gmn gs i).rules.length := by omega
  simp only [hlt3', decide_true, go_sem, Nat.reduceEqDiff]
  rw [ixn35 (fun h => Row.ptr hrc9 h) hlt3]
  obtain ⟨hc0, hc1⟩ := hcc.2 j hlt3
  rw [ld_agg agg77 sz77 (cs := [.int .i64 (rul (gmn gs i).rules j).1, .slice (psc j).1 (rul (gmn gs i).rules j).2.length (psc j).2]) rfl (fun l hl => by
    match l, hl with
    | 0, _ => rw [add_add, Nat.add_zero]; exact (Row.src hrc9).cell _ _ hc0
    | 1, _ => rw [add_add]; exact (Row.src hrc9).cell _ _ hc1)]
  refine do_alloc_of inf77 fun b12 w10 g10 hb12 h12 => ?_
  have m612 := hb69.ne hb12
  refine do_store sz77 rfl (by intro u hu; simp [Value.cells] at hu; rcases hu with rfl | rfl <;> rfl) h12 (by simp [Value.cells]) fun w11 g11 s11 h12 => ?_
  have g911 := gr_put g10 g11 hb12
  simp only [go_sem, Nat.reduceEqDiff]
  rw [ldB3 h12 rfl, ldB3 (hb69.gr g911) rfl]
  simp only [go_sem, Nat.reduceEqDiff]
  refine do_store sz3 rfl (by intro u hu; simp [Value.cells] at hu; subst hu; rfl) h12 (by simp [Value.cells]) fun w12 g12 s12 h12 => ?_
  have g912 := gr_put g911 g12 hb12
  rw [ldB22 h12 rfl]
  simp only [go_sem, Nat.reduceEqDiff]
  have hU := (hown9 j (Nat.le_refl _) hlt3).gr g912
  have hO4 := hgr j hlt3
  refine ⟨fun f w' => ∃ m : Nat, m ≤ (rul (gmn gs i).rules j).2.length ∧ f 59 = .int .i64 m ∧ w12.grownBy w' (blk (psc j).1) ∧ Row w' w7.heap.size 3 1 (psc j).1 (rul (gmn gs i).rules j).2.length (psc j).2 (ints (((rul (gmn gs i).rules j).2.map (shiftS (nextN gs i))).take m ++ (rul (gmn gs i).rules j).2.drop m)), fun f _ => (rul (gmn gs i).rules j).2.length - (intOf (f 59)).toNat,
    ⟨0, Nat.zero_le _, rfl, gr_any (Gr.refl _) _, by simpa using hU⟩, ?_⟩
  rintro f5 w13 hag4 ⟨m, hm, h59, g13, hV⟩
  have c4 : f5 4 = .pointer (some ⟨b1, 0, none⟩) := (hag4 4 (by decide)).trans d4
  have c6 : f5 6 = .pointer (some ⟨b6, 0, none⟩) := (hag4 6 (by decide)).trans d6
  have c10 : f5 10 = .pointer (some ⟨b10, 0, none⟩) := (hag4 10 (by decide)).trans d10
  have c12 : f5 12 = .pointer (some ⟨b12, 0, none⟩) := hag4 12 (by decide)
  have c38 : f5 38 = .int .i64 i := (hag4 38 (by decide)).trans d38
  have c46 : f5 46 = .int .i64 j := (hag4 46 (by decide)).trans h46
  have c57 : f5 57 = .slice (psc j).1 (rul (gmn gs i).rules j).2.length (psc j).2 := hag4 57 (by decide)
  have c58 : f5 58 = .int .i64 (rul (gmn gs i).rules j).2.length := hag4 58 (by decide)
  have hb613 := (hb69.gr g912).kept g13 (box_row (hb69.gr g912) hU (by decide))
  have hb113 := (hb19.gr g912).kept g13 (box_row (hb19.gr g912) hU (by decide))
  have hb1013 := (hb109.gr g912).kept g13 (box_row (hb109.gr g912) hU (by decide))
  have h1213 := h12.kept g13 (box_row h12 hU (by decide))
  simp only [c4, c6, c10, c12, c38, c46, c57, c58, h59, go_sem, Nat.reduceEqDiff]
  by_cases hlt4 : m < (rul (gmn gs i).rules j).2.length
  · have hlt4' : (m : Int) < (rul (gmn gs i).rules j).2.length := by omega
    simp only [hlt4', decide_true, go_sem, Nat.reduceEqDiff]
    have hcm := (Row.src hV).cell m _ (ints_at (by simp; omega))
    rw [getD_app hlt4 (by simp)] at hcm
    rw [ixn22 (fun h => Row.ptr hV h) hlt4, ld3 hcm]
    by_cases hs : 0 ≤ (rul (gmn gs i).rules j).2.getD m 0
    · simp only [hs, decide_true, go_sem, Nat.reduceEqDiff]
      rw [ldB22 h1213 rfl, ldB3 hb613 rfl]
      simp only [go_sem, Nat.reduceEqDiff]
      rw [ixn22 (fun h => Row.ptr hV h) hlt4]
      refine do_store_row sz3 rfl rfl hV (by rw [Nat.mul_one]; exact hlt4) fun w14 g14 s14 hV14 => ?_
      rw [ints_set, show IntKind.i64.wrap ((rul (gmn gs i).rules j).2.getD m 0 + nextN gs i) = ((rul (gmn gs i).rules j).2.map (shiftS (nextN gs i))).getD m 0 from by rw [getD_map hlt4]; exact (if_pos hs).symm, set_take_drop hlt4 (by simp)] at hV14
      rw [i64_of (by omega) (by omega)]
      refine ⟨⟨m + 1, hlt4, rfl, grownBy_trans g13 g14, hV14⟩, ?_⟩
      simp only [intOf]
      omega
    · simp only [hs, decide_false, go_sem, Nat.reduceEqDiff]
      rw [i64_of (by omega) (by omega)]
      refine ⟨⟨m + 1, hlt4, rfl, g13, ?_⟩, ?_⟩
      · rw [← take_keep hlt4 (by simp) (by rw [getD_map hlt4]; exact if_neg hs)]
        exact hV
      · simp only [intOf]
        omega
  simp only [show ¬ (m : Int) < (rul (gmn gs i).rules j).2.length from by omega, decide_false, go_sem, Nat.reduceEqDiff]
  obtain rfl : m = (rul (gmn gs i).rules j).2.length := by omega
  rw [List.take_of_length_le (by simp), List.drop_length, List.append_nil] at hV
  have hne : ∀ l, l < (moreN (firsts rl) gs i ++ shiftRs (nextN gs i) ((gmn gs i).rules.take j)).length → blk (pm l).1 = none ∨ blk (pm l).1 ≠ blk (psc j).1 := fun l hl => by
    rw [List.length_append, hlenj] at hl
    by_cases h : l < (moreN (firsts rl) gs i).length
    · rw [hpm1 l h]
      exact blk_ne (fun q hq => (Row.ge (o5.own l h) hq).2) (fun q hq => (Row.ge (hown9 j (Nat.le_refl _) hlt3) hq).1) g57.size
    · have := hpm2 (l - (moreN (firsts rl) gs i).length) (by omega)
      rw [show (moreN (firsts rl) gs i).length + (l - (moreN (firsts rl) gs i).length) = l from by omega] at this
      rw [this]
      exact oc.two _ j (by omega) hlt3 (by omega)
  have o13 := (o9.gr g912).inner hU (by decide) hne g13
  have hrc13 := Row.kept (Row.gr hrc9 g912) g13 (row_ne (Row.gr hrc9 g912) hU (by decide))
  have hown13 : ∀ l, j + 1 ≤ l → l < (gmn gs i).rules.length → Own 3 w13 w7.heap.size (psc l).1 (psc l).2 (rul (gmn gs i).rules l).2 := fun l h1 h2 => Row.kept (Row.gr (hown9 l (by omega) h2) g912) g13 (oc.two l j h2 hlt3 (by omega))
  have gw13 : Gr w w13 := gr_mod (gr_trans g9 g912) g13 fun q hq => by
    have := (Row.ge hU hq).1
    have := g5.size
    have := g57.size
    omega
  have hs13 : w5.heap.size ≤ w13.heap.size := Nat.le_trans hs9 (Nat.le_trans g912.size g13.size)
  rw [ldB35 hb613 rfl]
  rw [ldB_agg agg77 sz77 rfl h1213]
  refine bs35 [.int .i64 (IntKind.i64.wrap ((rul (gmn gs i).rules j).1 + nextN gs i)), .slice (psc j).1 (rul (gmn gs i).rules j).2.length (psc j).2] (by decide) (by simp [Instr.fill, madeCells, Value.cells, rng2]) rfl fun b14 w14 hb14 hb14' g14 hbox14 hrow14 => ?_
  have hN : RCells [.int .i64 (IntKind.i64.wrap ((rul (gmn gs i).rules j).1 + nextN gs i)), .slice (psc j).1 (rul (gmn gs i).rules j).2.length (psc j).2] [shiftR (nextN gs i) (rul (gmn gs i).rules j)] (fun _ => psc j) := ⟨rfl, fun l hl => by
    obtain rfl : l = 0 := by simpa using hl
    simp [rul, shiftR]⟩
  have hXb : blk X3 ≠ some b6 ∧ blk X3 ≠ some b1 ∧ blk X3 ≠ some b10 := by
    obtain ⟨cells, hr, _⟩ := (o13.gr g14).cells
    exact ⟨box_row (hb613.gr g14) hr (by decide), box_row (hb113.gr g14) hr (by decide), box_row (hb1013.gr g14) hr (by decide)⟩
  have hlx : (moreN (firsts rl) gs i ++ shiftRs (nextN gs i) ((gmn gs i).rules.take j)).length = (moreN (firsts rl) gs i).length + j := by rw [List.length_append, hlenj]
  have hw0 : w.heap.size ≤ w7.heap.size := by have := g5.size; have := g57.size; omega
  refine do_append_rules (ps := pm) (rs := moreN (firsts rl) gs i ++ shiftRs (nextN gs i) ((gmn gs i).rules.take j)) (qs := [shiftR (nextN gs i) (rul (gmn gs i).rules j)]) u35 inf77 rfl (by decide) hlx.symm rfl (o13.gr g14) (Row.src (hrow14 _ (Nat.le_refl _))) hN (fun l hl => ?_) (fun i j hi hj hij => ?_) (fun i' l hi' hl => hne i' hi') (by rw [hlx]; simp; omega) (by rw [hlx]; simp; omega) (Nat.le_trans gw13.size g14.size) fun X' c' w15 g15 o15 hmv => ?_
  · obtain rfl : l = 0 := by simpa using hl
    have h := Row.mono (Row.gr hV g14) hw0
    show Row w14 w.heap.size 3 1 (psc j).1 ((rul (gmn gs i).rules j).2.map (shiftS (nextN gs i))).length (psc j).2 (ints ((rul (gmn gs i).rules j).2.map (shiftS (nextN gs i))))
    rw [List.length_map]
    exact h
  · simp at hi hj
    omega
  have gw14 := gr_trans gw13 g14
  have hb615 := (hb613.gr g14).kept g15 hXb.1
  have hb115 := (hb113.gr g14).kept g15 hXb.2.1
  have hb1015 := (hb1013.gr g14).kept g15 hXb.2.2
  have hrc15 := Row.kept (Row.gr hrc13 g14) g15 (blk_sym hsep9)
  have hown15 : ∀ l, j + 1 ≤ l → l < (gmn gs i).rules.length → Own 3 w15 w7.heap.size (psc l).1 (psc l).2 (rul (gmn gs i).rules l).2 := fun l h1 h2 => Row.kept (Row.gr (hown13 l h1 h2) g14) g15 (by
    obtain ⟨cells, hr, _⟩ := (o13.gr g14).cells
    exact row_ne (Row.gr (hown13 l h1 h2) g14) hr (by decide))
  have gw15 : Gr w w15 := gr_mod gw14 g15 fun q hq => by
    obtain ⟨cells, hr, _⟩ := o13.cells
    exact (Row.ge hr hq).1
  refine do_store sz35 rfl (by intro u hu; simp [Value.cells] at hu; subst hu; rfl) hb615 (by simp [Value.cells]) fun w16 g16 s16 hb616 => ?_
  rw [i64_of (n := (j : Int) + 1) (by omega) (by omega)]
  have hsep16 : blk X' = none ∨ blk X' ≠ blk Xc := by
    rcases hmv with e | e
    · rw [e]
      exact hsep9
    · cases hq : blk X' with
      | none => exact .inl rfl
      | some q =>
        refine .inr fun e2 => ?_
        have := e q hq
        have := (Row.ge (Row.gr hrc13 g14) e2.symm).2
        omega
  have m106 : b6 ≠ b10 := fun e => m6 e.symm
  refine ⟨⟨j + 1, X', c', joinP ((moreN (firsts rl) gs i).length + j) pm (fun _ => psc j), hlt3, rfl, gr_put gw15 g16 q6, ?_, hb115.put g16 n6, by simpa [Value.cells, Nat.add_assoc] using hb616, hb1015.put g16 m106, ?_, fun l hl => ?_, fun l hl => ?_, hrc15.putb hb615 (by decide) g16, fun l h1 h2 => (hown15 l h1 h2).putb hb615 (by decide) g16, hsep16⟩, ?_⟩
  · exact Nat.le_trans hs13 (Nat.le_trans g14.size (Nat.le_trans g15.size g16.size))
  · rw [take_rul hlt3, shiftRs, List.map_append, ← List.append_assoc]
    rw [hlx] at o15
    exact o15.put hb615 (by decide) (by decide) g16
  · simp only [joinP, show l < (moreN (firsts rl) gs i).length + j from by omega, if_true]
    exact hpm1 l hl
  · by_cases h : l < j
    · simp only [joinP, show (moreN (firsts rl) gs i).length + l < (moreN (firsts rl) gs i).length + j from by omega, if_true]
      exact hpm2 l h
    · obtain rfl : l = j := by omega
      simp only [joinP, Nat.lt_irrefl, if_false]
  · simp only [intOf]
    omega
end Go.Proofs.Ytiohaeckagjebaa
