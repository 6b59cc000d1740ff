/- Rules that the call owns: stores of whole rules, and what keeps them. -/
import Derived.Test.YtiohaeckagjebaaShG0
set_option linter.unusedVariables false
set_option linter.unusedSimpArgs false
set_option maxRecDepth 100000
namespace Go.Sh
open Go
/-- Rows of different types are different blocks. -/
theorem row_ne {w : World} {B B' e e' sz sz' n n' c c' : Nat} {X Y : Option Addr} {cs cs' : List Value} (h : Row w B e sz X n c cs) (h' : Row w B' e' sz' Y n' c' cs') (he : e ≠ e') : blk X = none ∨ blk X ≠ blk Y := by
  rcases h.2 with h2 | ⟨q, cap, cur, e1, e2, e3, e4⟩
  · obtain ⟨rfl, _, _⟩ : X = none ∧ n = 0 ∧ c = 0 := by simpa using h2.1
    exact .inl rfl
  · obtain ⟨rfl, _, _⟩ : X = some ⟨q, 0, none⟩ ∧ n = n ∧ c = cap := by simpa using e1
    refine .inr fun hq => ?_
    rcases h'.2 with h2 | ⟨q', cap', cur', e1', e2', e3', e4'⟩
    · obtain ⟨rfl, _, _⟩ : Y = none ∧ n' = 0 ∧ c' = 0 := by simpa using h2.1
      cases hq
    · obtain ⟨rfl, _, _⟩ : Y = some ⟨q', 0, none⟩ ∧ n' = n' ∧ c' = cap' := by simpa using e1'
      have : q = q' := by simpa [blk] using hq
      subst this
      rw [e3] at e3'
      simp at e3'
      exact he e3'.2
section
variable {P : Program} {k : Value → World → Prop} {w : World}
theorem run_storeRow {g j B e sz n c : Nat} : ∀ (vs : List Value) (i : Nat) (cells : List Value) (w : World), Row w B e sz (some ⟨g, 0, none⟩) n c cells → j + i + vs.length ≤ n * sz → (∀ v ∈ vs, v.oneCell' = true) →
    ∃ w', (storeCells (⟨g, j, none⟩ : Addr) vs i).run P w = .ok () w' ∧ w.grownBy w' (some g) ∧ Row w' B e sz (some ⟨g, 0, none⟩) n c (cells.take (j + i) ++ vs ++ cells.drop (j + i + vs.length)) ∧ w'.heap.size = w.heap.size := by
  intro vs
  induction vs with
  | nil =>
    intro i cells w hb _ _
    refine ⟨w, by simp [storeCells], gr_any (Gr.refl w) _, ?_, rfl⟩
    simpa using hb
  | cons v vs ih =>
    intro i cells w hO hl h1
    have hlt : j + i < n * sz := by simp at hl; omega
    have hlen := hO.len
    have hst := World.ownsRow.stored hO (j + i) v
    have hcell : w.cell? ⟨g, j + i, none⟩ = cells[j + i]? := World.ownsRow.cellAt hO (j + i) hlt
    have hc : w.cell? ⟨g, j + i, none⟩ = some (cells[j + i]'(by omega)) := by rw [hcell, List.getElem?_eq_getElem (by omega)]
    have hf : w.frozen? ⟨g, j + i, none⟩ = false := by
      rcases hO.2 with ⟨h', _⟩ | ⟨g', cap', cur, h', _, hg', _⟩
      · simp at h'
      · simp only [Value.slice.injEq, Option.some.injEq, Addr.mk.injEq] at h'
        simp only [World.frozen?]
        rw [h'.1.1, hg']
        simp
    obtain ⟨w', hr, hg', hb'', hsz⟩ := ih (i + 1) (cells.set (j + i) v) _ hst.1 (by simp at hl ⊢; omega) (fun u hu => h1 u (List.mem_cons_of_mem _ hu))
    refine ⟨w', ?_, grownBy_trans hst.2 hg', ?_, by rw [hsz]; simp [World.setCell]⟩
    · have hv := h1 v (List.mem_cons_self ..)
      have hstore : (store (⟨g, j + i, none⟩ : Addr) v).run P w = .ok () (w.setCell ⟨g, j + i, none⟩ v) := by
        unfold store
        cases v <;> first | (simp [Value.oneCell'] at hv; done) | simp [Sem.run, hc, hf]
      simp only [storeCells, Sem.run_bind, add_plain]
      rw [hstore]
      exact hr
    · have e : cells.take (j + i) ++ v :: vs ++ cells.drop (j + i + (v :: vs).length) = (cells.set (j + i) v).take (j + (i + 1)) ++ vs ++ (cells.set (j + i) v).drop (j + (i + 1) + vs.length) := by
        rw [show j + (i + 1) = j + i + 1 from by omega, List.take_succ_eq_append_getElem (by simp; omega), List.drop_set_of_lt (by omega), List.take_set_of_le (Nat.le_refl _)]
        simp only [List.getElem_set_self, List.length_cons, List.append_assoc, List.cons_append, List.nil_append]
        rw [show j + i + 1 + vs.length = j + i + (vs.length + 1) from by omega]
      rw [e]
      exact hb''
/-- A store of some cells into a row of the call's own. -/
theorem do_store_rows {t B e sz n c j m : Nat} {X : Option Addr} {cells : List Value} {v : Value} (hs : szOf P t m) (hm : v.cells.size = m) (hm0 : 0 < m) (h1 : ∀ u ∈ v.cells.toList, u.oneCell' = true) (hO : Row w B e sz X n c cells) (hj : j + m ≤ n * sz)
    (h : ∀ w', w.grownBy w' (blk X) → w'.heap.size = w.heap.size → Row w' B e sz X n c (cells.take j ++ v.cells.toList ++ cells.drop (j + m)) → k undef w') : Do P (sStore t (.pointer (some ((ad X).add j))) v) k w := by
  rcases hO.at_ with ⟨rfl, rfl, _⟩ | ⟨g, rfl, hb, hg⟩
  · simp at hj; omega
  obtain ⟨w', hr, hg', hb', hsz⟩ := run_storeRow (P := P) (j := j) v.cells.toList 0 cells w hO (by simp [hm]; omega) h1
  have e' : (sStore t (.pointer (some (⟨g, j, none⟩ : Addr))) v).run P w = .ok .skip w' := by
    simp only [sStore, Instr.storeAt, Instr.sureAddr, storeVar, Sem.run_bind, Sem.run_pure, Result.andThen, run_size hs]
    rw [if_neg (by simp [hm])]
    simp only [hr]
  have ea : (ad (some (⟨g, 0, none⟩ : Addr))).add j = ⟨g, j, none⟩ := by
    show (⟨g, 0, none⟩ : Addr).add j = _
    rw [add_plain, Nat.zero_add]
  rw [ea, do_skip e']
  have hvl : v.cells.toList.length = m := by simp [hm]
  simp only [Nat.add_zero, hvl] at hb'
  exact h _ hg' hsz hb'
end
/-- Rules of the call's own: the row, and a slice of ints of its own for each. -/
structure OwnR (e1 e2 : Nat) (w : World) (B : Nat) (X : Option Addr) (c : Nat) (rs : List RuleL) (ps : Nat → Option Addr × Nat) : Prop where
  row : ∃ cells, Row w B e1 2 X rs.length c cells ∧ ∀ j, j < rs.length → cells[j * 2]? = some (.int .i64 (rul rs j).1) ∧ cells[j * 2 + 1]? = some (.slice (ps j).1 (rul rs j).2.length (ps j).2)
  own : ∀ j, j < rs.length → Own e2 w B (ps j).1 (ps j).2 (rul rs j).2
  two : ∀ i j, i < rs.length → j < rs.length → i ≠ j → blk (ps i).1 = none ∨ blk (ps i).1 ≠ blk (ps j).1
theorem OwnR.gx {D : Nat → Prop} {e1 e2 : Nat} {w w' : World} {B : Nat} {X : Option Addr} {c : Nat} {rs : List RuleL} {ps : Nat → Option Addr × Nat} (h : OwnR e1 e2 w B X c rs ps) (g : Gx D w w') (hn : ∀ b, B ≤ b → b < w.heap.size → ¬ D b) : OwnR e1 e2 w' B X c rs ps := by
  obtain ⟨⟨cells, hr, hc⟩, ho, ht⟩ := h
  exact ⟨⟨cells, hr.gx g fun q hq => hn q (hr.ge hq).1 (hr.ge hq).2, hc⟩, fun j hj => (ho j hj).gx g fun q hq => hn q ((ho j hj).ge hq).1 ((ho j hj).ge hq).2, ht⟩
theorem OwnR.gr {e1 e2 : Nat} {w w' : World} {B : Nat} {X : Option Addr} {c : Nat} {rs : List RuleL} {ps : Nat → Option Addr × Nat} (h : OwnR e1 e2 w B X c rs ps) (g : Gr w w') : OwnR e1 e2 w' B X c rs ps :=
  h.gx (gx_of_gr g fun _ => False) fun _ _ _ h => h
theorem OwnR.mono {e1 e2 : Nat} {w : World} {B B' : Nat} {X : Option Addr} {c : Nat} {rs : List RuleL} {ps : Nat → Option Addr × Nat} (h : OwnR e1 e2 w B X c rs ps) (hb : B' ≤ B) : OwnR e1 e2 w B' X c rs ps := by
  obtain ⟨⟨cells, hr, hc⟩, ho, ht⟩ := h
  exact ⟨⟨cells, Row.mono hr hb, hc⟩, fun j hj => Row.mono (ho j hj) hb, ht⟩
theorem own_foot {e : Nat} {w : World} {B c : Nat} {X : Option Addr} {xs : List Int} (h : Own e w B X c xs) : IntsF (fun b => B ≤ b ∧ b < w.heap.size) w X xs :=
  ⟨Own.ints h, fun hp => by
    have hq : X = some (ad X) := Row.ptr h hp
    exact Row.ge h (q := (ad X).block) (by rw [hq]; rfl)⟩
theorem OwnR.read {e1 e2 : Nat} {w : World} {B : Nat} {X : Option Addr} {c : Nat} {rs : List RuleL} {ps : Nat → Option Addr × Nat} (h : OwnR e1 e2 w B X c rs ps) : RulesF (fun b => B ≤ b ∧ b < w.heap.size) w X rs := by
  obtain ⟨⟨cells, hr, hc⟩, ho, ht⟩ := h
  have hcap := hr.cap
  refine ⟨by omega, fun hp => hr.ptr hp, fun hp => ?_, fun j hj => ?_⟩
  · have hq : X = some (ad X) := hr.ptr hp
    exact hr.ge (q := (ad X).block) (by rw [hq]; rfl)
  · have hs := hr.src
    obtain ⟨h1, h2⟩ := hc j hj
    have hc' := Row.cap (ho j hj)
    exact ⟨(ps j).1, (ps j).2, hs.cell _ _ h1, hs.cell _ _ h2, by omega, own_foot (ho j hj)⟩
theorem rul_set {rs : List RuleL} {r : RuleL} {i j : Nat} (hj : j < rs.length) : rul (rs.set j r) i = if i = j then r else rul rs i := by
  simp only [rul, List.getD_eq_getElem?_getD, List.getElem?_set]
  by_cases h : i = j
  · subst h
    simp [hj]
  · rw [if_neg (fun e => h e.symm), if_neg h]
theorem set_rul {rs qs : List RuleL} {i : Nat} (h : i < qs.length) (hl : rs.length = qs.length) : (rs.take i ++ qs.drop i).set i (rul rs i) = rs.take (i + 1) ++ qs.drop (i + 1) := by
  rw [List.take_succ_eq_append_getElem (by omega), List.set_append_right _ _ (by simp; omega)]
  have hi : i - (rs.take i).length = 0 := by simp; omega
  rw [hi, List.drop_eq_getElem_cons h, List.set_cons_zero, rul_eq (by omega), List.append_assoc]
  rfl
theorem Box.ne {w : World} {b b' t : Nat} {cs : List Value} (h : Box w b cs t) (hb : w.heap.size ≤ b') : b' ≠ b := by
  have := h.lt
  omega
theorem Box.put {w w' : World} {b b' t : Nat} {cs : List Value} (h : Box w b cs t) (g : w.grownBy w' (some b')) (hn : b' ≠ b) : Box w' b cs t := h.kept g (by simpa using hn)
theorem Row.kept_old {w w' : World} {B e sz n c b : Nat} {X : Option Addr} {cells : List Value} (h : Row w B e sz X n c cells) (g : w.grownBy w' (some b)) (hb : b < B) : Row w' B e sz X n c cells := by
  refine Row.kept h g ?_
  cases hq : blk X with
  | none => exact .inl rfl
  | some q =>
    have := (Row.ge h hq).1
    refine .inr fun e => ?_
    have : q = b := by simpa using e
    omega
theorem gr_put {a b c : World} {q : Nat} (h : Gr a b) (g : b.grownBy c (some q)) (hq : a.heap.size ≤ q) : Gr a c := gr_mod h g fun x hx => by
  cases hx
  exact hq
section
variable {P : Program} {k : Value → World → Prop} {w : World}
theorem do_alloc_of {t sz by' : Nat} {z : Value} (H : Inf P t z sz by') (h : ∀ b w', Gr w w' → w.heap.size ≤ b → Box w' b z.cells.toList t → k (.pointer (some ⟨b, 0, none⟩)) w') : Do P (sAlloc t) k w := by
  obtain ⟨i, a, b, _, _⟩ := H
  exact do_alloc a b h
/-- A store of a whole rule. -/
theorem do_store_rule {t e1 e2 B c d j : Nat} {X Y : Option Addr} {rs : List RuleL} {ps : Nat → Option Addr × Nat} {r : RuleL} (hs : szOf P t 2) (he : e1 ≠ e2) (hO : OwnR e1 e2 w B X c rs ps) (hj : j < rs.length) (ho : Own e2 w B Y d r.2)
    (hne : ∀ i, i < rs.length → i ≠ j → blk Y = none ∨ blk Y ≠ blk (ps i).1)
    (h : ∀ w', w.grownBy w' (blk X) → w'.heap.size = w.heap.size → OwnR e1 e2 w' B X c (rs.set j r) (fun i => if i = j then (Y, d) else ps i) → k undef w') :
    Do P (sStore t (.pointer (some ((ad X).add (j * 2)))) (.agg #[.int .i64 r.1, .slice Y r.2.length d])) k w := by
  obtain ⟨⟨cells, hr, hc⟩, hown, htwo⟩ := hO
  have hlen := hr.len
  refine do_store_rows hs rfl (by decide) ?_ hr (by omega) fun w' g hsz hr' => h w' g hsz ?_
  · intro u hu
    simp [Value.cells] at hu
    rcases hu with rfl | rfl <;> rfl
  have hX : ∀ {Z : Option Addr} {n c : Nat} {xs : List Value}, Row w B e2 1 Z n c xs → blk Z = none ∨ blk Z ≠ blk X := fun hz => row_ne hz hr (fun e => he e.symm)
  refine ⟨⟨_, by rw [List.length_set]; exact hr', fun i hi => ?_⟩, fun i hi => ?_, fun i l hi hl hil => ?_⟩
  · rw [List.length_set] at hi
    rw [rul_set hj]
    have e0 : (Value.agg #[.int .i64 r.1, .slice Y r.2.length d]).cells.toList = [.int .i64 r.1, .slice Y r.2.length d] := rfl
    rw [e0]
    have e1 : (cells.take (j * 2) ++ [Value.int .i64 r.1, .slice Y r.2.length d]).length = j * 2 + 2 := by simp; omega
    by_cases hij : i = j
    · subst hij
      rw [if_pos rfl, if_pos rfl]
      constructor
      · rw [List.getElem?_append_left (by omega), List.getElem?_append_right (by simp; omega)]
        rw [show i * 2 - (cells.take (i * 2)).length = 0 from by simp; omega]
        rfl
      · rw [List.getElem?_append_left (by omega), List.getElem?_append_right (by simp; omega)]
        rw [show i * 2 + 1 - (cells.take (i * 2)).length = 1 from by simp; omega]
        rfl
    · rw [if_neg hij, if_neg hij]
      obtain ⟨h1, h2⟩ := hc i hi
      by_cases hlt : i < j
      · constructor
        · rw [List.getElem?_append_left (by omega), List.getElem?_append_left (by simp; omega), List.getElem?_take_of_lt (by omega)]
          exact h1
        · rw [List.getElem?_append_left (by omega), List.getElem?_append_left (by simp; omega), List.getElem?_take_of_lt (by omega)]
          exact h2
      · constructor
        · rw [List.getElem?_append_right (by omega), e1, List.getElem?_drop, show j * 2 + 2 + (i * 2 - (j * 2 + 2)) = i * 2 from by omega]
          exact h1
        · rw [List.getElem?_append_right (by omega), e1, List.getElem?_drop, show j * 2 + 2 + (i * 2 + 1 - (j * 2 + 2)) = i * 2 + 1 from by omega]
          exact h2
  · rw [List.length_set] at hi
    rw [rul_set hj]
    by_cases hij : i = j
    · simp only [hij, if_true]
      exact Row.kept ho g (hX ho)
    · simp only [hij, if_false]
      exact Row.kept (hown i hi) g (hX (hown i hi))
  · rw [List.length_set] at hi hl
    by_cases hij : i = j
    · have hlj : l ≠ j := fun e => hil (hij.trans e.symm)
      simp only [hij, hlj, if_true, if_false]
      exact hne l hl hlj
    · by_cases hlj : l = j
      · simp only [hij, hlj, if_true, if_false]
        cases hq : blk (ps i).1 with
        | none => exact .inl rfl
        | some q =>
          refine .inr fun e => ?_
          rcases hne i hi hij with hy | hy
          · rw [hy] at e
            cases e
          · exact hy (by rw [hq, e])
      · simp only [hij, hlj, if_false]
        exact htwo i l hi hl hil
end
end Go.Sh
