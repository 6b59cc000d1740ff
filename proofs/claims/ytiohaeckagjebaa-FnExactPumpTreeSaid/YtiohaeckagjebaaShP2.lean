/- Plain: trees by lists of rules. -/
import Derived.Test.YtiohaeckagjebaaShK2
set_option linter.unusedVariables false
set_option linter.unusedSimpArgs false
namespace Go.Sh
/-! Trees by lists of rules. -/
inductive PT where
  | mk (non : Int) (rule at_ fin fr to : Nat) (kids : List PT)
def PT.non : PT → Int | .mk n _ _ _ _ _ _ => n
def PT.rule : PT → Nat | .mk _ r _ _ _ _ _ => r
def PT.at_ : PT → Nat | .mk _ _ a _ _ _ _ => a
def PT.fin : PT → Nat | .mk _ _ _ e _ _ _ => e
def PT.fr : PT → Nat | .mk _ _ _ _ f _ _ => f
def PT.to : PT → Nat | .mk _ _ _ _ _ t _ => t
def PT.kids : PT → List PT | .mk _ _ _ _ _ _ k => k
def okT (rs : List RuleL) (tree : List Int) (non : Int) (a : Nat) : Bool :=
  decide (a < tree.length) && (decide (0 ≤ tree.getD a 0) && decide (tree.getD a 0 ≤ (rs.length : Int) - 1)) && decide ((rul rs (tree.getD a 0).toNat).1 = non)
def rgtT (rs : List RuleL) (tree : List Int) (a : Nat) : List Int := (rul rs (tree.getD a 0).toNat).2
def readR (rec : Int → Nat → List Int → Option (PT × List Int)) : List Int → Nat → List Int → List PT → Option (List PT × Nat × List Int)
  | [], e, w, ks => some (ks, e, w)
  | x :: xs, e, w, ks => if x < 0 then readR rec xs e (w ++ [-1 - x]) ks else match rec x e w with
    | none => none
    | some (k, w') => readR rec xs k.fin w' (ks ++ [k])
def readT (rs : List RuleL) (tree : List Int) : Nat → Int → Nat → List Int → Option (PT × List Int)
  | 0, _, _, _ => none
  | f + 1, non, a, w => if okT rs tree non a = true then match readR (readT rs tree f) (rgtT rs tree a) (a + 1) w [] with
      | none => none
      | some (ks, e, w') => some (.mk non (tree.getD a 0).toNat a e w.length w'.length ks, w')
    else none
def endR (rec : Int → Nat → Option Nat) : List Int → Nat → Option Nat
  | [], e => some e
  | x :: xs, e => if x < 0 then endR rec xs e else match rec x e with
    | none => none
    | some e' => endR rec xs e'
def endT (rs : List RuleL) (tree : List Int) : Nat → Int → Nat → Option Nat
  | 0, _, _ => none
  | f + 1, non, a => if okT rs tree non a = true then endR (endT rs tree f) (rgtT rs tree a) (a + 1) else none
theorem endR_eq {rec : Int → Nat → List Int → Option (PT × List Int)} {rec' : Int → Nat → Option Nat} (h : ∀ x a w, rec' x a = (rec x a w).map fun z => z.1.fin) : ∀ (xs : List Int) (e : Nat) (w : List Int) (ks : List PT), endR rec' xs e = (readR rec xs e w ks).map fun z => z.2.1 := by
  intro xs
  induction xs with
  | nil => intro e w ks; rfl
  | cons x xs ih =>
    intro e w ks
    unfold endR readR
    by_cases hx : x < 0
    · rw [if_pos hx, if_pos hx]
      exact ih _ _ _
    · rw [if_neg hx, if_neg hx, h x e w]
      cases rec x e w with
      | none => rfl
      | some z => exact ih _ _ _
theorem endT_eq (rs : List RuleL) (tree : List Int) : ∀ (f : Nat) (non : Int) (a : Nat) (w : List Int), endT rs tree f non a = (readT rs tree f non a w).map fun z => z.1.fin := by
  intro f
  induction f with
  | zero => intro non a w; rfl
  | succ f ih =>
    intro non a w
    unfold endT readT
    by_cases hk : okT rs tree non a = true
    · rw [if_pos hk, if_pos hk, endR_eq ih _ _ w []]
      cases readR (readT rs tree f) (rgtT rs tree a) (a + 1) w [] <;> rfl
    · rw [if_neg hk, if_neg hk]
      rfl
mutual
def PT.parts : PT → List PT
  | .mk n r a e f t ks => .mk n r a e f t ks :: PT.partsL ks
def PT.partsL : List PT → List PT
  | [] => []
  | k :: ks => k.parts ++ PT.partsL ks
end
theorem partsL_append (ks ls : List PT) : PT.partsL (ks ++ ls) = PT.partsL ks ++ PT.partsL ls := by
  induction ks with
  | nil => simp [PT.partsL]
  | cons k ks ih => simp [PT.partsL, ih]
theorem parts_cons (p : PT) : p.parts = p :: PT.partsL p.kids := by
  cases p
  simp [PT.parts, PT.kids]
/-- Parts stand one behind the other from a place on; each part's own stand behind it. -/
def Laid (l : List PT) (a : Nat) : Prop := ∀ i, (h : i < l.length) → l[i].at_ = a + i ∧ l[i].fin ≤ a + l.length ∧ a + i < l[i].fin ∧ l[i].parts = (l.drop i).take (l[i].fin - (a + i))
theorem Laid.append {l m : List PT} {a : Nat} (h : Laid l a) (g : Laid m (a + l.length)) : Laid (l ++ m) a := by
  intro i hi
  by_cases hl : i < l.length
  · obtain ⟨h1, h2, h3, h4⟩ := h i hl
    rw [List.getElem_append_left hl]
    refine ⟨h1, by simp; omega, h3, ?_⟩
    rw [List.drop_append_of_le_length (by omega), List.take_append_of_le_length (by simp; omega)]
    exact h4
  · obtain ⟨d, rfl⟩ : ∃ d, i = l.length + d := ⟨i - l.length, by omega⟩
    have hm : d < m.length := by simp at hi; omega
    obtain ⟨h1, h2, h3, h4⟩ := g d hm
    have e : (l ++ m)[l.length + d] = m[d] := by
      rw [List.getElem_append_right (by omega)]
      simp
    rw [e]
    have hlen : (l ++ m).length = l.length + m.length := List.length_append
    refine ⟨?_, ?_, ?_, ?_⟩
    · omega
    · omega
    · omega
    · have e2 : (l ++ m).drop (l.length + d) = m.drop d := by
        rw [← List.drop_drop, List.drop_left]
      rw [h4, e2, Nat.add_assoc]
theorem readR_laid {rec : Int → Nat → List Int → Option (PT × List Int)} (h : ∀ x a w p w', rec x a w = some (p, w') → Laid p.parts a ∧ p.fin = a + p.parts.length ∧ p.at_ = a ∧ p.non = x ∧ p.fr = w.length ∧ p.to = w'.length ∧ w.length ≤ w'.length) :
    ∀ (xs : List Int) (e : Nat) (w : List Int) (ks : List PT) (a : Nat) {ks' : List PT} {e' : Nat} {w' : List Int}, Laid (PT.partsL ks) a → e = a + (PT.partsL ks).length → readR rec xs e w ks = some (ks', e', w') → Laid (PT.partsL ks') a ∧ e' = a + (PT.partsL ks').length ∧ w.length ≤ w'.length := by
  intro xs
  induction xs with
  | nil =>
    intro e w ks a ks' e' w' hl he hr
    simp only [readR, Option.some.injEq, Prod.mk.injEq] at hr
    obtain ⟨rfl, rfl, rfl⟩ := hr
    exact ⟨hl, he, Nat.le_refl _⟩
  | cons x xs ih =>
    intro e w ks a ks' e' w' hl he hr
    unfold readR at hr
    by_cases hx : x < 0
    · rw [if_pos hx] at hr
      obtain ⟨h1, h2, h3⟩ := ih _ _ _ _ hl he hr
      exact ⟨h1, h2, by simp at h3; omega⟩
    · rw [if_neg hx] at hr
      cases hz : rec x e w with
      | none => rw [hz] at hr; cases hr
      | some z =>
        obtain ⟨k, w1⟩ := z
        rw [hz] at hr
        obtain ⟨h1, h2, _, _, _, _, h3⟩ := h x e w k w1 hz
        have hl' : Laid (PT.partsL (ks ++ [k])) a := by
          rw [partsL_append]
          refine hl.append ?_
          simp only [PT.partsL, List.append_nil]
          rw [← he]
          exact h1
        obtain ⟨g1, g2, g3⟩ := ih _ _ _ _ hl' (by rw [partsL_append]; simp [PT.partsL]; omega) hr
        exact ⟨g1, g2, by omega⟩
theorem readT_laid (rs : List RuleL) (tree : List Int) : ∀ (f : Nat) (non : Int) (a : Nat) (w : List Int) (p : PT) (w' : List Int), readT rs tree f non a w = some (p, w') → Laid p.parts a ∧ p.fin = a + p.parts.length ∧ p.at_ = a ∧ p.non = non ∧ p.fr = w.length ∧ p.to = w'.length ∧ w.length ≤ w'.length := by
  intro f
  induction f with
  | zero => intro non a w p w' h; cases h
  | succ f ih =>
    intro non a w p w' h
    unfold readT at h
    by_cases hk : okT rs tree non a = true
    · rw [if_pos hk] at h
      cases hz : readR (readT rs tree f) (rgtT rs tree a) (a + 1) w [] with
      | none => rw [hz] at h; cases h
      | some z =>
        obtain ⟨ks, e, w1⟩ := z
        rw [hz] at h
        simp only [Option.some.injEq, Prod.mk.injEq] at h
        obtain ⟨rfl, rfl⟩ := h
        have h0 : Laid (PT.partsL []) (a + 1) := fun i hi => by simp [PT.partsL] at hi
        obtain ⟨h1, h2, h3⟩ := readR_laid ih _ _ _ _ (a + 1) h0 (by simp [PT.partsL]) hz
        refine ⟨?_, by simp [PT.parts, PT.fin]; omega, rfl, rfl, rfl, rfl, h3⟩
        rw [PT.parts]
        intro i hi
        cases i with
        | zero =>
          refine ⟨rfl, ?_, ?_, ?_⟩
          · simp [PT.fin]; omega
          · simp [PT.fin]; omega
          · simp only [List.getElem_cons_zero, PT.fin, List.drop_zero, PT.parts]
            rw [List.take_of_length_le]
            simp
            omega
        | succ i =>
          simp only [List.length_cons] at hi
          obtain ⟨g1, g2, g3, g4⟩ := h1 i (by omega)
          simp only [List.getElem_cons_succ, List.drop_succ_cons, List.length_cons]
          refine ⟨by rw [g1]; omega, by omega, by omega, ?_⟩
          rw [g4]
          congr 1
          omega
    · rw [if_neg hk] at h
      cases h
theorem endT_gt {rs : List RuleL} {tree : List Int} {f : Nat} {non : Int} {a e : Nat} (h : endT rs tree f non a = some e) : a < e := by
  rw [endT_eq rs tree f non a []] at h
  cases hz : readT rs tree f non a [] with
  | none => rw [hz] at h; cases h
  | some z =>
    obtain ⟨p, w'⟩ := z
    rw [hz] at h
    obtain ⟨_, h2, _⟩ := readT_laid rs tree f non a [] p w' hz
    have : p.fin = e := by simpa using h
    rw [parts_cons] at h2
    simp at h2
    omega
theorem endR_le {rec : Int → Nat → Option Nat} {n : Nat} (h : ∀ x e e', rec x e = some e' → e' ≤ n) : ∀ (xs : List Int) (e e' : Nat), e ≤ n → endR rec xs e = some e' → e' ≤ n := by
  intro xs
  induction xs with
  | nil =>
    intro e e' he hr
    simp only [endR, Option.some.injEq] at hr
    omega
  | cons x xs ih =>
    intro e e' he hr
    unfold endR at hr
    split at hr
    · exact ih e e' he hr
    · split at hr
      · cases hr
      · rename_i e1 hz
        exact ih e1 e' (h x e e1 hz) hr
theorem endT_le {rs : List RuleL} {tree : List Int} : ∀ {f : Nat} {non : Int} {a e : Nat}, endT rs tree f non a = some e → e ≤ tree.length := by
  intro f
  induction f with
  | zero => intro non a e h; cases h
  | succ f ih =>
    intro non a e h
    unfold endT at h
    split at h
    · rename_i hok
      simp only [okT, Bool.and_eq_true, decide_eq_true_eq] at hok
      exact endR_le (fun x e e' h => ih h) _ _ _ (by omega) h
    · cases h
theorem readT_le {rs : List RuleL} {tree : List Int} {f : Nat} {non : Int} {a : Nat} {w w' : List Int} {p : PT} (h : readT rs tree f non a w = some (p, w')) : p.fin ≤ tree.length := by
  have e := endT_eq rs tree f non a w
  rw [h] at e
  exact endT_le e
theorem readR_words {rec : Int → Nat → List Int → Option (PT × List Int)} (h : ∀ x a w p w', rec x a w = some (p, w') → w.length ≤ w'.length ∧ w'.length ≤ w.length + 4 * p.parts.length) :
    ∀ (xs : List Int) (e : Nat) (w : List Int) (ks : List PT) {ks' : List PT} {e' : Nat} {w' : List Int}, readR rec xs e w ks = some (ks', e', w') → w.length ≤ w'.length ∧ w'.length + 4 * (PT.partsL ks).length ≤ w.length + xs.length + 4 * (PT.partsL ks').length := by
  intro xs
  induction xs with
  | nil =>
    intro e w ks ks' e' w' hr
    simp only [readR, Option.some.injEq, Prod.mk.injEq] at hr
    obtain ⟨rfl, rfl, rfl⟩ := hr
    simp
  | cons x xs ih =>
    intro e w ks ks' e' w' hr
    unfold readR at hr
    split at hr
    · have := ih _ _ _ hr
      simp at this ⊢
      omega
    · split at hr
      · cases hr
      · rename_i k w1 hz
        have h1 := h _ _ _ _ _ hz
        have h2 := ih _ _ _ hr
        rw [partsL_append] at h2
        simp [PT.partsL] at h2 ⊢
        omega
theorem readT_words {rs : List RuleL} {tree : List Int} (h4 : ∀ q, q < rs.length → (rul rs q).2.length ≤ 4) : ∀ (f : Nat) (non : Int) (a : Nat) (w : List Int) (p : PT) (w' : List Int), readT rs tree f non a w = some (p, w') → w.length ≤ w'.length ∧ w'.length ≤ w.length + 4 * p.parts.length := by
  intro f
  induction f with
  | zero => intro non a w p w' h; cases h
  | succ f ih =>
    intro non a w p w' h
    unfold readT at h
    split at h
    · rename_i hok
      split at h
      · cases h
      · rename_i ks e w1 hz
        simp only [Option.some.injEq, Prod.mk.injEq] at h
        obtain ⟨rfl, rfl⟩ := h
        have h1 := readR_words ih _ _ _ _ hz
        have h5 : (rgtT rs tree a).length ≤ 4 := by
          simp only [okT, Bool.and_eq_true, decide_eq_true_eq] at hok
          exact h4 _ (by omega)
        simp only [PT.parts, List.length_cons, PT.partsL, List.length_nil] at h1 ⊢
        omega
    · cases h
theorem readR_grow {rec : Int → Nat → List Int → Option (PT × List Int)} : ∀ (xs : List Int) (e : Nat) (w : List Int) (ks : List PT) {ks' : List PT} {e' : Nat} {w' : List Int}, readR rec xs e w ks = some (ks', e', w') → (PT.partsL ks).length ≤ (PT.partsL ks').length := by
  intro xs
  induction xs with
  | nil =>
    intro e w ks ks' e' w' hr
    simp only [readR, Option.some.injEq, Prod.mk.injEq] at hr
    obtain ⟨rfl, rfl, rfl⟩ := hr
    exact Nat.le_refl _
  | cons x xs ih =>
    intro e w ks ks' e' w' hr
    unfold readR at hr
    split at hr
    · exact ih _ _ _ hr
    · split at hr
      · cases hr
      · have := ih _ _ _ hr
        rw [partsL_append, List.length_append] at this
        omega
/-- What a tree that is one has at its top. -/
theorem readT_some {rs : List RuleL} {tree : List Int} {f : Nat} {non : Int} {a : Nat} {w w' : List Int} {p : PT} (h : readT rs tree (f + 1) non a w = some (p, w')) : ∃ (q : Nat) (ks : List PT) (e : Nat), a < tree.length ∧ tree.getD a 0 = q ∧ q < rs.length ∧ (rul rs q).1 = non ∧ readR (readT rs tree f) (rul rs q).2 (a + 1) w [] = some (ks, e, w') ∧ p = .mk non q a e w.length w'.length ks := by
  unfold readT at h
  split at h
  · rename_i hok
    split at h
    · cases h
    · rename_i ks e w1 hz
      simp only [Option.some.injEq, Prod.mk.injEq] at h
      obtain ⟨rfl, rfl⟩ := h
      simp only [okT, Bool.and_eq_true, decide_eq_true_eq] at hok
      exact ⟨(tree.getD a 0).toNat, ks, e, hok.1.1, by omega, by omega, hok.2, hz, rfl⟩
  · cases h
theorem readR_tok {rec : Int → Nat → List Int → Option (PT × List Int)} {x : Int} {xs : List Int} {e : Nat} {w : List Int} {ks : List PT} (hx : x < 0) : readR rec (x :: xs) e w ks = readR rec xs e (w ++ [-1 - x]) ks := by
  rw [readR, if_pos hx]
theorem readR_non {rec : Int → Nat → List Int → Option (PT × List Int)} {x : Int} {xs : List Int} {e : Nat} {w : List Int} {ks : List PT} {z : List PT × Nat × List Int} (hx : ¬ x < 0) (h : readR rec (x :: xs) e w ks = some z) : ∃ k w1, rec x e w = some (k, w1) ∧ readR rec xs k.fin w1 (ks ++ [k]) = some z := by
  rw [readR, if_neg hx] at h
  split at h
  · cases h
  · rename_i k w1 hz
    exact ⟨k, w1, hz, h⟩
theorem okT_eq {rs : List RuleL} {tree : List Int} {non : Int} {a : Nat} : okT rs tree non a = (decide (a < tree.length) && inB (tree.getD a 0) 0 ((rs.length : Int) - 1) && decide ((rul rs (tree.getD a 0).toNat).1 = non)) := rfl
theorem okT_lt {rs : List RuleL} {tree : List Int} {non : Int} {a : Nat} (h : ¬ a < tree.length) : okT rs tree non a = false := by
  rw [okT_eq, decide_eq_false h, Bool.false_and, Bool.false_and]
theorem okT_in {rs : List RuleL} {tree : List Int} {non : Int} {a : Nat} (h : inB (tree.getD a 0) 0 ((rs.length : Int) - 1) = false) : okT rs tree non a = false := by
  rw [okT_eq, h, Bool.and_false, Bool.false_and]
theorem okT_ne {rs : List RuleL} {tree : List Int} {non : Int} {a q : Nat} (hq : tree.getD a 0 = q) (h : ¬ (rul rs q).1 = non) : okT rs tree non a = false := by
  rw [okT_eq, hq, Int.toNat_natCast, decide_eq_false h, Bool.and_false]
theorem okT_of {rs : List RuleL} {tree : List Int} {non : Int} {a q : Nat} (h0 : a < tree.length) (h1 : inB (tree.getD a 0) 0 ((rs.length : Int) - 1) = true) (hq : tree.getD a 0 = q) (h : (rul rs q).1 = non) : okT rs tree non a = true := by
  rw [okT_eq, h1, hq, Int.toNat_natCast, decide_eq_true h, decide_eq_true h0]
  rfl
theorem endT_no {rs : List RuleL} {tree : List Int} {f : Nat} {non : Int} {a : Nat} (h : okT rs tree non a = false) : endT rs tree (f + 1) non a = none := by
  simp only [endT, h, Bool.false_eq_true, if_false]
theorem readT_no {rs : List RuleL} {tree : List Int} {f : Nat} {non : Int} {a : Nat} {w : List Int} (h : okT rs tree non a = false) : readT rs tree (f + 1) non a w = none := by
  simp only [readT, h, Bool.false_eq_true, if_false]
theorem readT_of {rs : List RuleL} {tree : List Int} {f q : Nat} {non : Int} {a : Nat} {w : List Int} (h : okT rs tree non a = true) (hq : tree.getD a 0 = q) : readT rs tree (f + 1) non a w = match readR (readT rs tree f) (rul rs q).2 (a + 1) w [] with
    | none => none
    | some (ks, e, w') => some (.mk non q a e w.length w'.length ks, w') := by
  rw [readT, if_pos h, rgtT, hq, Int.toNat_natCast]
/-- What the reference tells of a part. -/
def PT.row (p : PT) : List Int := [p.non, p.fin, p.fr, p.to]
def pairT (x y : PT) : Bool := decide (x.non = y.non) && (!decide (x.fr = y.fr) || !decide (x.to = y.to))
def noPT : PT := .mk 0 0 0 0 0 0 []
def ptn (l : List PT) (i : Nat) : PT := l.getD i noPT
theorem ptn_eq {l : List PT} {i : Nat} (h : i < l.length) : ptn l i = l[i] := by simp [ptn, List.getD_eq_getElem?_getD, h]
/-- The first two parts that can be pumped. -/
def pumpV (l : List PT) : Option (Nat × Nat) := (List.range l.length).findSome? fun p => (List.range' (p + 1) ((ptn l p).fin - (p + 1))).findSome? fun q => if pairT (ptn l p) (ptn l q) = true then some (p, q) else none
theorem find_first {β : Type} {f : Nat → Option β} {b : β} {m : Nat} : ∀ (n a : Nat), a ≤ m → m < a + n → f m = some b → (∀ m', a ≤ m' → m' < m → f m' = none) → (List.range' a n).findSome? f = some b := by
  intro n
  induction n with
  | zero => intro a h1 h2; omega
  | succ n ih =>
    intro a h1 h2 h3 h4
    rw [List.range'_succ, List.findSome?_cons]
    by_cases e : a = m
    · subst e
      rw [h3]
    · rw [h4 a (Nat.le_refl _) (by omega)]
      exact ih (a + 1) (by omega) (by omega) h3 fun m' g1 g2 => h4 m' (by omega) g2
theorem find_none {β : Type} {f : Nat → Option β} : ∀ (n a : Nat), (∀ m', a ≤ m' → m' < a + n → f m' = none) → (List.range' a n).findSome? f = none := by
  intro n
  induction n with
  | zero => intro a h; rfl
  | succ n ih =>
    intro a h
    rw [List.range'_succ, List.findSome?_cons, h a (Nat.le_refl _) (by omega)]
    exact ih (a + 1) fun m' g1 g2 => h m' (by omega) (by omega)
/-- No pair with its first part at p, its second one ahead of q. -/
def Dry (l : List PT) (p q : Nat) : Prop := ∀ q', p < q' → q' < q → pairT (ptn l p) (ptn l q') = false
theorem pumpV_some {l : List PT} {p q : Nat} (hp : p < l.length) (h1 : p < q) (h2 : q < (ptn l p).fin) (h : pairT (ptn l p) (ptn l q) = true) (hd : Dry l p q) (hb : ∀ p', p' < p → Dry l p' (ptn l p').fin) : pumpV l = some (p, q) := by
  unfold pumpV
  rw [List.range_eq_range']
  refine find_first _ 0 (Nat.zero_le p) (by omega) ?_ fun p' _ hp' => ?_
  · refine find_first _ (p + 1) h1 (by omega) (by rw [if_pos h]) fun q' g1 g2 => ?_
    rw [if_neg (by rw [hd q' g1 g2]; decide)]
  · refine find_none _ (p' + 1) fun q' g1 g2 => ?_
    rw [if_neg (by rw [hb p' hp' q' g1 (by omega)]; decide)]
theorem pumpV_none {l : List PT} (hb : ∀ p', p' < l.length → Dry l p' (ptn l p').fin) : pumpV l = none := by
  unfold pumpV
  rw [List.range_eq_range']
  refine find_none _ 0 fun p' _ hp' => ?_
  refine find_none _ (p' + 1) fun q' g1 g2 => ?_
  rw [if_neg (by rw [hb p' (by omega) q' g1 (by omega)]; decide)]
end Go.Sh
