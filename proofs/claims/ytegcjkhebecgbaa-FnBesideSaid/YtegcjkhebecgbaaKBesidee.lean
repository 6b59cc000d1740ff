/- Texts of this repository put together: ShY2, ShZ1, ShD1, ShE3, ShD2, ShF2, ShF3, ShF4, ShF5, ShF6, ShB1, ShF7, ShB2, Bd. -/
import Derived.Test.YtegcjkhebecgbaaKBesided
import Derived.Test.YtegcjkhebecgbaaKBesidec
import Derived.Test.YtegcjkhebecgbaaKBesideb
import Derived.Test.YtegcjkhebecgbaaProg
import Derived.Test.YtegcjkhebecgbaaKBesidea

/- Trees of a size as lists of rules: each is read in one way alone, and they are counted. -/
set_option linter.unusedVariables false
set_option linter.unusedSimpArgs false
set_option maxRecDepth 100000
namespace Go.Sh
open Go
/-- Lists of rules: of a nonterminal (inl), of symbols (inr); between two places, of a size in all. -/
inductive Der (rs : List RuleL) (ws : List Int) : Nat ⊕ List Int → Nat → Nat → Nat → List Int → Prop
  | tree {A q i j s : Nat} {r : List Int} : q < rs.length → (rul rs q).1 = (A : Int) → Der rs ws (.inr (rul rs q).2) i j s r → Der rs ws (.inl A) i j (s + 1) ((q : Int) :: r)
  | nil {i : Nat} : Der rs ws (.inr []) i i 0 []
  | tok {x : Int} {xs : List Int} {i j s : Nat} {r : List Int} : x < 0 → i < j → ws.getD i 0 = -1 - x → Der rs ws (.inr xs) (i + 1) j s r → Der rs ws (.inr (x :: xs)) i j s r
  | non {x : Int} {xs : List Int} {i m j k s : Nat} {a b : List Int} : ¬ x < 0 → i ≤ m → m ≤ j → Der rs ws (.inl x.toNat) i m k a → Der rs ws (.inr xs) m j s b → Der rs ws (.inr (x :: xs)) i j (k + s) (a ++ b)
section
variable {rs : List RuleL} {ws : List Int}
theorem der_tree {A i j s : Nat} {t : List Int} : Der rs ws (.inl A) i j s t ↔ ∃ (q : Nat) (r : List Int) (s' : Nat), s = s' + 1 ∧ t = (q : Int) :: r ∧ q < rs.length ∧ (rul rs q).1 = (A : Int) ∧ Der rs ws (.inr (rul rs q).2) i j s' r := by
  constructor
  · intro h
    cases h with
    | tree h1 h2 h3 => exact ⟨_, _, _, rfl, rfl, h1, h2, h3⟩
  · rintro ⟨q, r, s', rfl, rfl, h1, h2, h3⟩
    exact .tree h1 h2 h3
theorem der_le {c : Nat ⊕ List Int} {i j s : Nat} {t : List Int} (h : Der rs ws c i j s t) : i ≤ j := by
  induction h with
  | tree _ _ _ ih => exact ih
  | nil => exact Nat.le_refl _
  | tok _ h2 _ _ ih => omega
  | non _ h2 h3 _ _ _ _ => omega
theorem sumN_at {f : Nat → Nat} : ∀ {n k : Nat}, k < n → 0 < f k → 0 < sumN f n := by
  intro n
  induction n with
  | zero => intro k h; omega
  | succ n ih =>
    intro k h h1
    rw [sumN]
    by_cases e : k = n
    · subst e
      omega
    · have := ih (k := k) (by omega) h1
      omega
theorem sumR_at {p : RuleL → Nat} {rs : List RuleL} {r : RuleL} (hr : r ∈ rs) (h : 0 < p r) : 0 < sumR rs p := by
  have mono : ∀ (l : List RuleL) (a : Nat), a ≤ l.foldl (fun a r => a + p r) a := by
    intro l
    induction l with
    | nil => intro a; exact Nat.le_refl _
    | cons b l ih => intro a; exact Nat.le_trans (Nat.le_add_right a (p b)) (ih (a + p b))
  have key : ∀ (l : List RuleL) (a : Nat), r ∈ l → 0 < l.foldl (fun a r => a + p r) a := by
    intro l
    induction l with
    | nil => intro a h; simp at h
    | cons b l ih =>
      intro a hm
      rcases List.mem_cons.1 hm with e | e
      · subst e
        exact Nat.lt_of_lt_of_le (by omega) (mono l (a + p r))
      · exact ih (a + p b) e
  exact key rs 0 hr
def posD (rs : List RuleL) (ws : List Int) : Nat ⊕ List Int → Nat → Nat → Nat → Prop
  | .inl A, i, j, s => 0 < cntC rs ws A i j s
  | .inr xs, i, j, s => 0 < cntR (cntC rs ws) ws xs i j s
theorem der_posD {c : Nat ⊕ List Int} {i j s : Nat} {t : List Int} (h : Der rs ws c i j s t) : posD rs ws c i j s := by
  induction h with
  | tree h1 h2 h3 ih =>
    show 0 < cntC rs ws _ _ _ _
    rw [cntC_succ]
    refine sumR_at (r := rul rs _) (by rw [rul_eq h1]; exact List.getElem_mem h1) ?_
    rw [if_pos h2]
    exact ih
  | nil =>
    show 0 < cntR _ _ [] _ _ _
    rw [cntR, if_pos ⟨rfl, rfl⟩]
    omega
  | tok h1 h2 h3 h4 ih =>
    show 0 < cntR _ _ (_ :: _) _ _ _
    rw [cntR, if_pos h1, if_pos ⟨h2, h3⟩]
    exact ih
  | non h1 h2 h3 h4 h5 ih1 ih2 =>
    rename_i x xs i m j k s a b
    show 0 < cntR _ _ (x :: xs) _ _ _
    rw [cntR, if_neg h1]
    have hk : 0 < k := by
      obtain ⟨_, _, s', rfl, _⟩ := der_tree.1 h4
      omega
    refine sumN_at (k := m - i) (by omega) (sumN_at (k := k - 1) (by omega) ?_)
    rw [show i + (m - i) = m from by omega, show k - 1 + 1 = k from by omega, show k + s - k = s from by omega]
    exact Nat.mul_pos ih1 ih2
theorem der_posC {A i j s : Nat} {t : List Int} (h : Der rs ws (.inl A) i j s t) : 0 < cntC rs ws A i j s := der_posD h
theorem der_span (hr : ∀ r ∈ rs, r.1.toNat < 6) (hw : ws.length ≤ 10) {A i j s : Nat} {t : List Int} (hj : j ≤ ws.length) (h : Der rs ws (.inl A) i j s t) : spanT rs ws A i j = true := cntC_span hr hw (der_le h) hj (der_posC h)
/-! The parts of a row: at m and k. -/
end
end Go.Sh

/- What is derived and what the tables say: the same. -/
set_option linter.unusedVariables false
set_option linter.unusedSimpArgs false
set_option maxRecDepth 100000
namespace Go.Sh
open Go
section
variable {rs : List RuleL} {ws : List Int}
/-- Every entry of a table has a derivation. -/
def SoundT (rs : List RuleL) (ws : List Int) (T : Tab) : Prop := ∀ A i j, T A i j = true → i ≤ j ∧ ∃ s t, Der rs ws (.inl A) i j s t
theorem fits_sound {T : Tab} (h : SoundT rs ws T) : ∀ {xs : List Int} {i j : Nat}, fitsT T ws xs i j = true → i ≤ j ∧ ∃ s t, Der rs ws (.inr xs) i j s t := by
  intro xs
  induction xs with
  | nil =>
    intro i j hf
    obtain rfl : i = j := of_decide_eq_true hf
    exact ⟨Nat.le_refl _, 0, [], .nil⟩
  | cons x xs ih =>
    intro i j hf
    by_cases hx : x < 0
    · rw [fits_tok hx] at hf
      simp only [Bool.and_eq_true, decide_eq_true_eq] at hf
      obtain ⟨h1, h2, h3⟩ := hf
      obtain ⟨h4, s, t, h5⟩ := ih h3
      exact ⟨by omega, s, t, .tok hx h1 h2 h5⟩
    · rw [fits_non hx, List.any_eq_true] at hf
      obtain ⟨m, hm, hf⟩ := hf
      rw [List.mem_range'_1] at hm
      simp only [Bool.and_eq_true] at hf
      obtain ⟨h1, k, a, h2⟩ := h _ _ _ hf.1
      obtain ⟨h3, s, t, h4⟩ := ih hf.2
      exact ⟨by omega, k + s, a ++ t, .non hx h1 h3 h2 h4⟩
theorem rule_at {r : RuleL} (h : r ∈ rs) : ∃ q, q < rs.length ∧ rul rs q = r := by
  obtain ⟨q, hq, e⟩ := List.getElem_of_mem h
  exact ⟨q, hq, by rw [rul_eq hq, e]⟩
theorem fold_inv {α σ : Type} {I : σ → Prop} {f : σ → α → σ} : ∀ {l : List α} {s : σ}, I s → (∀ a ∈ l, ∀ s, I s → I (f s a)) → I (l.foldl f s) := by
  intro l
  induction l with
  | nil => intro s h _; exact h
  | cons a l ih =>
    intro s h h1
    exact ih (h1 a (List.mem_cons_self ..) s h) fun b hb => h1 b (List.mem_cons_of_mem _ hb)
theorem pass_sound (h0 : ∀ r ∈ rs, 0 ≤ r.1) {s : TS} (h : SoundT rs ws s.1) : SoundT rs ws (passT rs ws s).1 := by
  refine fold_inv (I := fun s : TS => SoundT rs ws s.1) h fun r hr s hs => ?_
  refine fold_inv (I := fun s : TS => SoundT rs ws s.1) hs fun i hi s hs => ?_
  refine fold_inv (I := fun s : TS => SoundT rs ws s.1) hs fun j hj s hs => ?_
  unfold stepT
  split
  · rename_i hc
    simp only [Bool.and_eq_true] at hc
    intro A a b hab
    simp only [Tab.put] at hab
    split at hab
    · rename_i e
      obtain ⟨rfl, rfl, rfl⟩ := e
      obtain ⟨h1, s', t, h2⟩ := fits_sound hs hc.2
      obtain ⟨q, hq, e⟩ := rule_at hr
      refine ⟨h1, s' + 1, (q : Int) :: t, .tree hq ?_ (by rw [e]; exact h2)⟩
      rw [e]
      have := h0 r hr
      omega
    · exact hs A a b hab
  · exact hs
theorem span_sound (h0 : ∀ r ∈ rs, 0 ≤ r.1) : SoundT rs ws (spanT rs ws) := by
  intro A i j h
  unfold spanT at h
  split at h
  · rename_i hx
    have key : ∀ {T U : Tab}, Span rs ws T U → SoundT rs ws T → SoundT rs ws U := by
      intro T U h
      induction h with
      | done _ => exact fun h => pass_sound h0 h
      | more _ _ ih => exact fun h => ih (pass_sound h0 h)
    exact key (Classical.choose_spec hx) (fun A i j h => by cases h) A i j h
  · cases h
theorem span_iff (h0 : ∀ r ∈ rs, 0 ≤ r.1) (hr : ∀ r ∈ rs, r.1.toNat < 6) (hw : ws.length ≤ 10) {A i j : Nat} (hj : j ≤ ws.length) : spanT rs ws A i j = true ↔ ∃ s t, Der rs ws (.inl A) i j s t :=
  ⟨fun h => (span_sound h0 A i j h).2, fun ⟨_, _, h⟩ => der_span hr hw hj h⟩
end
end Go.Sh

/- Plain: what derives a word; other names, turned round; what derives something, what is reached, useful rules. -/
set_option linter.unusedVariables false
set_option linter.unusedSimpArgs false
set_option maxRecDepth 100000
namespace Go.Sh
open Go
/-- What derives a word. -/
inductive Yi (rs : List RuleL) : Nat ⊕ List Int → List Int → Prop
  | rule {A : Nat} {r : RuleL} {u : List Int} : r ∈ rs → r.1 = (A : Int) → Yi rs (.inr r.2) u → Yi rs (.inl A) u
  | nil : Yi rs (.inr []) []
  | tok {x : Int} {xs u : List Int} : x < 0 → Yi rs (.inr xs) u → Yi rs (.inr (x :: xs)) ((-1 - x) :: u)
  | non {x : Int} {xs u v : List Int} : ¬ x < 0 → Yi rs (.inl x.toNat) u → Yi rs (.inr xs) v → Yi rs (.inr (x :: xs)) (u ++ v)
def cut (ws : List Int) (i j : Nat) : List Int := (ws.drop i).take (j - i)
theorem cut_nil (ws : List Int) (i : Nat) : cut ws i i = [] := by simp [cut]
theorem cut_cons {ws : List Int} {i j : Nat} (h : i < j) (hj : j ≤ ws.length) : cut ws i j = ws.getD i 0 :: cut ws (i + 1) j := by
  unfold cut
  rw [List.drop_eq_getElem_cons (by omega), show j - i = (j - (i + 1)) + 1 from by omega, List.take_succ_cons]
  simp [List.getD_eq_getElem?_getD, show i < ws.length from by omega]
theorem cut_append {ws : List Int} {i m j : Nat} (h1 : i ≤ m) (h2 : m ≤ j) (hj : j ≤ ws.length) : cut ws i j = cut ws i m ++ cut ws m j := by
  unfold cut
  rw [show j - i = (m - i) + (j - m) from by omega, List.take_add, List.drop_drop, show i + (m - i) = m from by omega]
theorem cut_all (ws : List Int) : cut ws 0 ws.length = ws := by simp [cut]
theorem cut_length {ws : List Int} {i j : Nat} (h : i ≤ j) (hj : j ≤ ws.length) : (cut ws i j).length = j - i := by
  simp [cut]; omega
section
variable {rs : List RuleL}
theorem yi_of_der {ws : List Int} {c : Nat ⊕ List Int} {i j s : Nat} {t : List Int} (h : Der rs ws c i j s t) : j ≤ ws.length → Yi rs c (cut ws i j) := by
  induction h with
  | tree h1 h2 _ ih =>
    intro hj
    refine .rule (r := rul rs _) ?_ h2 (ih hj)
    rw [rul_eq h1]
    exact List.getElem_mem h1
  | nil =>
    intro _
    rw [cut_nil]
    exact .nil
  | tok h1 h2 h3 _ ih =>
    intro hj
    rw [cut_cons h2 hj, h3]
    exact .tok h1 (ih hj)
  | non h1 h2 h3 _ _ ih1 ih2 =>
    intro hj
    rw [cut_append h2 h3 hj]
    exact .non h1 (ih1 (by omega)) (ih2 hj)
theorem der_of_yi' {c : Nat ⊕ List Int} {u : List Int} (h : Yi rs c u) : ∀ (a b : List Int), ∃ s t, Der rs (a ++ u ++ b) c a.length (a.length + u.length) s t := by
  induction h with
  | rule h1 h2 _ ih =>
    intro a b
    obtain ⟨s, t, hd⟩ := ih a b
    obtain ⟨q, hq, e⟩ := List.getElem_of_mem h1
    have e' : rul rs q = _ := (rul_eq hq).trans e
    exact ⟨_, _, .tree hq (by rw [e']; exact h2) (by rw [e']; exact hd)⟩
  | nil =>
    intro a b
    exact ⟨_, _, .nil⟩
  | @tok x xs u hx _ ih =>
    intro a b
    obtain ⟨s, t, hd⟩ := ih (a ++ [-1 - x]) b
    refine ⟨s, t, .tok hx (by simp) ?_ ?_⟩
    · simp [List.getD_eq_getElem?_getD]
    · have e : a ++ (-1 - x) :: u ++ b = a ++ [-1 - x] ++ u ++ b := by simp
      rw [e]
      have e2 : a.length + ((-1 - x) :: u).length = (a ++ [-1 - x]).length + u.length := by simp; omega
      rw [e2]
      have e3 : a.length + 1 = (a ++ [-1 - x]).length := by simp
      rw [e3]
      exact hd
  | @non x xs u v hx _ _ ih1 ih2 =>
    intro a b
    obtain ⟨s1, t1, h1⟩ := ih1 a (v ++ b)
    obtain ⟨s2, t2, h2⟩ := ih2 (a ++ u) b
    have e1 : a ++ u ++ (v ++ b) = a ++ (u ++ v) ++ b := by simp
    have e2 : a ++ u ++ v ++ b = a ++ (u ++ v) ++ b := by simp
    rw [e1] at h1
    rw [e2] at h2
    have e3 : (a ++ u).length = a.length + u.length := by simp
    have e4 : (a ++ u).length + v.length = a.length + (u ++ v).length := by simp; omega
    rw [e4, e3] at h2
    exact ⟨_, _, .non hx (by omega) (by simp) h1 h2⟩
theorem cut_parts {ws : List Int} {i j : Nat} (h : i ≤ j) (hj : j ≤ ws.length) : ws = ws.take i ++ cut ws i j ++ ws.drop j := by
  unfold cut
  conv => lhs; rw [← List.take_append_drop i ws, ← List.take_append_drop (j - i) (ws.drop i)]
  rw [List.drop_drop, show i + (j - i) = j from by omega, List.append_assoc]
theorem der_of_yi {ws : List Int} {c : Nat ⊕ List Int} {i j : Nat} (hi : i ≤ j) (hj : j ≤ ws.length) (h : Yi rs c (cut ws i j)) : ∃ s t, Der rs ws c i j s t := by
  obtain ⟨s, t, hd⟩ := der_of_yi' h (ws.take i) (ws.drop j)
  rw [← cut_parts hi hj] at hd
  have e1 : (ws.take i).length = i := by simp; omega
  have e2 : i + (cut ws i j).length = j := by rw [cut_length hi hj]; omega
  rw [e1, e2] at hd
  exact ⟨s, t, hd⟩
theorem der_yi {ws : List Int} {c : Nat ⊕ List Int} {i j : Nat} (hi : i ≤ j) (hj : j ≤ ws.length) : (∃ s t, Der rs ws c i j s t) ↔ Yi rs c (cut ws i j) :=
  ⟨fun ⟨_, _, h⟩ => yi_of_der h hj, der_of_yi hi hj⟩
/-! Parts. -/
theorem yi_rule {A : Nat} {u : List Int} : Yi rs (.inl A) u ↔ ∃ r ∈ rs, r.1 = (A : Int) ∧ Yi rs (.inr r.2) u := by
  constructor
  · intro h
    cases h with
    | rule h1 h2 h3 => exact ⟨_, h1, h2, h3⟩
  · rintro ⟨r, h1, h2, h3⟩
    exact .rule h1 h2 h3
theorem yi_nil {u : List Int} : Yi rs (.inr []) u ↔ u = [] := by
  constructor
  · intro h
    cases h
    rfl
  · rintro rfl
    exact .nil
theorem yi_non {x : Int} {xs u : List Int} (hx : ¬ x < 0) : Yi rs (.inr (x :: xs)) u ↔ ∃ v z, u = v ++ z ∧ Yi rs (.inl x.toNat) v ∧ Yi rs (.inr xs) z := by
  constructor
  · intro h
    cases h with
    | tok h1 => exact absurd h1 hx
    | non _ h1 h2 => exact ⟨_, _, rfl, h1, h2⟩
  · rintro ⟨v, z, rfl, h1, h2⟩
    exact .non hx h1 h2
end
/-! Other names of nonterminals; turned round. -/
def mapX (f : Nat → Nat) (x : Int) : Int := if x < 0 then x else (f x.toNat : Int)
theorem mapX_neg {f : Nat → Nat} {x : Int} (h : x < 0) : mapX f x = x := by simp [mapX, h]
theorem mapX_non {f : Nat → Nat} {x : Int} (h : ¬ x < 0) : mapX f x = (f x.toNat : Int) := by simp [mapX, h]
theorem yi_map1 {rs us : List RuleL} {f : Nat → Nat} {D : Nat → Prop} (hd : ∀ r ∈ rs, ∀ A : Nat, r.1 = (A : Int) → D A → ∀ x ∈ r.2, 0 ≤ x → D x.toNat)
    (hf : ∀ r ∈ rs, ∀ A : Nat, r.1 = (A : Int) → D A → ((f A : Int), r.2.map (mapX f)) ∈ us) {c : Nat ⊕ List Int} {w : List Int} (h : Yi rs c w) :
    match c with | .inl A => D A → Yi us (.inl (f A)) w | .inr xs => (∀ x ∈ xs, 0 ≤ x → D x.toNat) → Yi us (.inr (xs.map (mapX f))) w := by
  induction h with
  | @rule A r u h1 h2 _ ih =>
    intro hA
    exact .rule (hf r h1 A h2 hA) rfl (ih (hd r h1 A h2 hA))
  | nil => exact fun _ => .nil
  | @tok x xs u hx _ ih =>
    intro hD
    rw [List.map_cons, mapX_neg hx]
    exact .tok hx (ih fun y hy => hD y (List.mem_cons_of_mem _ hy))
  | @non x xs u v hx _ _ ih1 ih2 =>
    intro hD
    rw [List.map_cons, mapX_non hx]
    refine .non (by omega) ?_ (ih2 fun y hy => hD y (List.mem_cons_of_mem _ hy))
    rw [Int.toNat_natCast]
    exact ih1 (hD x (List.mem_cons_self ..) (by omega))
theorem yi_map2 {rs us : List RuleL} {f : Nat → Nat} {D : Nat → Prop} (hd : ∀ r ∈ rs, ∀ A : Nat, r.1 = (A : Int) → D A → ∀ x ∈ r.2, 0 ≤ x → D x.toNat)
    (hb : ∀ u ∈ us, ∀ A : Nat, D A → u.1 = (f A : Int) → ∃ r ∈ rs, r.1 = (A : Int) ∧ u.2 = r.2.map (mapX f)) {c : Nat ⊕ List Int} {w : List Int} (h : Yi us c w) :
    match c with | .inl B => ∀ A, D A → B = f A → Yi rs (.inl A) w | .inr ys => ∀ xs : List Int, (∀ x ∈ xs, 0 ≤ x → D x.toNat) → ys = xs.map (mapX f) → Yi rs (.inr xs) w := by
  induction h with
  | @rule B r u h1 h2 _ ih =>
    rintro A hA rfl
    obtain ⟨q, hq, hq1, hq2⟩ := hb r h1 A hA h2
    exact .rule hq hq1 (ih q.2 (hd q hq A hq1 hA) hq2)
  | nil =>
    intro xs _ e
    cases xs with
    | nil => exact .nil
    | cons x xs => simp at e
  | @tok y ys u hy _ ih =>
    intro xs hD e
    cases xs with
    | nil => simp at e
    | cons x xs =>
      rw [List.map_cons] at e
      obtain ⟨e1, e2⟩ := List.cons.inj e
      by_cases hx : x < 0
      · rw [mapX_neg hx] at e1
        subst e1
        exact .tok hx (ih xs (fun z hz => hD z (List.mem_cons_of_mem _ hz)) e2)
      · rw [mapX_non hx] at e1
        omega
  | @non y ys u v hy _ _ ih1 ih2 =>
    intro xs hD e
    cases xs with
    | nil => simp at e
    | cons x xs =>
      rw [List.map_cons] at e
      obtain ⟨e1, e2⟩ := List.cons.inj e
      by_cases hx : x < 0
      · rw [mapX_neg hx] at e1
        omega
      · rw [mapX_non hx] at e1
        refine .non hx (ih1 x.toNat (hD x (List.mem_cons_self ..) (by omega)) ?_) (ih2 xs (fun z hz => hD z (List.mem_cons_of_mem _ hz)) e2)
        rw [e1, Int.toNat_natCast]
theorem yi_map {rs us : List RuleL} {f : Nat → Nat} {D : Nat → Prop} (hd : ∀ r ∈ rs, ∀ A : Nat, r.1 = (A : Int) → D A → ∀ x ∈ r.2, 0 ≤ x → D x.toNat)
    (hf : ∀ r ∈ rs, ∀ A : Nat, r.1 = (A : Int) → D A → ((f A : Int), r.2.map (mapX f)) ∈ us)
    (hb : ∀ u ∈ us, ∀ A : Nat, D A → u.1 = (f A : Int) → ∃ r ∈ rs, r.1 = (A : Int) ∧ u.2 = r.2.map (mapX f)) {A : Nat} (hA : D A) {w : List Int} : Yi us (.inl (f A)) w ↔ Yi rs (.inl A) w :=
  ⟨fun h => yi_map2 hd hb h A hA rfl, fun h => yi_map1 hd hf h hA⟩
/-! What derives something, what is reached. -/
inductive Clo (rs : List RuleL) (tok : Bool) : Nat → Prop
  | mk {A : Nat} {r : RuleL} : r ∈ rs → r.1 = (A : Int) → (∀ x ∈ r.2, x < 0 → tok = true) → (∀ x ∈ r.2, ¬ x < 0 → Clo rs tok x.toNat) → Clo rs tok A
/-- Reached from the first nonterminal. -/
inductive Rch (rs : List RuleL) : Nat → Prop
  | zero : Rch rs 0
  | step {A : Nat} {r : RuleL} {x : Int} : r ∈ rs → r.1 = (A : Int) → Rch rs A → x ∈ r.2 → ¬ x < 0 → Rch rs x.toNat
open Classical in
noncomputable def madeR (rs : List RuleL) : List RuleL := rs.filter fun r => decide (∀ x ∈ r.2, ¬ x < 0 → Clo rs true x.toNat)
open Classical in
noncomputable def rchR (rs : List RuleL) : List RuleL := rs.filter fun r => decide (Rch rs r.1.toNat)
noncomputable def usefulR (rs : List RuleL) : List RuleL := rchR (madeR rs)
open Classical in
theorem madeR_mem {rs : List RuleL} {r : RuleL} : r ∈ madeR rs ↔ r ∈ rs ∧ ∀ x ∈ r.2, ¬ x < 0 → Clo rs true x.toNat := by
  unfold madeR
  rw [List.mem_filter, decide_eq_true_eq]
end Go.Sh

/- Contracts: SpansOf. -/
set_option linter.unusedVariables false
set_option linter.unusedSimpArgs false
set_option maxRecDepth 100000
namespace Go.Sh
open Go
end Go.Sh
namespace Go.Proofs.Ytegcjkhebecgbaa
open Go Go.Sh Go.RowKit
section
variable {w : World} {X Z Y : Option Addr} {cx cz cy : Nat} {gm : Gram} {ws xs : List Int} {k : Value → World → Prop}
end
end Go.Proofs.Ytegcjkhebecgbaa

/- Plain: short words are words of the language, in order; rules and spans. -/
set_option linter.unusedVariables false
set_option linter.unusedSimpArgs false
set_option maxRecDepth 100000
namespace Go.Sh
open Go
theorem good_lefts {gm : Gram} (hg : goodG gm = true) : ∀ r ∈ gm.rules, 0 ≤ r.1 := fun r hr => by
  obtain ⟨i, hi, rfl⟩ := List.getElem_of_mem hr
  have := (good_left hg hi).1
  rwa [rul_eq hi] at this
theorem good_rights {gm : Gram} (hg : goodG gm = true) {q : Nat} (hq : q < gm.rules.length) : (rul gm.rules q).2.length ≤ 4 ∧ ∀ x ∈ (rul gm.rules q).2, -gm.toks ≤ x ∧ x ≤ gm.nons - 1 := by
  simp only [goodG, Bool.and_eq_true] at hg
  have h := List.all_eq_true.1 hg.2 q (List.mem_range.2 hq)
  simp only [goodR, Bool.and_eq_true, decide_eq_true_eq] at h
  refine ⟨by have := h.1.1.2; omega, fun x hx => ?_⟩
  have := List.all_eq_true.1 h.1.2 x hx
  simpa [symB, inB] using this
theorem shortV_mem4 {gm : Gram} {most : Int} {x : List Int} (h : x ∈ (shortV gm most).1) : goodG gm = true ∧ x.length ≤ 4 ∧ wordB gm.toks x = true ∧ inL gm.rules x = true := by
  unfold shortV at h
  split at h
  · rename_i hg
    simp only [Bool.and_eq_true, inB, decide_eq_true_eq] at hg
    have hm := shortW_mem h
    have ht := good_toks hg.1
    have h4 : x.length ≤ 4 := by have := hm.1; omega
    refine ⟨hg.1, h4, ?_, ?_⟩
    · simp only [wordB, allB, inB, Bool.and_eq_true, decide_eq_true_eq, List.all_eq_true]
      exact ⟨by omega, fun t htx => by have := hm.2 t htx; omega⟩
    · unfold shortW at h
      obtain ⟨m, _, hx⟩ := List.mem_flatMap.1 h
      exact (List.mem_filter.1 hx).2
  · simp at h
where
  any_congr' {l : List RuleL} {p q : RuleL → Bool} (h : ∀ r ∈ l, p r = q r) : l.any p = l.any q := by
    rw [Bool.eq_iff_iff, List.any_eq_true, List.any_eq_true]
    constructor
    · rintro ⟨r, hr, h1⟩
      exact ⟨r, hr, by rw [← h r hr]; exact h1⟩
    · rintro ⟨r, hr, h1⟩
      exact ⟨r, hr, by rw [h r hr]; exact h1⟩
end Go.Sh

/- Contracts: what derives something, by the reference (l3Close, NullableOf, ProductiveOf). -/
set_option linter.unusedVariables false
set_option linter.unusedSimpArgs false
set_option maxRecDepth 100000
namespace Go.Sh
open Go
def tstC (tok : Bool) (out : List Int) (x : Int) : Bool := (decide (x < 0) && tok) || (decide (0 ≤ x) && decide (x ∈ out))
/-- A set that has what a predicate says at most. -/
structure SetOk (P : Nat → Prop) (nons : Nat) (out : List Int) : Prop where
  rise : RiseI out
  ok : ∀ x ∈ out, ∃ A : Nat, x = A ∧ A < nons ∧ P A
theorem SetOk.len {P : Nat → Prop} {nons : Nat} {out : List Int} (h : SetOk P nons out) : out.length ≤ nons := by
  have := rise_len (a := 0) (n := nons) h.rise (fun x hx => by obtain ⟨A, rfl, h1, _⟩ := h.ok x hx; omega) (by omega)
  omega
theorem SetOk.put {P : Nat → Prop} {nons A : Nat} {out : List Int} (h : SetOk P nons out) (hA : A < nons) (hP : P A) : SetOk P nons (putL (A : Int) out) :=
  ⟨putL_rise h.rise, fun x hx => by
    rcases putL_mem.1 hx with rfl | hx
    · exact ⟨A, rfl, hA, hP⟩
    · exact h.ok x hx⟩
theorem SetOk.eq {P : Nat → Prop} {nons : Nat} {out : List Int} (h : SetOk P nons out) (hc : ∀ A : Nat, A < nons → P A → (A : Int) ∈ out) : out = setL nons P := by
  refine rise_ext h.rise (setL_rise _ _) fun m => ?_
  rw [setL_mem]
  constructor
  · exact fun hm => by
      obtain ⟨A, e, h1, h2⟩ := h.ok m hm
      exact ⟨A, e, h1, h2⟩
  · rintro ⟨A, rfl, h1, h2⟩
    exact hc A h1 h2
theorem SetOk.nil (P : Nat → Prop) (nons : Nat) : SetOk P nons [] := ⟨.nil, fun x hx => by simp at hx⟩
theorem tstC_iff {P : Nat → Prop} {tok : Bool} {nons : Nat} {out : List Int} (h : SetOk P nons out) {xs : List Int} (ha : xs.all (tstC tok out) = true) : (∀ x ∈ xs, x < 0 → tok = true) ∧ ∀ x ∈ xs, ¬ x < 0 → P x.toNat := by
  rw [List.all_eq_true] at ha
  refine ⟨fun x hx h0 => ?_, fun x hx h0 => ?_⟩
  · have := ha x hx
    simp only [tstC, h0, decide_true, Bool.true_and, Bool.or_eq_true, Bool.and_eq_true, decide_eq_true_eq] at this
    rcases this with h1 | h1
    · exact h1
    · omega
  · have := ha x hx
    simp only [tstC, h0, decide_false, Bool.false_and, Bool.false_or, Bool.and_eq_true, decide_eq_true_eq] at this
    obtain ⟨A, e, _, h2⟩ := h.ok x this.2
    rw [e, Int.toNat_natCast]
    exact h2
/-- When no rule adds, nothing is missing. -/
theorem clo_in {rs : List RuleL} {tok : Bool} {out : List Int} (hc : ∀ r ∈ rs, r.1 ∉ out → r.2.all (tstC tok out) = false) {A : Nat} (h : Clo rs tok A) : (A : Int) ∈ out := by
  induction h with
  | @mk A r h1 h2 h3 _ ih =>
    by_cases hm : (A : Int) ∈ out
    · exact hm
    · have := hc r h1 (by rw [h2]; exact hm)
      rw [List.all_eq_false] at this
      obtain ⟨x, hx, hn⟩ := this
      exfalso
      apply hn
      by_cases h0 : x < 0
      · simp [tstC, h0, h3 x hx h0]
      · have := ih x hx h0
        rw [show ((x.toNat : Nat) : Int) = x from by omega] at this
        simp [tstC, h0, this]
        omega
noncomputable def cloV (gm : Gram) (tok : Bool) : List Int := setL gm.nons.toNat (Clo gm.rules tok)
theorem all_take_succ {p : Int → Bool} {xs : List Int} {j : Nat} (h : j < xs.length) : (xs.take (j + 1)).all p = ((xs.take j).all p && p (xs.getD j 0)) := by
  rw [take_snoc h, List.all_append]
  simp
end Go.Sh
namespace Go.Proofs.Ytegcjkhebecgbaa
open Go Go.Sh Go.RowKit
section
variable {w : World} {Y : Option Addr} {cy : Nat} {gm : Gram} {k : Value → World → Prop}
set_option maxHeartbeats 3200000 in
theorem l3Close_c {tok : Bool} (hG : kG Y cy gm.rules w) (hn : 0 ≤ gm.nons ∧ gm.nons ≤ 6) (hl : ∀ r ∈ gm.rules, 0 ≤ r.1 ∧ r.1 < gm.nons) (hr : ∀ r ∈ gm.rules, r.2.length ≤ 1000) (hk : ∀ w' X c, Gr w w' → kI X (cloV gm tok) c w' → k (.slice X (cloV gm tok).length c) w') :
    CallK Try.prog 192 [grv gm Y cy, .bool tok] k w := by
  refine enter192 ?_
  unfold S192
  have H := (Kn.nil w).addG hG.1 hG.2
  refine do_box fun b1 w1 g1 hb B1 => ?_
  have H := (H.step g1).addB B1
  simp only [List.cons_append, List.nil_append] at H
  have hrl := (H.get 1 rfl).2.le
  refine loop_ghost (σ := List Int × Bool) (fun s f w' => (∃ X c, f 5 = .slice X s.1.length c ∧ kI X s.1 c w') ∧ f 6 = .bool s.2 ∧ Gr w1 w' ∧ SetOk (Clo gm.rules tok) gm.nons.toNat s.1 ∧ (s.2 = false → ∀ r ∈ gm.rules, r.1 ∉ s.1 → r.2.all (tstC tok s.1) = false))
    (fun s => if s.2 = true then 8 - s.1.length else 0) ([], true) ⟨⟨none, 0, rfl, ⟨⟨by simp, fun h => by simp at h, fun j hj => by simp at hj⟩, Nat.le_refl _⟩⟩, rfl, Gr.refl _, SetOk.nil _ _, fun h => by cases h⟩ ?_
  rintro ⟨out, more⟩ f w2 N hag ⟨⟨X, c, h5, hX⟩, h6, g, hok, hcl⟩ hN
  dsimp only at h5 hX h6 hok hcl hN
  have f2 : f 2 = ptrv b1 := hag 2 (by decide)
  have f1 : f 1 = .bool tok := hag 1 (by decide)
  simp only [h5, h6, f2, bin_add, bin_sub, bin_mul, bin_eql, bin_neq, bin_lss, bin_leq, bin_gtr, bin_geq, un_not, un_neg, pick_true, pick_false, extract_two_0, extract_two_1, nilCheck_pointer, cond_true', cond_false', guard_tt, guard_ff, guard_tf, guard_ft, guard_undef, seqQ_normal, seqQ_ret, seqQ_exit, blockQ_ret, blockQ_normal, blockQ_exit, bodyQ_ret, bodyQ_normal, resK_nil, resK_tmp, ite_T, ite_F, upd_at, add_plain, add_zero', Nat.reduceEqDiff, fa8_0, fa8_1, fa8_2, fa8_3, fa14_0, fa14_1, fa19_0, len22, len24, fa26_0, fa26_1, fa26_2, len27, fa33_0, fa33_1, len35, fa77_0, fa77_1, fa88_0, fa88_1, fa88_2, fa88_3, fa88_4, fa88_5, fa114_0, fa114_1, fa114_2, fa124_0, fa124_1, len134, len136, len154, fa156_0, fa156_1, fa156_2, fa156_3, fa156_4, fa156_5, fa156_6, fa184_0, fa184_1, fa200_0, fa200_1, fa200_2, fa200_3, fa215_0, fa215_1, fa215_2, fa215_3, fa215_4, len218, len271, fa274_0, fa274_1, fa274_2, fa303_0, fa303_1, fa303_2, fa303_3, fa314_0, fa314_1, fa314_2, fa314_3, fa314_4, fa314_5, fa314_6, fa314_7, fa314_8, fa314_9, fa314_10]
  have H := H.step g
  have hlen := hok.len
  cases more
  · simp only [bin_add, bin_sub, bin_mul, bin_eql, bin_neq, bin_lss, bin_leq, bin_gtr, bin_geq, un_not, un_neg, pick_true, pick_false, extract_two_0, extract_two_1, nilCheck_pointer, cond_true', cond_false', guard_tt, guard_ff, guard_tf, guard_ft, guard_undef, seqQ_normal, seqQ_ret, seqQ_exit, blockQ_ret, blockQ_normal, blockQ_exit, bodyQ_ret, bodyQ_normal, resK_nil, resK_tmp, ite_T, ite_F, upd_at, add_plain, add_zero', Nat.reduceEqDiff, fa8_0, fa8_1, fa8_2, fa8_3, fa14_0, fa14_1, fa19_0, len22, len24, fa26_0, fa26_1, fa26_2, len27, fa33_0, fa33_1, len35, fa77_0, fa77_1, fa88_0, fa88_1, fa88_2, fa88_3, fa88_4, fa88_5, fa114_0, fa114_1, fa114_2, fa124_0, fa124_1, len134, len136, len154, fa156_0, fa156_1, fa156_2, fa156_3, fa156_4, fa156_5, fa156_6, fa184_0, fa184_1, fa200_0, fa200_1, fa200_2, fa200_3, fa215_0, fa215_1, fa215_2, fa215_3, fa215_4, len218, len271, fa274_0, fa274_1, fa274_2, fa303_0, fa303_1, fa303_2, fa303_3, fa314_0, fa314_1, fa314_2, fa314_3, fa314_4, fa314_5, fa314_6, fa314_7, fa314_8, fa314_9, fa314_10]
    have e : out = cloV gm tok := hok.eq fun A _ hA => clo_in (hcl rfl) hA
    subst e
    exact hk _ X c (H.get 0 rfl) hX
  simp only [bin_add, bin_sub, bin_mul, bin_eql, bin_neq, bin_lss, bin_leq, bin_gtr, bin_geq, un_not, un_neg, pick_true, pick_false, extract_two_0, extract_two_1, nilCheck_pointer, cond_true', cond_false', guard_tt, guard_ff, guard_tf, guard_ft, guard_undef, seqQ_normal, seqQ_ret, seqQ_exit, blockQ_ret, blockQ_normal, blockQ_exit, bodyQ_ret, bodyQ_normal, resK_nil, resK_tmp, ite_T, ite_F, upd_at, add_plain, add_zero', Nat.reduceEqDiff, fa8_0, fa8_1, fa8_2, fa8_3, fa14_0, fa14_1, fa19_0, len22, len24, fa26_0, fa26_1, fa26_2, len27, fa33_0, fa33_1, len35, fa77_0, fa77_1, fa88_0, fa88_1, fa88_2, fa88_3, fa88_4, fa88_5, fa114_0, fa114_1, fa114_2, fa124_0, fa124_1, len134, len136, len154, fa156_0, fa156_1, fa156_2, fa156_3, fa156_4, fa156_5, fa156_6, fa184_0, fa184_1, fa200_0, fa200_1, fa200_2, fa200_3, fa215_0, fa215_1, fa215_2, fa215_3, fa215_4, len218, len271, fa274_0, fa274_1, fa274_2, fa303_0, fa303_1, fa303_2, fa303_3, fa314_0, fa314_1, fa314_2, fa314_3, fa314_4, fa314_5, fa314_6, fa314_7, fa314_8, fa314_9, fa314_10]
  rw [ldB24 (H.get 2 rfl) rfl]
  simp only [bin_add, bin_sub, bin_mul, bin_eql, bin_neq, bin_lss, bin_leq, bin_gtr, bin_geq, un_not, un_neg, pick_true, pick_false, extract_two_0, extract_two_1, nilCheck_pointer, cond_true', cond_false', guard_tt, guard_ff, guard_tf, guard_ft, guard_undef, seqQ_normal, seqQ_ret, seqQ_exit, blockQ_ret, blockQ_normal, blockQ_exit, bodyQ_ret, bodyQ_normal, resK_nil, resK_tmp, ite_T, ite_F, upd_at, add_plain, add_zero', Nat.reduceEqDiff, fa8_0, fa8_1, fa8_2, fa8_3, fa14_0, fa14_1, fa19_0, len22, len24, fa26_0, fa26_1, fa26_2, len27, fa33_0, fa33_1, len35, fa77_0, fa77_1, fa88_0, fa88_1, fa88_2, fa88_3, fa88_4, fa88_5, fa114_0, fa114_1, fa114_2, fa124_0, fa124_1, len134, len136, len154, fa156_0, fa156_1, fa156_2, fa156_3, fa156_4, fa156_5, fa156_6, fa184_0, fa184_1, fa200_0, fa200_1, fa200_2, fa200_3, fa215_0, fa215_1, fa215_2, fa215_3, fa215_4, len218, len271, fa274_0, fa274_1, fa274_2, fa303_0, fa303_1, fa303_2, fa303_3, fa314_0, fa314_1, fa314_2, fa314_3, fa314_4, fa314_5, fa314_6, fa314_7, fa314_8, fa314_9, fa314_10]
  refine loop_to gm.rules.length 0 (fun i f w' => i ≤ gm.rules.length ∧ f 16 = .int .i64 (i : Int) ∧ ∃ (X : Option Addr) (c : Nat) (out2 : List Int) (more2 : Bool), f 5 = .slice X out2.length c ∧ kI X out2 c w' ∧ f 6 = .bool more2 ∧ Gr w2 w' ∧ SetOk (Clo gm.rules tok) gm.nons.toNat out2 ∧
      (more2 = false → out2 = out ∧ ∀ q, q < i → (rul gm.rules q).1 ∉ out → (rul gm.rules q).2.all (tstC tok out) = false) ∧ (more2 = true → out.length < out2.length))
    ⟨Nat.zero_le _, rfl, X, c, out, false, h5, hX, rfl, Gr.refl _, hok, fun _ => ⟨rfl, fun q hq => by omega⟩, fun h => by cases h⟩ ?_
  rintro i q w3 N2 hag2 ⟨hi, q16, X, c, out2, more2, q5, hX, q6, g2, hok2, hno, hyes⟩ hN2
  have q14 : q 14 = .slice Y gm.rules.length cy := hag2 14 (by decide)
  have q15 : q 15 = .int .i64 gm.rules.length := hag2 15 (by decide)
  have q1 : q 1 = .bool tok := (hag2 1 (by decide)).trans f1
  simp only [q14, q15, q16, q5, q6, bin_add, bin_sub, bin_mul, bin_eql, bin_neq, bin_lss, bin_leq, bin_gtr, bin_geq, un_not, un_neg, pick_true, pick_false, extract_two_0, extract_two_1, nilCheck_pointer, cond_true', cond_false', guard_tt, guard_ff, guard_tf, guard_ft, guard_undef, seqQ_normal, seqQ_ret, seqQ_exit, blockQ_ret, blockQ_normal, blockQ_exit, bodyQ_ret, bodyQ_normal, resK_nil, resK_tmp, ite_T, ite_F, upd_at, add_plain, add_zero', Nat.reduceEqDiff, fa8_0, fa8_1, fa8_2, fa8_3, fa14_0, fa14_1, fa19_0, len22, len24, fa26_0, fa26_1, fa26_2, len27, fa33_0, fa33_1, len35, fa77_0, fa77_1, fa88_0, fa88_1, fa88_2, fa88_3, fa88_4, fa88_5, fa114_0, fa114_1, fa114_2, fa124_0, fa124_1, len134, len136, len154, fa156_0, fa156_1, fa156_2, fa156_3, fa156_4, fa156_5, fa156_6, fa184_0, fa184_1, fa200_0, fa200_1, fa200_2, fa200_3, fa215_0, fa215_1, fa215_2, fa215_3, fa215_4, len218, len271, fa274_0, fa274_1, fa274_2, fa303_0, fa303_1, fa303_2, fa303_3, fa314_0, fa314_1, fa314_2, fa314_3, fa314_4, fa314_5, fa314_6, fa314_7, fa314_8, fa314_9, fa314_10]
  by_cases hlt : i < gm.rules.length
  case neg =>
    simp only [show ¬ ((i : Int) < (gm.rules.length : Int)) from by omega, decide_false, bin_add, bin_sub, bin_mul, bin_eql, bin_neq, bin_lss, bin_leq, bin_gtr, bin_geq, un_not, un_neg, pick_true, pick_false, extract_two_0, extract_two_1, nilCheck_pointer, cond_true', cond_false', guard_tt, guard_ff, guard_tf, guard_ft, guard_undef, seqQ_normal, seqQ_ret, seqQ_exit, blockQ_ret, blockQ_normal, blockQ_exit, bodyQ_ret, bodyQ_normal, resK_nil, resK_tmp, ite_T, ite_F, upd_at, add_plain, add_zero', Nat.reduceEqDiff, fa8_0, fa8_1, fa8_2, fa8_3, fa14_0, fa14_1, fa19_0, len22, len24, fa26_0, fa26_1, fa26_2, len27, fa33_0, fa33_1, len35, fa77_0, fa77_1, fa88_0, fa88_1, fa88_2, fa88_3, fa88_4, fa88_5, fa114_0, fa114_1, fa114_2, fa124_0, fa124_1, len134, len136, len154, fa156_0, fa156_1, fa156_2, fa156_3, fa156_4, fa156_5, fa156_6, fa184_0, fa184_1, fa200_0, fa200_1, fa200_2, fa200_3, fa215_0, fa215_1, fa215_2, fa215_3, fa215_4, len218, len271, fa274_0, fa274_1, fa274_2, fa303_0, fa303_1, fa303_2, fa303_3, fa314_0, fa314_1, fa314_2, fa314_3, fa314_4, fa314_5, fa314_6, fa314_7, fa314_8, fa314_9, fa314_10]
    refine hN (out2, more2) _ _ ⟨⟨X, c, q5, hX⟩, q6, gr_trans g g2, hok2, fun hm r hr' hnot => ?_⟩ ?_
    · dsimp only at hm ⊢
      obtain ⟨e, hall⟩ := hno hm
      subst e
      obtain ⟨z, hz, rfl⟩ := List.getElem_of_mem hr'
      have := hall z (by omega)
      rw [rul_eq hz] at this
      exact this hnot
    · cases more2
      · simp
        omega
      · have := hyes rfl
        have := hok2.len
        simp
        omega
  simp only [show ((i : Int) < (gm.rules.length : Int)) from by omega, decide_true, bin_add, bin_sub, bin_mul, bin_eql, bin_neq, bin_lss, bin_leq, bin_gtr, bin_geq, un_not, un_neg, pick_true, pick_false, extract_two_0, extract_two_1, nilCheck_pointer, cond_true', cond_false', guard_tt, guard_ff, guard_tf, guard_ft, guard_undef, seqQ_normal, seqQ_ret, seqQ_exit, blockQ_ret, blockQ_normal, blockQ_exit, bodyQ_ret, bodyQ_normal, resK_nil, resK_tmp, ite_T, ite_F, upd_at, add_plain, add_zero', Nat.reduceEqDiff, fa8_0, fa8_1, fa8_2, fa8_3, fa14_0, fa14_1, fa19_0, len22, len24, fa26_0, fa26_1, fa26_2, len27, fa33_0, fa33_1, len35, fa77_0, fa77_1, fa88_0, fa88_1, fa88_2, fa88_3, fa88_4, fa88_5, fa114_0, fa114_1, fa114_2, fa124_0, fa124_1, len134, len136, len154, fa156_0, fa156_1, fa156_2, fa156_3, fa156_4, fa156_5, fa156_6, fa184_0, fa184_1, fa200_0, fa200_1, fa200_2, fa200_3, fa215_0, fa215_1, fa215_2, fa215_3, fa215_4, len218, len271, fa274_0, fa274_1, fa274_2, fa303_0, fa303_1, fa303_2, fa303_3, fa314_0, fa314_1, fa314_2, fa314_3, fa314_4, fa314_5, fa314_6, fa314_7, fa314_8, fa314_9, fa314_10]
  have hrm : rul gm.rules i ∈ gm.rules := by rw [rul_eq hlt]; exact List.getElem_mem hlt
  have H := H.step g2
  have H := H.addI hX.1 hX.2
  simp only [List.cons_append, List.nil_append] at H
  refine join_as (fun f w' => f 16 = .int .i64 (i : Int) ∧ ∃ (X : Option Addr) (c : Nat) (out2 : List Int) (more2 : Bool), f 5 = .slice X out2.length c ∧ kI X out2 c w' ∧ f 6 = .bool more2 ∧ Gr w2 w' ∧ SetOk (Clo gm.rules tok) gm.nons.toNat out2 ∧
      (more2 = false → out2 = out ∧ ∀ q, q < i + 1 → (rul gm.rules q).1 ∉ out → (rul gm.rules q).2.all (tstC tok out) = false) ∧ (more2 = true → out.length < out2.length)) (fun K hK => ?_) ?_
  case refine_2 =>
    rintro f w' ⟨f16, h⟩
    simp only [f16, bin_add, bin_sub, bin_mul, bin_eql, bin_neq, bin_lss, bin_leq, bin_gtr, bin_geq, un_not, un_neg, pick_true, pick_false, extract_two_0, extract_two_1, nilCheck_pointer, cond_true', cond_false', guard_tt, guard_ff, guard_tf, guard_ft, guard_undef, seqQ_normal, seqQ_ret, seqQ_exit, blockQ_ret, blockQ_normal, blockQ_exit, bodyQ_ret, bodyQ_normal, resK_nil, resK_tmp, ite_T, ite_F, upd_at, add_plain, add_zero', Nat.reduceEqDiff, fa8_0, fa8_1, fa8_2, fa8_3, fa14_0, fa14_1, fa19_0, len22, len24, fa26_0, fa26_1, fa26_2, len27, fa33_0, fa33_1, len35, fa77_0, fa77_1, fa88_0, fa88_1, fa88_2, fa88_3, fa88_4, fa88_5, fa114_0, fa114_1, fa114_2, fa124_0, fa124_1, len134, len136, len154, fa156_0, fa156_1, fa156_2, fa156_3, fa156_4, fa156_5, fa156_6, fa184_0, fa184_1, fa200_0, fa200_1, fa200_2, fa200_3, fa215_0, fa215_1, fa215_2, fa215_3, fa215_4, len218, len271, fa274_0, fa274_1, fa274_2, fa303_0, fa303_1, fa303_2, fa303_3, fa314_0, fa314_1, fa314_2, fa314_3, fa314_4, fa314_5, fa314_6, fa314_7, fa314_8, fa314_9, fa314_10]
    rw [i64_of (by omega) (by omega)]
    exact hN2 _ _ hlt ⟨by omega, rfl, h⟩
  have H := H.add (P := fun w' => Gr w2 w') fun w' g' => gr_trans g2 g'
  simp only [List.cons_append, List.nil_append] at H
  have hRF := (H.get 1 rfl).2
  refine rdi (ixn24 hRF.ptr hlt) ?_
  refine ld_rule agg33 sz33 hRF hlt fun v hv => ?_
  obtain ⟨Z, cz, rfl, hcz, hZ⟩ := hv
  have H := H.addI hZ.is hcz
  refine newR H fun b9 w4 H => ?_
  simp only [List.cons_append, List.nil_append] at H
  simp only [bin_add, bin_sub, bin_mul, bin_eql, bin_neq, bin_lss, bin_leq, bin_gtr, bin_geq, un_not, un_neg, pick_true, pick_false, extract_two_0, extract_two_1, nilCheck_pointer, cond_true', cond_false', guard_tt, guard_ff, guard_tf, guard_ft, guard_undef, seqQ_normal, seqQ_ret, seqQ_exit, blockQ_ret, blockQ_normal, blockQ_exit, bodyQ_ret, bodyQ_normal, resK_nil, resK_tmp, ite_T, ite_F, upd_at, add_plain, add_zero', Nat.reduceEqDiff, fa8_0, fa8_1, fa8_2, fa8_3, fa14_0, fa14_1, fa19_0, len22, len24, fa26_0, fa26_1, fa26_2, len27, fa33_0, fa33_1, len35, fa77_0, fa77_1, fa88_0, fa88_1, fa88_2, fa88_3, fa88_4, fa88_5, fa114_0, fa114_1, fa114_2, fa124_0, fa124_1, len134, len136, len154, fa156_0, fa156_1, fa156_2, fa156_3, fa156_4, fa156_5, fa156_6, fa184_0, fa184_1, fa200_0, fa200_1, fa200_2, fa200_3, fa215_0, fa215_1, fa215_2, fa215_3, fa215_4, len218, len271, fa274_0, fa274_1, fa274_2, fa303_0, fa303_1, fa303_2, fa303_3, fa314_0, fa314_1, fa314_2, fa314_3, fa314_4, fa314_5, fa314_6, fa314_7, fa314_8, fa314_9, fa314_10]
  rw [ldB3 (H.get 6 rfl) rfl]
  refine l1Has_c (H.get 3 rfl).1 fun w5 g5 => ?_
  have H := H.step g5
  simp only [bin_add, bin_sub, bin_mul, bin_eql, bin_neq, bin_lss, bin_leq, bin_gtr, bin_geq, un_not, un_neg, pick_true, pick_false, extract_two_0, extract_two_1, nilCheck_pointer, cond_true', cond_false', guard_tt, guard_ff, guard_tf, guard_ft, guard_undef, seqQ_normal, seqQ_ret, seqQ_exit, blockQ_ret, blockQ_normal, blockQ_exit, bodyQ_ret, bodyQ_normal, resK_nil, resK_tmp, ite_T, ite_F, upd_at, add_plain, add_zero', Nat.reduceEqDiff, fa8_0, fa8_1, fa8_2, fa8_3, fa14_0, fa14_1, fa19_0, len22, len24, fa26_0, fa26_1, fa26_2, len27, fa33_0, fa33_1, len35, fa77_0, fa77_1, fa88_0, fa88_1, fa88_2, fa88_3, fa88_4, fa88_5, fa114_0, fa114_1, fa114_2, fa124_0, fa124_1, len134, len136, len154, fa156_0, fa156_1, fa156_2, fa156_3, fa156_4, fa156_5, fa156_6, fa184_0, fa184_1, fa200_0, fa200_1, fa200_2, fa200_3, fa215_0, fa215_1, fa215_2, fa215_3, fa215_4, len218, len271, fa274_0, fa274_1, fa274_2, fa303_0, fa303_1, fa303_2, fa303_3, fa314_0, fa314_1, fa314_2, fa314_3, fa314_4, fa314_5, fa314_6, fa314_7, fa314_8, fa314_9, fa314_10]
  rw [ldB27 (H.get 6 rfl) rfl]
  simp only [bin_add, bin_sub, bin_mul, bin_eql, bin_neq, bin_lss, bin_leq, bin_gtr, bin_geq, un_not, un_neg, pick_true, pick_false, extract_two_0, extract_two_1, nilCheck_pointer, cond_true', cond_false', guard_tt, guard_ff, guard_tf, guard_ft, guard_undef, seqQ_normal, seqQ_ret, seqQ_exit, blockQ_ret, blockQ_normal, blockQ_exit, bodyQ_ret, bodyQ_normal, resK_nil, resK_tmp, ite_T, ite_F, upd_at, add_plain, add_zero', Nat.reduceEqDiff, fa8_0, fa8_1, fa8_2, fa8_3, fa14_0, fa14_1, fa19_0, len22, len24, fa26_0, fa26_1, fa26_2, len27, fa33_0, fa33_1, len35, fa77_0, fa77_1, fa88_0, fa88_1, fa88_2, fa88_3, fa88_4, fa88_5, fa114_0, fa114_1, fa114_2, fa124_0, fa124_1, len134, len136, len154, fa156_0, fa156_1, fa156_2, fa156_3, fa156_4, fa156_5, fa156_6, fa184_0, fa184_1, fa200_0, fa200_1, fa200_2, fa200_3, fa215_0, fa215_1, fa215_2, fa215_3, fa215_4, len218, len271, fa274_0, fa274_1, fa274_2, fa303_0, fa303_1, fa303_2, fa303_3, fa314_0, fa314_1, fa314_2, fa314_3, fa314_4, fa314_5, fa314_6, fa314_7, fa314_8, fa314_9, fa314_10]
  have hr2 := hr _ hrm
  refine loop_to (rul gm.rules i).2.length 0 (fun j f w' => j ≤ (rul gm.rules i).2.length ∧ f 28 = .int .i64 (j : Int) ∧ f 9 = .bool ((!decide ((rul gm.rules i).1 ∈ out2)) && ((rul gm.rules i).2.take j).all (tstC tok out2)) ∧ Gr w5 w')
    ⟨Nat.zero_le _, rfl, by simp; rfl, Gr.refl _⟩ ?_
  rintro j r w6 N3 hag3 ⟨hj, r28, r9, g6⟩ hN3
  have r1 : r 1 = .bool tok := (hag3 1 (by decide)).trans q1
  have r5 : r 5 = .slice X out2.length c := (hag3 5 (by decide)).trans q5
  have r6 : r 6 = .bool more2 := (hag3 6 (by decide)).trans q6
  have r8 : r 8 = ptrv b9 := hag3 8 (by decide)
  have r16 : r 16 = .int .i64 (i : Int) := (hag3 16 (by decide)).trans q16
  have r26 : r 26 = .slice Z (rul gm.rules i).2.length cz := hag3 26 (by decide)
  have r27 : r 27 = .int .i64 ((rul gm.rules i).2.length : Int) := hag3 27 (by decide)
  simp only [r1, r5, r6, r8, r9, r26, r27, r28, bin_add, bin_sub, bin_mul, bin_eql, bin_neq, bin_lss, bin_leq, bin_gtr, bin_geq, un_not, un_neg, pick_true, pick_false, extract_two_0, extract_two_1, nilCheck_pointer, cond_true', cond_false', guard_tt, guard_ff, guard_tf, guard_ft, guard_undef, seqQ_normal, seqQ_ret, seqQ_exit, blockQ_ret, blockQ_normal, blockQ_exit, bodyQ_ret, bodyQ_normal, resK_nil, resK_tmp, ite_T, ite_F, upd_at, add_plain, add_zero', Nat.reduceEqDiff, fa8_0, fa8_1, fa8_2, fa8_3, fa14_0, fa14_1, fa19_0, len22, len24, fa26_0, fa26_1, fa26_2, len27, fa33_0, fa33_1, len35, fa77_0, fa77_1, fa88_0, fa88_1, fa88_2, fa88_3, fa88_4, fa88_5, fa114_0, fa114_1, fa114_2, fa124_0, fa124_1, len134, len136, len154, fa156_0, fa156_1, fa156_2, fa156_3, fa156_4, fa156_5, fa156_6, fa184_0, fa184_1, fa200_0, fa200_1, fa200_2, fa200_3, fa215_0, fa215_1, fa215_2, fa215_3, fa215_4, len218, len271, fa274_0, fa274_1, fa274_2, fa303_0, fa303_1, fa303_2, fa303_3, fa314_0, fa314_1, fa314_2, fa314_3, fa314_4, fa314_5, fa314_6, fa314_7, fa314_8, fa314_9, fa314_10]
  have H := H.step g6
  by_cases hlt2 : j < (rul gm.rules i).2.length
  case neg =>
    simp only [show ¬ ((j : Int) < ((rul gm.rules i).2.length : Int)) from by omega, decide_false, r5, r6, r8, r9, bin_add, bin_sub, bin_mul, bin_eql, bin_neq, bin_lss, bin_leq, bin_gtr, bin_geq, un_not, un_neg, pick_true, pick_false, extract_two_0, extract_two_1, nilCheck_pointer, cond_true', cond_false', guard_tt, guard_ff, guard_tf, guard_ft, guard_undef, seqQ_normal, seqQ_ret, seqQ_exit, blockQ_ret, blockQ_normal, blockQ_exit, bodyQ_ret, bodyQ_normal, resK_nil, resK_tmp, ite_T, ite_F, upd_at, add_plain, add_zero', Nat.reduceEqDiff, fa8_0, fa8_1, fa8_2, fa8_3, fa14_0, fa14_1, fa19_0, len22, len24, fa26_0, fa26_1, fa26_2, len27, fa33_0, fa33_1, len35, fa77_0, fa77_1, fa88_0, fa88_1, fa88_2, fa88_3, fa88_4, fa88_5, fa114_0, fa114_1, fa114_2, fa124_0, fa124_1, len134, len136, len154, fa156_0, fa156_1, fa156_2, fa156_3, fa156_4, fa156_5, fa156_6, fa184_0, fa184_1, fa200_0, fa200_1, fa200_2, fa200_3, fa215_0, fa215_1, fa215_2, fa215_3, fa215_4, len218, len271, fa274_0, fa274_1, fa274_2, fa303_0, fa303_1, fa303_2, fa303_3, fa314_0, fa314_1, fa314_2, fa314_3, fa314_4, fa314_5, fa314_6, fa314_7, fa314_8, fa314_9, fa314_10]
    rw [List.take_of_length_le (by omega)]
    cases hfire : ((!decide ((rul gm.rules i).1 ∈ out2)) && (rul gm.rules i).2.all (tstC tok out2))
    · simp only [bin_add, bin_sub, bin_mul, bin_eql, bin_neq, bin_lss, bin_leq, bin_gtr, bin_geq, un_not, un_neg, pick_true, pick_false, extract_two_0, extract_two_1, nilCheck_pointer, cond_true', cond_false', guard_tt, guard_ff, guard_tf, guard_ft, guard_undef, seqQ_normal, seqQ_ret, seqQ_exit, blockQ_ret, blockQ_normal, blockQ_exit, bodyQ_ret, bodyQ_normal, resK_nil, resK_tmp, ite_T, ite_F, upd_at, add_plain, add_zero', Nat.reduceEqDiff, fa8_0, fa8_1, fa8_2, fa8_3, fa14_0, fa14_1, fa19_0, len22, len24, fa26_0, fa26_1, fa26_2, len27, fa33_0, fa33_1, len35, fa77_0, fa77_1, fa88_0, fa88_1, fa88_2, fa88_3, fa88_4, fa88_5, fa114_0, fa114_1, fa114_2, fa124_0, fa124_1, len134, len136, len154, fa156_0, fa156_1, fa156_2, fa156_3, fa156_4, fa156_5, fa156_6, fa184_0, fa184_1, fa200_0, fa200_1, fa200_2, fa200_3, fa215_0, fa215_1, fa215_2, fa215_3, fa215_4, len218, len271, fa274_0, fa274_1, fa274_2, fa303_0, fa303_1, fa303_2, fa303_3, fa314_0, fa314_1, fa314_2, fa314_3, fa314_4, fa314_5, fa314_6, fa314_7, fa314_8, fa314_9, fa314_10]
      refine hK _ _ ⟨r16, X, c, out2, more2, r5, H.get 3 rfl, r6, H.get 4 rfl, hok2, fun hm => ⟨(hno hm).1, fun z hz hnot => ?_⟩, hyes⟩
      rcases Nat.lt_succ_iff_lt_or_eq.1 hz with hz | rfl
      · exact (hno hm).2 z hz hnot
      · obtain ⟨e, _⟩ := hno hm
        subst e
        rw [decide_eq_false hnot] at hfire
        simpa using hfire
    · simp only [bin_add, bin_sub, bin_mul, bin_eql, bin_neq, bin_lss, bin_leq, bin_gtr, bin_geq, un_not, un_neg, pick_true, pick_false, extract_two_0, extract_two_1, nilCheck_pointer, cond_true', cond_false', guard_tt, guard_ff, guard_tf, guard_ft, guard_undef, seqQ_normal, seqQ_ret, seqQ_exit, blockQ_ret, blockQ_normal, blockQ_exit, bodyQ_ret, bodyQ_normal, resK_nil, resK_tmp, ite_T, ite_F, upd_at, add_plain, add_zero', Nat.reduceEqDiff, fa8_0, fa8_1, fa8_2, fa8_3, fa14_0, fa14_1, fa19_0, len22, len24, fa26_0, fa26_1, fa26_2, len27, fa33_0, fa33_1, len35, fa77_0, fa77_1, fa88_0, fa88_1, fa88_2, fa88_3, fa88_4, fa88_5, fa114_0, fa114_1, fa114_2, fa124_0, fa124_1, len134, len136, len154, fa156_0, fa156_1, fa156_2, fa156_3, fa156_4, fa156_5, fa156_6, fa184_0, fa184_1, fa200_0, fa200_1, fa200_2, fa200_3, fa215_0, fa215_1, fa215_2, fa215_3, fa215_4, len218, len271, fa274_0, fa274_1, fa274_2, fa303_0, fa303_1, fa303_2, fa303_3, fa314_0, fa314_1, fa314_2, fa314_3, fa314_4, fa314_5, fa314_6, fa314_7, fa314_8, fa314_9, fa314_10]
      rw [ldB3 (H.get 6 rfl) rfl]
      have hlen2 := hok2.len
      refine l1Put_c (H.get 3 rfl) (by omega) fun w7 X' c' g7 hX' => ?_
      have H := H.step g7
      simp only [Bool.and_eq_true, Bool.not_eq_true', decide_eq_false_iff_not] at hfire
      have hb := hl _ hrm
      have hti := tstC_iff hok2 hfire.2
      have hP : Clo gm.rules tok (rul gm.rules i).1.toNat := .mk hrm (by omega) hti.1 hti.2
      have hput := hok2.put (A := (rul gm.rules i).1.toNat) (by omega) hP
      rw [show (((rul gm.rules i).1.toNat : Nat) : Int) = (rul gm.rules i).1 from by omega] at hput
      have hpl := putL_more hok2.rise hfire.1
      refine hK _ _ ⟨r16, X', c', _, true, rfl, hX', rfl, H.get 4 rfl, hput, (fun h => by cases h), fun _ => ?_⟩
      cases more2
      · rw [(hno rfl).1] at hpl
        rw [(hno rfl).1]
        omega
      · have := hyes rfl
        omega
  simp only [show ((j : Int) < ((rul gm.rules i).2.length : Int)) from by omega, decide_true, bin_add, bin_sub, bin_mul, bin_eql, bin_neq, bin_lss, bin_leq, bin_gtr, bin_geq, un_not, un_neg, pick_true, pick_false, extract_two_0, extract_two_1, nilCheck_pointer, cond_true', cond_false', guard_tt, guard_ff, guard_tf, guard_ft, guard_undef, seqQ_normal, seqQ_ret, seqQ_exit, blockQ_ret, blockQ_normal, blockQ_exit, bodyQ_ret, bodyQ_normal, resK_nil, resK_tmp, ite_T, ite_F, upd_at, add_plain, add_zero', Nat.reduceEqDiff, fa8_0, fa8_1, fa8_2, fa8_3, fa14_0, fa14_1, fa19_0, len22, len24, fa26_0, fa26_1, fa26_2, len27, fa33_0, fa33_1, len35, fa77_0, fa77_1, fa88_0, fa88_1, fa88_2, fa88_3, fa88_4, fa88_5, fa114_0, fa114_1, fa114_2, fa124_0, fa124_1, len134, len136, len154, fa156_0, fa156_1, fa156_2, fa156_3, fa156_4, fa156_5, fa156_6, fa184_0, fa184_1, fa200_0, fa200_1, fa200_2, fa200_3, fa215_0, fa215_1, fa215_2, fa215_3, fa215_4, len218, len271, fa274_0, fa274_1, fa274_2, fa303_0, fa303_1, fa303_2, fa303_3, fa314_0, fa314_1, fa314_2, fa314_3, fa314_4, fa314_5, fa314_6, fa314_7, fa314_8, fa314_9, fa314_10]
  have hZ' := (H.get 5 rfl).1
  refine rdi (ixn27 hZ'.ptr hlt2) (rdi (ld3 (hZ'.cell j hlt2)) ?_)
  have hall := all_take_succ (p := tstC tok out2) hlt2
  have hle27 := hZ'.le
  generalize hx : (rul gm.rules i).2.getD j 0 = x at *
  have step : ∀ (bb : Bool) (w' : World) (f' : F), Gr w6 w' → f' 28 = .int .i64 ((j : Int) + 1) → f' 9 = .bool bb → bb = ((!decide ((rul gm.rules i).1 ∈ out2)) && ((rul gm.rules i).2.take (j + 1)).all (tstC tok out2)) → N3 f' w' := fun bb w' f' g' e1 e2 e3 => by
    refine hN3 f' w' hlt2 ⟨by omega, by rw [e1]; rfl, by rw [e2, e3], gr_trans g6 g'⟩
  cases hacc : ((!decide ((rul gm.rules i).1 ∈ out2)) && ((rul gm.rules i).2.take j).all (tstC tok out2))
  · simp only [bin_add, bin_sub, bin_mul, bin_eql, bin_neq, bin_lss, bin_leq, bin_gtr, bin_geq, un_not, un_neg, pick_true, pick_false, extract_two_0, extract_two_1, nilCheck_pointer, cond_true', cond_false', guard_tt, guard_ff, guard_tf, guard_ft, guard_undef, seqQ_normal, seqQ_ret, seqQ_exit, blockQ_ret, blockQ_normal, blockQ_exit, bodyQ_ret, bodyQ_normal, resK_nil, resK_tmp, ite_T, ite_F, upd_at, add_plain, add_zero', Nat.reduceEqDiff, fa8_0, fa8_1, fa8_2, fa8_3, fa14_0, fa14_1, fa19_0, len22, len24, fa26_0, fa26_1, fa26_2, len27, fa33_0, fa33_1, len35, fa77_0, fa77_1, fa88_0, fa88_1, fa88_2, fa88_3, fa88_4, fa88_5, fa114_0, fa114_1, fa114_2, fa124_0, fa124_1, len134, len136, len154, fa156_0, fa156_1, fa156_2, fa156_3, fa156_4, fa156_5, fa156_6, fa184_0, fa184_1, fa200_0, fa200_1, fa200_2, fa200_3, fa215_0, fa215_1, fa215_2, fa215_3, fa215_4, len218, len271, fa274_0, fa274_1, fa274_2, fa303_0, fa303_1, fa303_2, fa303_3, fa314_0, fa314_1, fa314_2, fa314_3, fa314_4, fa314_5, fa314_6, fa314_7, fa314_8, fa314_9, fa314_10]
    rw [i64_of (by omega) (by omega)]
    refine step false _ _ (Gr.refl _) rfl rfl ?_
    rw [hall, ← Bool.and_assoc, hacc, Bool.false_and]
  · simp only [bin_add, bin_sub, bin_mul, bin_eql, bin_neq, bin_lss, bin_leq, bin_gtr, bin_geq, un_not, un_neg, pick_true, pick_false, extract_two_0, extract_two_1, nilCheck_pointer, cond_true', cond_false', guard_tt, guard_ff, guard_tf, guard_ft, guard_undef, seqQ_normal, seqQ_ret, seqQ_exit, blockQ_ret, blockQ_normal, blockQ_exit, bodyQ_ret, bodyQ_normal, resK_nil, resK_tmp, ite_T, ite_F, upd_at, add_plain, add_zero', Nat.reduceEqDiff, fa8_0, fa8_1, fa8_2, fa8_3, fa14_0, fa14_1, fa19_0, len22, len24, fa26_0, fa26_1, fa26_2, len27, fa33_0, fa33_1, len35, fa77_0, fa77_1, fa88_0, fa88_1, fa88_2, fa88_3, fa88_4, fa88_5, fa114_0, fa114_1, fa114_2, fa124_0, fa124_1, len134, len136, len154, fa156_0, fa156_1, fa156_2, fa156_3, fa156_4, fa156_5, fa156_6, fa184_0, fa184_1, fa200_0, fa200_1, fa200_2, fa200_3, fa215_0, fa215_1, fa215_2, fa215_3, fa215_4, len218, len271, fa274_0, fa274_1, fa274_2, fa303_0, fa303_1, fa303_2, fa303_3, fa314_0, fa314_1, fa314_2, fa314_3, fa314_4, fa314_5, fa314_6, fa314_7, fa314_8, fa314_9, fa314_10]
    by_cases hx0 : x < 0
    · simp only [hx0, decide_true, bin_add, bin_sub, bin_mul, bin_eql, bin_neq, bin_lss, bin_leq, bin_gtr, bin_geq, un_not, un_neg, pick_true, pick_false, extract_two_0, extract_two_1, nilCheck_pointer, cond_true', cond_false', guard_tt, guard_ff, guard_tf, guard_ft, guard_undef, seqQ_normal, seqQ_ret, seqQ_exit, blockQ_ret, blockQ_normal, blockQ_exit, bodyQ_ret, bodyQ_normal, resK_nil, resK_tmp, ite_T, ite_F, upd_at, add_plain, add_zero', Nat.reduceEqDiff, fa8_0, fa8_1, fa8_2, fa8_3, fa14_0, fa14_1, fa19_0, len22, len24, fa26_0, fa26_1, fa26_2, len27, fa33_0, fa33_1, len35, fa77_0, fa77_1, fa88_0, fa88_1, fa88_2, fa88_3, fa88_4, fa88_5, fa114_0, fa114_1, fa114_2, fa124_0, fa124_1, len134, len136, len154, fa156_0, fa156_1, fa156_2, fa156_3, fa156_4, fa156_5, fa156_6, fa184_0, fa184_1, fa200_0, fa200_1, fa200_2, fa200_3, fa215_0, fa215_1, fa215_2, fa215_3, fa215_4, len218, len271, fa274_0, fa274_1, fa274_2, fa303_0, fa303_1, fa303_2, fa303_3, fa314_0, fa314_1, fa314_2, fa314_3, fa314_4, fa314_5, fa314_6, fa314_7, fa314_8, fa314_9, fa314_10]
      cases tok
      · simp only [show ¬ ((0 : Int) ≤ x) from by omega, decide_false, bin_add, bin_sub, bin_mul, bin_eql, bin_neq, bin_lss, bin_leq, bin_gtr, bin_geq, un_not, un_neg, pick_true, pick_false, extract_two_0, extract_two_1, nilCheck_pointer, cond_true', cond_false', guard_tt, guard_ff, guard_tf, guard_ft, guard_undef, seqQ_normal, seqQ_ret, seqQ_exit, blockQ_ret, blockQ_normal, blockQ_exit, bodyQ_ret, bodyQ_normal, resK_nil, resK_tmp, ite_T, ite_F, upd_at, add_plain, add_zero', Nat.reduceEqDiff, fa8_0, fa8_1, fa8_2, fa8_3, fa14_0, fa14_1, fa19_0, len22, len24, fa26_0, fa26_1, fa26_2, len27, fa33_0, fa33_1, len35, fa77_0, fa77_1, fa88_0, fa88_1, fa88_2, fa88_3, fa88_4, fa88_5, fa114_0, fa114_1, fa114_2, fa124_0, fa124_1, len134, len136, len154, fa156_0, fa156_1, fa156_2, fa156_3, fa156_4, fa156_5, fa156_6, fa184_0, fa184_1, fa200_0, fa200_1, fa200_2, fa200_3, fa215_0, fa215_1, fa215_2, fa215_3, fa215_4, len218, len271, fa274_0, fa274_1, fa274_2, fa303_0, fa303_1, fa303_2, fa303_3, fa314_0, fa314_1, fa314_2, fa314_3, fa314_4, fa314_5, fa314_6, fa314_7, fa314_8, fa314_9, fa314_10]
        rw [i64_of (by omega) (by omega)]
        refine step false _ _ (Gr.refl _) rfl rfl ?_
        rw [hall, ← Bool.and_assoc, hacc]
        simp [tstC, hx0]
        omega
      · simp only [bin_add, bin_sub, bin_mul, bin_eql, bin_neq, bin_lss, bin_leq, bin_gtr, bin_geq, un_not, un_neg, pick_true, pick_false, extract_two_0, extract_two_1, nilCheck_pointer, cond_true', cond_false', guard_tt, guard_ff, guard_tf, guard_ft, guard_undef, seqQ_normal, seqQ_ret, seqQ_exit, blockQ_ret, blockQ_normal, blockQ_exit, bodyQ_ret, bodyQ_normal, resK_nil, resK_tmp, ite_T, ite_F, upd_at, add_plain, add_zero', Nat.reduceEqDiff, fa8_0, fa8_1, fa8_2, fa8_3, fa14_0, fa14_1, fa19_0, len22, len24, fa26_0, fa26_1, fa26_2, len27, fa33_0, fa33_1, len35, fa77_0, fa77_1, fa88_0, fa88_1, fa88_2, fa88_3, fa88_4, fa88_5, fa114_0, fa114_1, fa114_2, fa124_0, fa124_1, len134, len136, len154, fa156_0, fa156_1, fa156_2, fa156_3, fa156_4, fa156_5, fa156_6, fa184_0, fa184_1, fa200_0, fa200_1, fa200_2, fa200_3, fa215_0, fa215_1, fa215_2, fa215_3, fa215_4, len218, len271, fa274_0, fa274_1, fa274_2, fa303_0, fa303_1, fa303_2, fa303_3, fa314_0, fa314_1, fa314_2, fa314_3, fa314_4, fa314_5, fa314_6, fa314_7, fa314_8, fa314_9, fa314_10]
        rw [i64_of (by omega) (by omega)]
        refine step true _ _ (Gr.refl _) rfl rfl ?_
        rw [hall, ← Bool.and_assoc, hacc]
        simp [tstC, hx0]
    · simp only [hx0, decide_false, show ((0 : Int) ≤ x) from by omega, decide_true, bin_add, bin_sub, bin_mul, bin_eql, bin_neq, bin_lss, bin_leq, bin_gtr, bin_geq, un_not, un_neg, pick_true, pick_false, extract_two_0, extract_two_1, nilCheck_pointer, cond_true', cond_false', guard_tt, guard_ff, guard_tf, guard_ft, guard_undef, seqQ_normal, seqQ_ret, seqQ_exit, blockQ_ret, blockQ_normal, blockQ_exit, bodyQ_ret, bodyQ_normal, resK_nil, resK_tmp, ite_T, ite_F, upd_at, add_plain, add_zero', Nat.reduceEqDiff, fa8_0, fa8_1, fa8_2, fa8_3, fa14_0, fa14_1, fa19_0, len22, len24, fa26_0, fa26_1, fa26_2, len27, fa33_0, fa33_1, len35, fa77_0, fa77_1, fa88_0, fa88_1, fa88_2, fa88_3, fa88_4, fa88_5, fa114_0, fa114_1, fa114_2, fa124_0, fa124_1, len134, len136, len154, fa156_0, fa156_1, fa156_2, fa156_3, fa156_4, fa156_5, fa156_6, fa184_0, fa184_1, fa200_0, fa200_1, fa200_2, fa200_3, fa215_0, fa215_1, fa215_2, fa215_3, fa215_4, len218, len271, fa274_0, fa274_1, fa274_2, fa303_0, fa303_1, fa303_2, fa303_3, fa314_0, fa314_1, fa314_2, fa314_3, fa314_4, fa314_5, fa314_6, fa314_7, fa314_8, fa314_9, fa314_10]
      refine l1Has_c (H.get 3 rfl).1 fun w7 g7 => ?_
      rw [i64_of (by omega) (by omega)]
      refine step (decide (x ∈ out2)) _ _ g7 rfl rfl ?_
      rw [hall, ← Bool.and_assoc, hacc]
      simp [tstC, hx0]
      omega
end
end Go.Proofs.Ytegcjkhebecgbaa

/- Contracts: what is reached, what grows, by the reference (l3Reached, l3Growing). -/
set_option linter.unusedVariables false
set_option linter.unusedSimpArgs false
set_option maxRecDepth 100000
namespace Go.Sh
open Go
noncomputable def rchV (gm : Gram) : List Int := setL gm.nons.toNat (Rch gm.rules)
theorem rch_in {rs : List RuleL} {out : List Int} (h0 : (0 : Int) ∈ out) (hc : ∀ r ∈ rs, r.1 ∈ out → ∀ x ∈ r.2, ¬ x < 0 → x ∈ out) {A : Nat} (h : Rch rs A) : (A : Int) ∈ out := by
  induction h with
  | zero => exact h0
  | @step A r x h1 h2 _ h4 h5 ih =>
    rw [show ((x.toNat : Nat) : Int) = x from by omega]
    exact hc r h1 (by rw [h2]; exact ih) x h4 h5
/-- Derives some word that is not empty. -/
inductive Gro (rs : List RuleL) : Nat → Prop
  | tok {A : Nat} {r : RuleL} {x : Int} : r ∈ rs → r.1 = (A : Int) → (∀ x ∈ r.2, ¬ x < 0 → Clo rs true x.toNat) → x ∈ r.2 → x < 0 → Gro rs A
  | non {A : Nat} {r : RuleL} {x : Int} : r ∈ rs → r.1 = (A : Int) → (∀ x ∈ r.2, ¬ x < 0 → Clo rs true x.toNat) → x ∈ r.2 → ¬ x < 0 → Gro rs x.toNat → Gro rs A
def tstM (made : List Int) (x : Int) : Bool := decide (x < 0) || decide (x ∈ made)
theorem tstM_iff {gm : Gram} {xs : List Int} (hb : ∀ x ∈ xs, x < gm.nons) : xs.all (tstM (cloV gm true)) = true ↔ ∀ x ∈ xs, ¬ x < 0 → Clo gm.rules true x.toNat := by
  rw [List.all_eq_true]
  constructor
  · intro h x hx h0
    have := h x hx
    simp only [tstM, h0, decide_false, Bool.false_or, decide_eq_true_eq] at this
    obtain ⟨A, e, _, h2⟩ := setL_mem.1 this
    rw [e, Int.toNat_natCast]
    exact h2
  · intro h x hx
    by_cases h0 : x < 0
    · simp [tstM, h0]
    · have := hb x hx
      simp only [tstM, h0, decide_false, Bool.false_or, decide_eq_true_eq]
      exact setL_mem.2 ⟨x.toNat, by omega, by omega, h x hx h0⟩
end Go.Sh
namespace Go.Proofs.Ytegcjkhebecgbaa
open Go Go.Sh Go.RowKit
section
variable {w : World} {Y : Option Addr} {cy : Nat} {gm : Gram} {k : Value → World → Prop}
set_option maxHeartbeats 3200000 in
theorem l3Reached_c (hG : kG Y cy gm.rules w) (hn : 1 ≤ gm.nons ∧ gm.nons ≤ 6) (hb : ∀ r ∈ gm.rules, ∀ x ∈ r.2, x < gm.nons) (hl : ∀ r ∈ gm.rules, 0 ≤ r.1) (hr : ∀ r ∈ gm.rules, r.2.length ≤ 1000) (hk : ∀ w' X c, Gr w w' → kI X (rchV gm) c w' → k (.slice X (rchV gm).length c) w') :
    CallK Try.prog 193 [grv gm Y cy] k w := by
  refine enter193 ?_
  unfold S193
  have H := (Kn.nil w).addG hG.1 hG.2
  refine do_box fun b1 w0 g1 hb0 B1 => ?_
  have H := (H.step g1).addB B1
  simp only [List.cons_append, List.nil_append] at H
  have hrl := (H.get 1 rfl).2.le
  refine do_build_of u27 inf3 (cells := ints [0]) (by decide) (by decide) (by simp [Instr.fill, madeCells, Value.cells, rng1, ints]) rfl fun b2 w1 _ _ gz _ r9 => ?_
  have H := H.step gz
  have hI : kI (some ⟨b2, 0, none⟩) [(0 : Int)] 1 w1 := ⟨Own.ints (e := 3) (r9 _ (Nat.le_refl _)), by simp⟩
  refine loop_ghost (σ := List Int × Bool) (fun s f w' => (∃ X c, f 3 = .slice X s.1.length c ∧ kI X s.1 c w') ∧ f 4 = .bool s.2 ∧ Gr w1 w' ∧ SetOk (Rch gm.rules) gm.nons.toNat s.1 ∧ (0 : Int) ∈ s.1 ∧ (s.2 = false → ∀ r ∈ gm.rules, r.1 ∈ s.1 → ∀ x ∈ r.2, ¬ x < 0 → x ∈ s.1))
    (fun s => if s.2 = true then 8 - s.1.length else 0) ([0], true) ⟨⟨_, _, rfl, hI⟩, rfl, Gr.refl _, ⟨by simp, fun x hx => by
      rw [List.mem_singleton] at hx
      subst hx
      exact ⟨0, rfl, by omega, .zero⟩⟩, by simp, fun h => by cases h⟩ ?_
  rintro ⟨out, more⟩ f w2 N hag ⟨⟨X, c, h3, hX⟩, h4, g, hok, hz, hcl⟩ hN
  dsimp only at h3 hX h4 hok hz hcl hN
  have f1 : f 1 = ptrv b1 := hag 1 (by decide)
  simp only [h3, h4, f1, bin_add, bin_sub, bin_mul, bin_eql, bin_neq, bin_lss, bin_leq, bin_gtr, bin_geq, un_not, un_neg, pick_true, pick_false, extract_two_0, extract_two_1, nilCheck_pointer, cond_true', cond_false', guard_tt, guard_ff, guard_tf, guard_ft, guard_undef, seqQ_normal, seqQ_ret, seqQ_exit, blockQ_ret, blockQ_normal, blockQ_exit, bodyQ_ret, bodyQ_normal, resK_nil, resK_tmp, ite_T, ite_F, upd_at, add_plain, add_zero', Nat.reduceEqDiff, fa8_0, fa8_1, fa8_2, fa8_3, fa14_0, fa14_1, fa19_0, len22, len24, fa26_0, fa26_1, fa26_2, len27, fa33_0, fa33_1, len35, fa77_0, fa77_1, fa88_0, fa88_1, fa88_2, fa88_3, fa88_4, fa88_5, fa114_0, fa114_1, fa114_2, fa124_0, fa124_1, len134, len136, len154, fa156_0, fa156_1, fa156_2, fa156_3, fa156_4, fa156_5, fa156_6, fa184_0, fa184_1, fa200_0, fa200_1, fa200_2, fa200_3, fa215_0, fa215_1, fa215_2, fa215_3, fa215_4, len218, len271, fa274_0, fa274_1, fa274_2, fa303_0, fa303_1, fa303_2, fa303_3, fa314_0, fa314_1, fa314_2, fa314_3, fa314_4, fa314_5, fa314_6, fa314_7, fa314_8, fa314_9, fa314_10]
  have H := H.step g
  have hlen := hok.len
  cases more
  · simp only [bin_add, bin_sub, bin_mul, bin_eql, bin_neq, bin_lss, bin_leq, bin_gtr, bin_geq, un_not, un_neg, pick_true, pick_false, extract_two_0, extract_two_1, nilCheck_pointer, cond_true', cond_false', guard_tt, guard_ff, guard_tf, guard_ft, guard_undef, seqQ_normal, seqQ_ret, seqQ_exit, blockQ_ret, blockQ_normal, blockQ_exit, bodyQ_ret, bodyQ_normal, resK_nil, resK_tmp, ite_T, ite_F, upd_at, add_plain, add_zero', Nat.reduceEqDiff, fa8_0, fa8_1, fa8_2, fa8_3, fa14_0, fa14_1, fa19_0, len22, len24, fa26_0, fa26_1, fa26_2, len27, fa33_0, fa33_1, len35, fa77_0, fa77_1, fa88_0, fa88_1, fa88_2, fa88_3, fa88_4, fa88_5, fa114_0, fa114_1, fa114_2, fa124_0, fa124_1, len134, len136, len154, fa156_0, fa156_1, fa156_2, fa156_3, fa156_4, fa156_5, fa156_6, fa184_0, fa184_1, fa200_0, fa200_1, fa200_2, fa200_3, fa215_0, fa215_1, fa215_2, fa215_3, fa215_4, len218, len271, fa274_0, fa274_1, fa274_2, fa303_0, fa303_1, fa303_2, fa303_3, fa314_0, fa314_1, fa314_2, fa314_3, fa314_4, fa314_5, fa314_6, fa314_7, fa314_8, fa314_9, fa314_10]
    have e : out = rchV gm := hok.eq fun A _ hA => rch_in hz (hcl rfl) hA
    subst e
    exact hk _ X c (H.get 0 rfl) hX
  simp only [bin_add, bin_sub, bin_mul, bin_eql, bin_neq, bin_lss, bin_leq, bin_gtr, bin_geq, un_not, un_neg, pick_true, pick_false, extract_two_0, extract_two_1, nilCheck_pointer, cond_true', cond_false', guard_tt, guard_ff, guard_tf, guard_ft, guard_undef, seqQ_normal, seqQ_ret, seqQ_exit, blockQ_ret, blockQ_normal, blockQ_exit, bodyQ_ret, bodyQ_normal, resK_nil, resK_tmp, ite_T, ite_F, upd_at, add_plain, add_zero', Nat.reduceEqDiff, fa8_0, fa8_1, fa8_2, fa8_3, fa14_0, fa14_1, fa19_0, len22, len24, fa26_0, fa26_1, fa26_2, len27, fa33_0, fa33_1, len35, fa77_0, fa77_1, fa88_0, fa88_1, fa88_2, fa88_3, fa88_4, fa88_5, fa114_0, fa114_1, fa114_2, fa124_0, fa124_1, len134, len136, len154, fa156_0, fa156_1, fa156_2, fa156_3, fa156_4, fa156_5, fa156_6, fa184_0, fa184_1, fa200_0, fa200_1, fa200_2, fa200_3, fa215_0, fa215_1, fa215_2, fa215_3, fa215_4, len218, len271, fa274_0, fa274_1, fa274_2, fa303_0, fa303_1, fa303_2, fa303_3, fa314_0, fa314_1, fa314_2, fa314_3, fa314_4, fa314_5, fa314_6, fa314_7, fa314_8, fa314_9, fa314_10]
  rw [ldB24 (H.get 2 rfl) rfl]
  simp only [bin_add, bin_sub, bin_mul, bin_eql, bin_neq, bin_lss, bin_leq, bin_gtr, bin_geq, un_not, un_neg, pick_true, pick_false, extract_two_0, extract_two_1, nilCheck_pointer, cond_true', cond_false', guard_tt, guard_ff, guard_tf, guard_ft, guard_undef, seqQ_normal, seqQ_ret, seqQ_exit, blockQ_ret, blockQ_normal, blockQ_exit, bodyQ_ret, bodyQ_normal, resK_nil, resK_tmp, ite_T, ite_F, upd_at, add_plain, add_zero', Nat.reduceEqDiff, fa8_0, fa8_1, fa8_2, fa8_3, fa14_0, fa14_1, fa19_0, len22, len24, fa26_0, fa26_1, fa26_2, len27, fa33_0, fa33_1, len35, fa77_0, fa77_1, fa88_0, fa88_1, fa88_2, fa88_3, fa88_4, fa88_5, fa114_0, fa114_1, fa114_2, fa124_0, fa124_1, len134, len136, len154, fa156_0, fa156_1, fa156_2, fa156_3, fa156_4, fa156_5, fa156_6, fa184_0, fa184_1, fa200_0, fa200_1, fa200_2, fa200_3, fa215_0, fa215_1, fa215_2, fa215_3, fa215_4, len218, len271, fa274_0, fa274_1, fa274_2, fa303_0, fa303_1, fa303_2, fa303_3, fa314_0, fa314_1, fa314_2, fa314_3, fa314_4, fa314_5, fa314_6, fa314_7, fa314_8, fa314_9, fa314_10]
  refine loop_to gm.rules.length 0 (fun i f w' => i ≤ gm.rules.length ∧ f 14 = .int .i64 (i : Int) ∧ ∃ (X : Option Addr) (c : Nat) (out2 : List Int) (more2 : Bool), f 3 = .slice X out2.length c ∧ kI X out2 c w' ∧ f 4 = .bool more2 ∧ Gr w2 w' ∧ SetOk (Rch gm.rules) gm.nons.toNat out2 ∧ (0 : Int) ∈ out2 ∧
      (more2 = false → out2 = out ∧ ∀ q, q < i → (rul gm.rules q).1 ∈ out → ∀ x ∈ (rul gm.rules q).2, ¬ x < 0 → x ∈ out) ∧ (more2 = true → out.length < out2.length))
    ⟨Nat.zero_le _, rfl, X, c, out, false, h3, hX, rfl, Gr.refl _, hok, hz, fun _ => ⟨rfl, fun q hq => by omega⟩, fun h => by cases h⟩ ?_
  rintro i q w3 N2 hag2 ⟨hi, q14, X, c, out2, more2, q3, hX, q4, g2, hok2, hz2, hno, hyes⟩ hN2
  have q12 : q 12 = .slice Y gm.rules.length cy := hag2 12 (by decide)
  have q13 : q 13 = .int .i64 gm.rules.length := hag2 13 (by decide)
  simp only [q12, q13, q14, q3, q4, bin_add, bin_sub, bin_mul, bin_eql, bin_neq, bin_lss, bin_leq, bin_gtr, bin_geq, un_not, un_neg, pick_true, pick_false, extract_two_0, extract_two_1, nilCheck_pointer, cond_true', cond_false', guard_tt, guard_ff, guard_tf, guard_ft, guard_undef, seqQ_normal, seqQ_ret, seqQ_exit, blockQ_ret, blockQ_normal, blockQ_exit, bodyQ_ret, bodyQ_normal, resK_nil, resK_tmp, ite_T, ite_F, upd_at, add_plain, add_zero', Nat.reduceEqDiff, fa8_0, fa8_1, fa8_2, fa8_3, fa14_0, fa14_1, fa19_0, len22, len24, fa26_0, fa26_1, fa26_2, len27, fa33_0, fa33_1, len35, fa77_0, fa77_1, fa88_0, fa88_1, fa88_2, fa88_3, fa88_4, fa88_5, fa114_0, fa114_1, fa114_2, fa124_0, fa124_1, len134, len136, len154, fa156_0, fa156_1, fa156_2, fa156_3, fa156_4, fa156_5, fa156_6, fa184_0, fa184_1, fa200_0, fa200_1, fa200_2, fa200_3, fa215_0, fa215_1, fa215_2, fa215_3, fa215_4, len218, len271, fa274_0, fa274_1, fa274_2, fa303_0, fa303_1, fa303_2, fa303_3, fa314_0, fa314_1, fa314_2, fa314_3, fa314_4, fa314_5, fa314_6, fa314_7, fa314_8, fa314_9, fa314_10]
  by_cases hlt : i < gm.rules.length
  case neg =>
    simp only [show ¬ ((i : Int) < (gm.rules.length : Int)) from by omega, decide_false, bin_add, bin_sub, bin_mul, bin_eql, bin_neq, bin_lss, bin_leq, bin_gtr, bin_geq, un_not, un_neg, pick_true, pick_false, extract_two_0, extract_two_1, nilCheck_pointer, cond_true', cond_false', guard_tt, guard_ff, guard_tf, guard_ft, guard_undef, seqQ_normal, seqQ_ret, seqQ_exit, blockQ_ret, blockQ_normal, blockQ_exit, bodyQ_ret, bodyQ_normal, resK_nil, resK_tmp, ite_T, ite_F, upd_at, add_plain, add_zero', Nat.reduceEqDiff, fa8_0, fa8_1, fa8_2, fa8_3, fa14_0, fa14_1, fa19_0, len22, len24, fa26_0, fa26_1, fa26_2, len27, fa33_0, fa33_1, len35, fa77_0, fa77_1, fa88_0, fa88_1, fa88_2, fa88_3, fa88_4, fa88_5, fa114_0, fa114_1, fa114_2, fa124_0, fa124_1, len134, len136, len154, fa156_0, fa156_1, fa156_2, fa156_3, fa156_4, fa156_5, fa156_6, fa184_0, fa184_1, fa200_0, fa200_1, fa200_2, fa200_3, fa215_0, fa215_1, fa215_2, fa215_3, fa215_4, len218, len271, fa274_0, fa274_1, fa274_2, fa303_0, fa303_1, fa303_2, fa303_3, fa314_0, fa314_1, fa314_2, fa314_3, fa314_4, fa314_5, fa314_6, fa314_7, fa314_8, fa314_9, fa314_10]
    refine hN (out2, more2) _ _ ⟨⟨X, c, q3, hX⟩, q4, gr_trans g g2, hok2, hz2, fun hm r hr' hin => ?_⟩ ?_
    · dsimp only at hm hin ⊢
      obtain ⟨e, hall⟩ := hno hm
      subst e
      obtain ⟨z, hz, rfl⟩ := List.getElem_of_mem hr'
      have := hall z (by omega)
      rw [rul_eq hz] at this
      exact this hin
    · cases more2
      · simp
        omega
      · have := hyes rfl
        have := hok2.len
        simp
        omega
  simp only [show ((i : Int) < (gm.rules.length : Int)) from by omega, decide_true, bin_add, bin_sub, bin_mul, bin_eql, bin_neq, bin_lss, bin_leq, bin_gtr, bin_geq, un_not, un_neg, pick_true, pick_false, extract_two_0, extract_two_1, nilCheck_pointer, cond_true', cond_false', guard_tt, guard_ff, guard_tf, guard_ft, guard_undef, seqQ_normal, seqQ_ret, seqQ_exit, blockQ_ret, blockQ_normal, blockQ_exit, bodyQ_ret, bodyQ_normal, resK_nil, resK_tmp, ite_T, ite_F, upd_at, add_plain, add_zero', Nat.reduceEqDiff, fa8_0, fa8_1, fa8_2, fa8_3, fa14_0, fa14_1, fa19_0, len22, len24, fa26_0, fa26_1, fa26_2, len27, fa33_0, fa33_1, len35, fa77_0, fa77_1, fa88_0, fa88_1, fa88_2, fa88_3, fa88_4, fa88_5, fa114_0, fa114_1, fa114_2, fa124_0, fa124_1, len134, len136, len154, fa156_0, fa156_1, fa156_2, fa156_3, fa156_4, fa156_5, fa156_6, fa184_0, fa184_1, fa200_0, fa200_1, fa200_2, fa200_3, fa215_0, fa215_1, fa215_2, fa215_3, fa215_4, len218, len271, fa274_0, fa274_1, fa274_2, fa303_0, fa303_1, fa303_2, fa303_3, fa314_0, fa314_1, fa314_2, fa314_3, fa314_4, fa314_5, fa314_6, fa314_7, fa314_8, fa314_9, fa314_10]
  have hrm : rul gm.rules i ∈ gm.rules := by rw [rul_eq hlt]; exact List.getElem_mem hlt
  have H := H.step g2
  have H := H.add (P := fun w' => Gr w2 w') fun w' g' => gr_trans g2 g'
  simp only [List.cons_append, List.nil_append] at H
  have hRF := (H.get 1 rfl).2
  refine rdi (ixn24 hRF.ptr hlt) ?_
  refine ld_rule agg33 sz33 hRF hlt fun v hv => ?_
  obtain ⟨Z, cz, rfl, hcz, hZ⟩ := hv
  have H := H.addI hZ.is hcz
  have H := H.addI hX.1 hX.2
  refine newR H fun b9 w4 H => ?_
  simp only [List.cons_append, List.nil_append] at H
  simp only [bin_add, bin_sub, bin_mul, bin_eql, bin_neq, bin_lss, bin_leq, bin_gtr, bin_geq, un_not, un_neg, pick_true, pick_false, extract_two_0, extract_two_1, nilCheck_pointer, cond_true', cond_false', guard_tt, guard_ff, guard_tf, guard_ft, guard_undef, seqQ_normal, seqQ_ret, seqQ_exit, blockQ_ret, blockQ_normal, blockQ_exit, bodyQ_ret, bodyQ_normal, resK_nil, resK_tmp, ite_T, ite_F, upd_at, add_plain, add_zero', Nat.reduceEqDiff, fa8_0, fa8_1, fa8_2, fa8_3, fa14_0, fa14_1, fa19_0, len22, len24, fa26_0, fa26_1, fa26_2, len27, fa33_0, fa33_1, len35, fa77_0, fa77_1, fa88_0, fa88_1, fa88_2, fa88_3, fa88_4, fa88_5, fa114_0, fa114_1, fa114_2, fa124_0, fa124_1, len134, len136, len154, fa156_0, fa156_1, fa156_2, fa156_3, fa156_4, fa156_5, fa156_6, fa184_0, fa184_1, fa200_0, fa200_1, fa200_2, fa200_3, fa215_0, fa215_1, fa215_2, fa215_3, fa215_4, len218, len271, fa274_0, fa274_1, fa274_2, fa303_0, fa303_1, fa303_2, fa303_3, fa314_0, fa314_1, fa314_2, fa314_3, fa314_4, fa314_5, fa314_6, fa314_7, fa314_8, fa314_9, fa314_10]
  rw [ldB27 (H.get 6 rfl) rfl]
  simp only [bin_add, bin_sub, bin_mul, bin_eql, bin_neq, bin_lss, bin_leq, bin_gtr, bin_geq, un_not, un_neg, pick_true, pick_false, extract_two_0, extract_two_1, nilCheck_pointer, cond_true', cond_false', guard_tt, guard_ff, guard_tf, guard_ft, guard_undef, seqQ_normal, seqQ_ret, seqQ_exit, blockQ_ret, blockQ_normal, blockQ_exit, bodyQ_ret, bodyQ_normal, resK_nil, resK_tmp, ite_T, ite_F, upd_at, add_plain, add_zero', Nat.reduceEqDiff, fa8_0, fa8_1, fa8_2, fa8_3, fa14_0, fa14_1, fa19_0, len22, len24, fa26_0, fa26_1, fa26_2, len27, fa33_0, fa33_1, len35, fa77_0, fa77_1, fa88_0, fa88_1, fa88_2, fa88_3, fa88_4, fa88_5, fa114_0, fa114_1, fa114_2, fa124_0, fa124_1, len134, len136, len154, fa156_0, fa156_1, fa156_2, fa156_3, fa156_4, fa156_5, fa156_6, fa184_0, fa184_1, fa200_0, fa200_1, fa200_2, fa200_3, fa215_0, fa215_1, fa215_2, fa215_3, fa215_4, len218, len271, fa274_0, fa274_1, fa274_2, fa303_0, fa303_1, fa303_2, fa303_3, fa314_0, fa314_1, fa314_2, fa314_3, fa314_4, fa314_5, fa314_6, fa314_7, fa314_8, fa314_9, fa314_10]
  have hr2 := hr _ hrm
  refine loop_to (rul gm.rules i).2.length 0 (fun j f w' => j ≤ (rul gm.rules i).2.length ∧ f 21 = .int .i64 (j : Int) ∧ ∃ (X : Option Addr) (c : Nat) (out2 : List Int) (more2 : Bool), f 3 = .slice X out2.length c ∧ kI X out2 c w' ∧ f 4 = .bool more2 ∧ Gr w4 w' ∧ SetOk (Rch gm.rules) gm.nons.toNat out2 ∧ (0 : Int) ∈ out2 ∧
      (more2 = false → out2 = out ∧ (∀ q, q < i → (rul gm.rules q).1 ∈ out → ∀ x ∈ (rul gm.rules q).2, ¬ x < 0 → x ∈ out) ∧ ((rul gm.rules i).1 ∈ out → ∀ x ∈ (rul gm.rules i).2.take j, ¬ x < 0 → x ∈ out)) ∧ (more2 = true → out.length < out2.length))
    ⟨Nat.zero_le _, rfl, X, c, out2, more2, q3, H.get 5 rfl, q4, Gr.refl _, hok2, hz2, fun h => ⟨(hno h).1, (hno h).2, fun _ x hx => by simp at hx⟩, hyes⟩ ?_
  clear hX
  rintro j r w6 N3 hag3 ⟨hj, r21, X, c, out3, more3, r3, hX, r4, g6, hok3, hz3, hno3, hyes3⟩ hN3
  have r6 : r 6 = ptrv b9 := hag3 6 (by decide)
  have r14 : r 14 = .int .i64 (i : Int) := (hag3 14 (by decide)).trans q14
  have r19 : r 19 = .slice Z (rul gm.rules i).2.length cz := hag3 19 (by decide)
  have r20 : r 20 = .int .i64 ((rul gm.rules i).2.length : Int) := hag3 20 (by decide)
  simp only [r3, r6, r19, r20, r21, bin_add, bin_sub, bin_mul, bin_eql, bin_neq, bin_lss, bin_leq, bin_gtr, bin_geq, un_not, un_neg, pick_true, pick_false, extract_two_0, extract_two_1, nilCheck_pointer, cond_true', cond_false', guard_tt, guard_ff, guard_tf, guard_ft, guard_undef, seqQ_normal, seqQ_ret, seqQ_exit, blockQ_ret, blockQ_normal, blockQ_exit, bodyQ_ret, bodyQ_normal, resK_nil, resK_tmp, ite_T, ite_F, upd_at, add_plain, add_zero', Nat.reduceEqDiff, fa8_0, fa8_1, fa8_2, fa8_3, fa14_0, fa14_1, fa19_0, len22, len24, fa26_0, fa26_1, fa26_2, len27, fa33_0, fa33_1, len35, fa77_0, fa77_1, fa88_0, fa88_1, fa88_2, fa88_3, fa88_4, fa88_5, fa114_0, fa114_1, fa114_2, fa124_0, fa124_1, len134, len136, len154, fa156_0, fa156_1, fa156_2, fa156_3, fa156_4, fa156_5, fa156_6, fa184_0, fa184_1, fa200_0, fa200_1, fa200_2, fa200_3, fa215_0, fa215_1, fa215_2, fa215_3, fa215_4, len218, len271, fa274_0, fa274_1, fa274_2, fa303_0, fa303_1, fa303_2, fa303_3, fa314_0, fa314_1, fa314_2, fa314_3, fa314_4, fa314_5, fa314_6, fa314_7, fa314_8, fa314_9, fa314_10]
  have H := H.step g6
  by_cases hlt2 : j < (rul gm.rules i).2.length
  case neg =>
    simp only [show ¬ ((j : Int) < ((rul gm.rules i).2.length : Int)) from by omega, decide_false, r14, bin_add, bin_sub, bin_mul, bin_eql, bin_neq, bin_lss, bin_leq, bin_gtr, bin_geq, un_not, un_neg, pick_true, pick_false, extract_two_0, extract_two_1, nilCheck_pointer, cond_true', cond_false', guard_tt, guard_ff, guard_tf, guard_ft, guard_undef, seqQ_normal, seqQ_ret, seqQ_exit, blockQ_ret, blockQ_normal, blockQ_exit, bodyQ_ret, bodyQ_normal, resK_nil, resK_tmp, ite_T, ite_F, upd_at, add_plain, add_zero', Nat.reduceEqDiff, fa8_0, fa8_1, fa8_2, fa8_3, fa14_0, fa14_1, fa19_0, len22, len24, fa26_0, fa26_1, fa26_2, len27, fa33_0, fa33_1, len35, fa77_0, fa77_1, fa88_0, fa88_1, fa88_2, fa88_3, fa88_4, fa88_5, fa114_0, fa114_1, fa114_2, fa124_0, fa124_1, len134, len136, len154, fa156_0, fa156_1, fa156_2, fa156_3, fa156_4, fa156_5, fa156_6, fa184_0, fa184_1, fa200_0, fa200_1, fa200_2, fa200_3, fa215_0, fa215_1, fa215_2, fa215_3, fa215_4, len218, len271, fa274_0, fa274_1, fa274_2, fa303_0, fa303_1, fa303_2, fa303_3, fa314_0, fa314_1, fa314_2, fa314_3, fa314_4, fa314_5, fa314_6, fa314_7, fa314_8, fa314_9, fa314_10]
    rw [i64_of (by omega) (by omega)]
    rw [List.take_of_length_le (by omega)] at hno3
    refine hN2 _ _ hlt ⟨by omega, rfl, X, c, out3, more3, r3, hX, r4, H.get 3 rfl, hok3, hz3, fun hm => ⟨(hno3 hm).1, fun z hz' hin => ?_⟩, hyes3⟩
    rcases Nat.lt_succ_iff_lt_or_eq.1 hz' with hz' | rfl
    · exact (hno3 hm).2.1 z hz' hin
    · exact (hno3 hm).2.2 hin
  simp only [show ((j : Int) < ((rul gm.rules i).2.length : Int)) from by omega, decide_true, bin_add, bin_sub, bin_mul, bin_eql, bin_neq, bin_lss, bin_leq, bin_gtr, bin_geq, un_not, un_neg, pick_true, pick_false, extract_two_0, extract_two_1, nilCheck_pointer, cond_true', cond_false', guard_tt, guard_ff, guard_tf, guard_ft, guard_undef, seqQ_normal, seqQ_ret, seqQ_exit, blockQ_ret, blockQ_normal, blockQ_exit, bodyQ_ret, bodyQ_normal, resK_nil, resK_tmp, ite_T, ite_F, upd_at, add_plain, add_zero', Nat.reduceEqDiff, fa8_0, fa8_1, fa8_2, fa8_3, fa14_0, fa14_1, fa19_0, len22, len24, fa26_0, fa26_1, fa26_2, len27, fa33_0, fa33_1, len35, fa77_0, fa77_1, fa88_0, fa88_1, fa88_2, fa88_3, fa88_4, fa88_5, fa114_0, fa114_1, fa114_2, fa124_0, fa124_1, len134, len136, len154, fa156_0, fa156_1, fa156_2, fa156_3, fa156_4, fa156_5, fa156_6, fa184_0, fa184_1, fa200_0, fa200_1, fa200_2, fa200_3, fa215_0, fa215_1, fa215_2, fa215_3, fa215_4, len218, len271, fa274_0, fa274_1, fa274_2, fa303_0, fa303_1, fa303_2, fa303_3, fa314_0, fa314_1, fa314_2, fa314_3, fa314_4, fa314_5, fa314_6, fa314_7, fa314_8, fa314_9, fa314_10]
  have H := H.addI hX.1 hX.2
  have H := H.add (P := fun w' => Gr w4 w') fun w' g' => gr_trans g6 g'
  simp only [List.cons_append, List.nil_append] at H
  refine join_as (fun f w' => f 21 = .int .i64 (j : Int) ∧ ∃ (X : Option Addr) (c : Nat) (out2 : List Int) (more2 : Bool), f 3 = .slice X out2.length c ∧ kI X out2 c w' ∧ f 4 = .bool more2 ∧ Gr w4 w' ∧ SetOk (Rch gm.rules) gm.nons.toNat out2 ∧ (0 : Int) ∈ out2 ∧
      (more2 = false → out2 = out ∧ (∀ q, q < i → (rul gm.rules q).1 ∈ out → ∀ x ∈ (rul gm.rules q).2, ¬ x < 0 → x ∈ out) ∧ ((rul gm.rules i).1 ∈ out → ∀ x ∈ (rul gm.rules i).2.take (j + 1), ¬ x < 0 → x ∈ out)) ∧ (more2 = true → out.length < out2.length)) (fun K hK => ?_) ?_
  case refine_2 =>
    rintro f w' ⟨f21, h⟩
    simp only [f21, bin_add, bin_sub, bin_mul, bin_eql, bin_neq, bin_lss, bin_leq, bin_gtr, bin_geq, un_not, un_neg, pick_true, pick_false, extract_two_0, extract_two_1, nilCheck_pointer, cond_true', cond_false', guard_tt, guard_ff, guard_tf, guard_ft, guard_undef, seqQ_normal, seqQ_ret, seqQ_exit, blockQ_ret, blockQ_normal, blockQ_exit, bodyQ_ret, bodyQ_normal, resK_nil, resK_tmp, ite_T, ite_F, upd_at, add_plain, add_zero', Nat.reduceEqDiff, fa8_0, fa8_1, fa8_2, fa8_3, fa14_0, fa14_1, fa19_0, len22, len24, fa26_0, fa26_1, fa26_2, len27, fa33_0, fa33_1, len35, fa77_0, fa77_1, fa88_0, fa88_1, fa88_2, fa88_3, fa88_4, fa88_5, fa114_0, fa114_1, fa114_2, fa124_0, fa124_1, len134, len136, len154, fa156_0, fa156_1, fa156_2, fa156_3, fa156_4, fa156_5, fa156_6, fa184_0, fa184_1, fa200_0, fa200_1, fa200_2, fa200_3, fa215_0, fa215_1, fa215_2, fa215_3, fa215_4, len218, len271, fa274_0, fa274_1, fa274_2, fa303_0, fa303_1, fa303_2, fa303_3, fa314_0, fa314_1, fa314_2, fa314_3, fa314_4, fa314_5, fa314_6, fa314_7, fa314_8, fa314_9, fa314_10]
    rw [i64_of (by omega) (by omega)]
    exact hN3 _ _ hlt2 ⟨by omega, rfl, h⟩
  have hZ' := (H.get 4 rfl).1
  refine rdi (ixn27 hZ'.ptr hlt2) (rdi (ld3 (hZ'.cell j hlt2)) ?_)
  have htk := take_snoc hlt2
  have hmem : (rul gm.rules i).2.getD j 0 ∈ (rul gm.rules i).2 := getD_mem hlt2
  generalize hx : (rul gm.rules i).2.getD j 0 = x at *
  -- nothing comes
  have skip : ∀ (w' : World) (f' : F), Gr w6 w' → f' 21 = .int .i64 (j : Int) → f' 3 = .slice X out3.length c → f' 4 = .bool more3 → ((rul gm.rules i).1 ∈ out3 → ¬ x < 0 → x ∈ out3) → K f' w' := fun w' f' g' e1 e2 e3 hsk => by
    have H := H.step g'
    refine hK f' w' ⟨e1, X, c, out3, more3, e2, H.get 7 rfl, e3, H.get 8 rfl, hok3, hz3, fun hm => ?_, hyes3⟩
    obtain ⟨a1, a2, a3⟩ := hno3 hm
    refine ⟨a1, a2, fun hin y hy h0 => ?_⟩
    rw [htk, List.mem_append, List.mem_singleton] at hy
    rcases hy with hy | rfl
    · exact a3 hin y hy h0
    · rw [← a1] at hin ⊢
      exact hsk hin h0
  by_cases hx0 : x < 0
  · simp only [show ¬ ((0 : Int) ≤ x) from by omega, decide_false, bin_add, bin_sub, bin_mul, bin_eql, bin_neq, bin_lss, bin_leq, bin_gtr, bin_geq, un_not, un_neg, pick_true, pick_false, extract_two_0, extract_two_1, nilCheck_pointer, cond_true', cond_false', guard_tt, guard_ff, guard_tf, guard_ft, guard_undef, seqQ_normal, seqQ_ret, seqQ_exit, blockQ_ret, blockQ_normal, blockQ_exit, bodyQ_ret, bodyQ_normal, resK_nil, resK_tmp, ite_T, ite_F, upd_at, add_plain, add_zero', Nat.reduceEqDiff, fa8_0, fa8_1, fa8_2, fa8_3, fa14_0, fa14_1, fa19_0, len22, len24, fa26_0, fa26_1, fa26_2, len27, fa33_0, fa33_1, len35, fa77_0, fa77_1, fa88_0, fa88_1, fa88_2, fa88_3, fa88_4, fa88_5, fa114_0, fa114_1, fa114_2, fa124_0, fa124_1, len134, len136, len154, fa156_0, fa156_1, fa156_2, fa156_3, fa156_4, fa156_5, fa156_6, fa184_0, fa184_1, fa200_0, fa200_1, fa200_2, fa200_3, fa215_0, fa215_1, fa215_2, fa215_3, fa215_4, len218, len271, fa274_0, fa274_1, fa274_2, fa303_0, fa303_1, fa303_2, fa303_3, fa314_0, fa314_1, fa314_2, fa314_3, fa314_4, fa314_5, fa314_6, fa314_7, fa314_8, fa314_9, fa314_10]
    exact skip _ _ (Gr.refl _) r21 r3 r4 (fun _ h => absurd hx0 h)
  simp only [show ((0 : Int) ≤ x) from by omega, decide_true, bin_add, bin_sub, bin_mul, bin_eql, bin_neq, bin_lss, bin_leq, bin_gtr, bin_geq, un_not, un_neg, pick_true, pick_false, extract_two_0, extract_two_1, nilCheck_pointer, cond_true', cond_false', guard_tt, guard_ff, guard_tf, guard_ft, guard_undef, seqQ_normal, seqQ_ret, seqQ_exit, blockQ_ret, blockQ_normal, blockQ_exit, bodyQ_ret, bodyQ_normal, resK_nil, resK_tmp, ite_T, ite_F, upd_at, add_plain, add_zero', Nat.reduceEqDiff, fa8_0, fa8_1, fa8_2, fa8_3, fa14_0, fa14_1, fa19_0, len22, len24, fa26_0, fa26_1, fa26_2, len27, fa33_0, fa33_1, len35, fa77_0, fa77_1, fa88_0, fa88_1, fa88_2, fa88_3, fa88_4, fa88_5, fa114_0, fa114_1, fa114_2, fa124_0, fa124_1, len134, len136, len154, fa156_0, fa156_1, fa156_2, fa156_3, fa156_4, fa156_5, fa156_6, fa184_0, fa184_1, fa200_0, fa200_1, fa200_2, fa200_3, fa215_0, fa215_1, fa215_2, fa215_3, fa215_4, len218, len271, fa274_0, fa274_1, fa274_2, fa303_0, fa303_1, fa303_2, fa303_3, fa314_0, fa314_1, fa314_2, fa314_3, fa314_4, fa314_5, fa314_6, fa314_7, fa314_8, fa314_9, fa314_10]
  rw [ldB3 (H.get 6 rfl) rfl]
  refine l1Has_c (H.get 7 rfl).1 fun w7 g7 => ?_
  have H := H.step g7
  by_cases hin : (rul gm.rules i).1 ∈ out3
  case neg =>
    simp only [hin, decide_false, bin_add, bin_sub, bin_mul, bin_eql, bin_neq, bin_lss, bin_leq, bin_gtr, bin_geq, un_not, un_neg, pick_true, pick_false, extract_two_0, extract_two_1, nilCheck_pointer, cond_true', cond_false', guard_tt, guard_ff, guard_tf, guard_ft, guard_undef, seqQ_normal, seqQ_ret, seqQ_exit, blockQ_ret, blockQ_normal, blockQ_exit, bodyQ_ret, bodyQ_normal, resK_nil, resK_tmp, ite_T, ite_F, upd_at, add_plain, add_zero', Nat.reduceEqDiff, fa8_0, fa8_1, fa8_2, fa8_3, fa14_0, fa14_1, fa19_0, len22, len24, fa26_0, fa26_1, fa26_2, len27, fa33_0, fa33_1, len35, fa77_0, fa77_1, fa88_0, fa88_1, fa88_2, fa88_3, fa88_4, fa88_5, fa114_0, fa114_1, fa114_2, fa124_0, fa124_1, len134, len136, len154, fa156_0, fa156_1, fa156_2, fa156_3, fa156_4, fa156_5, fa156_6, fa184_0, fa184_1, fa200_0, fa200_1, fa200_2, fa200_3, fa215_0, fa215_1, fa215_2, fa215_3, fa215_4, len218, len271, fa274_0, fa274_1, fa274_2, fa303_0, fa303_1, fa303_2, fa303_3, fa314_0, fa314_1, fa314_2, fa314_3, fa314_4, fa314_5, fa314_6, fa314_7, fa314_8, fa314_9, fa314_10]
    exact skip _ _ g7 r21 r3 r4 (fun h => absurd h hin)
  simp only [hin, decide_true, bin_add, bin_sub, bin_mul, bin_eql, bin_neq, bin_lss, bin_leq, bin_gtr, bin_geq, un_not, un_neg, pick_true, pick_false, extract_two_0, extract_two_1, nilCheck_pointer, cond_true', cond_false', guard_tt, guard_ff, guard_tf, guard_ft, guard_undef, seqQ_normal, seqQ_ret, seqQ_exit, blockQ_ret, blockQ_normal, blockQ_exit, bodyQ_ret, bodyQ_normal, resK_nil, resK_tmp, ite_T, ite_F, upd_at, add_plain, add_zero', Nat.reduceEqDiff, fa8_0, fa8_1, fa8_2, fa8_3, fa14_0, fa14_1, fa19_0, len22, len24, fa26_0, fa26_1, fa26_2, len27, fa33_0, fa33_1, len35, fa77_0, fa77_1, fa88_0, fa88_1, fa88_2, fa88_3, fa88_4, fa88_5, fa114_0, fa114_1, fa114_2, fa124_0, fa124_1, len134, len136, len154, fa156_0, fa156_1, fa156_2, fa156_3, fa156_4, fa156_5, fa156_6, fa184_0, fa184_1, fa200_0, fa200_1, fa200_2, fa200_3, fa215_0, fa215_1, fa215_2, fa215_3, fa215_4, len218, len271, fa274_0, fa274_1, fa274_2, fa303_0, fa303_1, fa303_2, fa303_3, fa314_0, fa314_1, fa314_2, fa314_3, fa314_4, fa314_5, fa314_6, fa314_7, fa314_8, fa314_9, fa314_10]
  refine l1Has_c (H.get 7 rfl).1 fun w8 g8 => ?_
  have H := H.step g8
  by_cases hxin : x ∈ out3
  · simp only [hxin, decide_true, Bool.not_true, bin_add, bin_sub, bin_mul, bin_eql, bin_neq, bin_lss, bin_leq, bin_gtr, bin_geq, un_not, un_neg, pick_true, pick_false, extract_two_0, extract_two_1, nilCheck_pointer, cond_true', cond_false', guard_tt, guard_ff, guard_tf, guard_ft, guard_undef, seqQ_normal, seqQ_ret, seqQ_exit, blockQ_ret, blockQ_normal, blockQ_exit, bodyQ_ret, bodyQ_normal, resK_nil, resK_tmp, ite_T, ite_F, upd_at, add_plain, add_zero', Nat.reduceEqDiff, fa8_0, fa8_1, fa8_2, fa8_3, fa14_0, fa14_1, fa19_0, len22, len24, fa26_0, fa26_1, fa26_2, len27, fa33_0, fa33_1, len35, fa77_0, fa77_1, fa88_0, fa88_1, fa88_2, fa88_3, fa88_4, fa88_5, fa114_0, fa114_1, fa114_2, fa124_0, fa124_1, len134, len136, len154, fa156_0, fa156_1, fa156_2, fa156_3, fa156_4, fa156_5, fa156_6, fa184_0, fa184_1, fa200_0, fa200_1, fa200_2, fa200_3, fa215_0, fa215_1, fa215_2, fa215_3, fa215_4, len218, len271, fa274_0, fa274_1, fa274_2, fa303_0, fa303_1, fa303_2, fa303_3, fa314_0, fa314_1, fa314_2, fa314_3, fa314_4, fa314_5, fa314_6, fa314_7, fa314_8, fa314_9, fa314_10]
    exact skip _ _ (gr_trans g7 g8) r21 r3 r4 (fun _ _ => hxin)
  simp only [hxin, decide_false, Bool.not_false, bin_add, bin_sub, bin_mul, bin_eql, bin_neq, bin_lss, bin_leq, bin_gtr, bin_geq, un_not, un_neg, pick_true, pick_false, extract_two_0, extract_two_1, nilCheck_pointer, cond_true', cond_false', guard_tt, guard_ff, guard_tf, guard_ft, guard_undef, seqQ_normal, seqQ_ret, seqQ_exit, blockQ_ret, blockQ_normal, blockQ_exit, bodyQ_ret, bodyQ_normal, resK_nil, resK_tmp, ite_T, ite_F, upd_at, add_plain, add_zero', Nat.reduceEqDiff, fa8_0, fa8_1, fa8_2, fa8_3, fa14_0, fa14_1, fa19_0, len22, len24, fa26_0, fa26_1, fa26_2, len27, fa33_0, fa33_1, len35, fa77_0, fa77_1, fa88_0, fa88_1, fa88_2, fa88_3, fa88_4, fa88_5, fa114_0, fa114_1, fa114_2, fa124_0, fa124_1, len134, len136, len154, fa156_0, fa156_1, fa156_2, fa156_3, fa156_4, fa156_5, fa156_6, fa184_0, fa184_1, fa200_0, fa200_1, fa200_2, fa200_3, fa215_0, fa215_1, fa215_2, fa215_3, fa215_4, len218, len271, fa274_0, fa274_1, fa274_2, fa303_0, fa303_1, fa303_2, fa303_3, fa314_0, fa314_1, fa314_2, fa314_3, fa314_4, fa314_5, fa314_6, fa314_7, fa314_8, fa314_9, fa314_10]
  have hlen3 := hok3.len
  refine l1Put_c (H.get 7 rfl) (by omega) fun w9 X' c' g9 hX' => ?_
  have H := H.step g9
  obtain ⟨A, eA, hA, hR⟩ := hok3.ok _ hin
  have hput := hok3.put (A := x.toNat) (by have := hb _ hrm x hmem; omega) (.step hrm eA hR hmem hx0)
  rw [show ((x.toNat : Nat) : Int) = x from by omega] at hput
  have hpl := putL_more hok3.rise hxin
  refine hK _ _ ⟨r21, X', c', _, true, rfl, hX', rfl, H.get 8 rfl, hput, putL_mem.2 (.inr hz3), (fun h => by cases h), fun _ => ?_⟩
  cases more3
  · rw [(hno3 rfl).1] at hpl
    rw [(hno3 rfl).1]
    omega
  · have := hyes3 rfl
    omega
end
end Go.Proofs.Ytegcjkhebecgbaa

/- Contracts: what grows, by the reference (l3Growing); NullableOf, ProductiveOf, ReachedOf, GrowingOf of the reference. -/
set_option linter.unusedVariables false
set_option linter.unusedSimpArgs false
set_option maxRecDepth 100000
namespace Go.Sh
open Go
theorem goodRules {gm : Gram} (hg : goodG gm = true) : ∀ r ∈ gm.rules, (0 ≤ r.1 ∧ r.1 < gm.nons) ∧ r.2.length ≤ 4 ∧ ∀ x ∈ r.2, -gm.toks ≤ x ∧ x < gm.nons := fun r hr => by
  obtain ⟨i, hi, rfl⟩ := List.getElem_of_mem hr
  have h1 := good_left hg hi
  have h2 := good_rights hg hi
  rw [rul_eq hi] at h1 h2
  exact ⟨by omega, h2.1, fun x hx => by have := h2.2 x hx; omega⟩
end Go.Sh
namespace Go.Proofs.Ytegcjkhebecgbaa
open Go Go.Sh Go.RowKit
section
variable {w : World} {Y : Option Addr} {cy : Nat} {gm : Gram} {k : Value → World → Prop}
end
end Go.Proofs.Ytegcjkhebecgbaa

/- Contracts: the useful grammar, by the reference (l3Useful, UsefulOf, IsUseful). -/
set_option linter.unusedVariables false
set_option linter.unusedSimpArgs false
set_option maxRecDepth 100000
namespace Go.Sh
open Go
section
variable {F : Nat → Prop} {w w' : World} {rs : List RuleL} {cells : List Value}
theorem OwnG.readF {e B c : Nat} {X : Option Addr} (h : OwnG e F w B X c rs) : RulesF (fun q => blk X = some q ∨ F q) w X rs := by
  obtain ⟨cells, h1, h2⟩ := h
  have hcap := Row.cap h1
  refine ⟨by omega, fun hp => h1.ptr hp, fun hp => .inl ?_, fun j hj => ?_⟩
  · have := h1.ptr hp
    conv => lhs; rw [this]
    rfl
  · obtain ⟨Y, d, a1, a2, a3, a4⟩ := h2.cell j hj
    exact ⟨Y, d, h1.src.cell _ _ a1, h1.src.cell _ _ a2, a3, a4.mono fun _ hq => .inr hq.1⟩
theorem Row.readF {e c B : Nat} {X : Option Addr} (h1 : Row w B e 2 X rs.length c cells) (h2 : RuleCells F w rs cells) : RulesF (fun q => blk X = some q ∨ F q) w X rs := by
  have hcap := Row.cap h1
  refine ⟨by omega, fun hp => h1.ptr hp, fun hp => .inl ?_, fun j hj => ?_⟩
  · have := h1.ptr hp
    conv => lhs; rw [this]
    rfl
  · obtain ⟨Y, d, a1, a2, a3, a4⟩ := h2.cell j hj
    exact ⟨Y, d, h1.src.cell _ _ a1, h1.src.cell _ _ a2, a3, a4.mono fun _ hq => .inr hq⟩
end
noncomputable def usefulG (gm : Gram) : Gram := ⟨gm.nons, gm.toks, usefulR gm.rules⟩
open Classical in
theorem madeR_eq {gm : Gram} (hg : goodG gm = true) (rs : List RuleL) (h : ∀ r ∈ rs, r ∈ gm.rules) : rs.filter (fun r => decide (∀ x ∈ r.2, ¬ x < 0 → Clo gm.rules true x.toNat)) = rs.filter (fun r => decide (r.1 ∈ cloV gm true) && r.2.all (tstM (cloV gm true))) := by
  refine List.filter_congr fun r hr => ?_
  have hr' := goodRules hg r (h r hr)
  rw [Bool.eq_iff_iff, decide_eq_true_eq, Bool.and_eq_true, decide_eq_true_eq, tstM_iff fun x hx => (hr'.2.2 x hx).2]
  constructor
  · intro hx
    refine ⟨setL_mem.2 ⟨r.1.toNat, by omega, by omega, .mk (h r hr) (by omega) (fun _ _ _ => rfl) hx⟩, hx⟩
  · exact fun hx => hx.2
open Classical in
theorem rchR_eq {gm : Gram} (hg : goodG gm = true) (qs rs : List RuleL) (h : ∀ r ∈ rs, r ∈ gm.rules) : rs.filter (fun r => decide (Rch qs r.1.toNat)) = rs.filter (fun r => decide (r.1 ∈ rchV ⟨gm.nons, gm.toks, qs⟩)) := by
  refine List.filter_congr fun r hr => ?_
  have hr' := goodRules hg r (h r hr)
  rw [Bool.eq_iff_iff, decide_eq_true_eq, decide_eq_true_eq]
  unfold rchV
  rw [setL_mem]
  constructor
  · exact fun hx => ⟨r.1.toNat, by omega, by dsimp only; omega, hx⟩
  · rintro ⟨A, e, _, hA⟩
    rwa [e, Int.toNat_natCast]
theorem filter_take_succ {p : RuleL → Bool} {rs : List RuleL} {i : Nat} (h : i < rs.length) : (rs.take (i + 1)).filter p = (rs.take i).filter p ++ (if p (rul rs i) = true then [rul rs i] else []) := by
  rw [List.take_succ_eq_append_getElem h, List.filter_append, ← rul_eq h]
  congr 1
  cases hp : p (rul rs i) <;> simp [hp]
end Go.Sh
namespace Go.Proofs.Ytegcjkhebecgbaa
open Go Go.Sh Go.RowKit
section
variable {w0 w : World} {L : List Thing} {k : Value → World → Prop}
/-- A rule whose right side is owned comes to rules. -/
theorem appG (H : Apt w0 w L) (i j : Nat) (hij : i ≠ j) {X Y R : Option Addr} {c d e u : Nat} {cs : List Bool} {rs : List RuleL} {r : RuleL} {ft : Nat → Prop} (hi : L[i]? = some (gth ft X c rs)) (hj : L[j]? = some (ows Y d r.2)) (hl : rs.length ≤ 1000) (hR : Src w R [.int .i64 r.1, .slice Y r.2.length d])
    (hk : ∀ w' ft' X' c', Apt w0 w' ((L.set i (gth ft' X' c' (rs ++ [r]))).set j emp) → k (.slice X' (rs ++ [r]).length c') w') :
    Do Try.prog (sBuiltin .append #[24, 24] u cs [.slice X rs.length c, .slice R 1 e]) k w := by
  obtain ⟨cells, hrow, hrc⟩ := H.gow i hi
  have hY5 := H.own j hj
  have hXY : ∀ q, blk Y = some q → blk X ≠ some q := fun q hq e => H.two i j _ _ hij hi hj q (.inl e) hq
  refine do_append2 u24 inf33 rfl (by decide) hrow hR rfl (by intro v hv; simp at hv; rcases hv with rfl | rfl <;> rfl) (by omega) (by omega) (Nat.zero_le _) fun X' c' w' hr' hg hmv => ?_
  have hnew : ∀ q, q < w.heap.size → blk X ≠ some q → blk X' ≠ some q := fun q hq hn e => by
    rcases hmv with h1 | h1
    · exact hn (h1 ▸ e)
    · have := h1 q e
      omega
  have hrc2 : RuleCells (fun q => (ft q ∨ blk Y = some q) ∧ blk X' ≠ some q) w' (rs ++ [r]) (cells ++ [.int .i64 r.1, .slice Y r.2.length d]) := by
    refine RuleCells.append ((hrc.lt.same fun q hq => hg.block q hq.2 fun e => hq.1.2 e.symm).mono fun q hq => ⟨.inl hq.1.1, hnew q hq.2 hq.1.2⟩) (.cons (Row.cap hY5).1 ?_ .nil)
    have hf : IntsF (fun q => blk Y = some q ∧ q < w.heap.size) w Y r.2 := ⟨Own.ints hY5, fun hp => ⟨blk_ad hY5 hp, ((IntsF.of_own hY5).foot hp).2⟩⟩
    exact (hf.same' fun q hq => hg.block q hq.2 fun e => hXY q hq.1 e.symm).mono fun q hq => ⟨.inr hq.1, hnew q hq.2 (hXY q hq.1)⟩
  have hlen : rs.length + 1 = (rs ++ [r]).length := by simp
  rw [hlen] at hr' ⊢
  refine hk w' (fun q => ft q ∨ blk Y = some q) X' c' (H.join (it := gth (fun q => ft q ∨ blk Y = some q) X' c' (rs ++ [r])) hij hi hj (gx_of hg fun q hq => .inl (.inl hq)) (fun q hq => ?_) (fun q hq => ?_) (gow_kept ⟨_, hr', hrc2⟩))
  · rcases hq with hq | hq | hq
    · rcases hmv with e | e
      · exact .inl (.inl (e ▸ hq))
      · exact .inr (.inr (e q hq))
    · exact .inl (.inr hq)
    · exact .inr (.inl hq)
  · rcases hq with hq | hq | hq
    · exact (hr'.ge hq).2
    · exact Nat.lt_of_lt_of_le ((H.ok i _ hi).hi q (.inr hq)) hg.size
    · exact Nat.lt_of_lt_of_le ((H.ok j _ hj).hi q hq) hg.size
/-- A rule whose right side is read comes to a row. -/
theorem appRow (H : Apt w0 w L) (i : Nat) {X Y R : Option Addr} {c d e u n : Nat} {cs : List Bool} {cells : List Value} {r : RuleL} (hi : L[i]? = some (rwi 33 2 X n c cells)) (hl : n ≤ 1000) (hR : Src w R [.int .i64 r.1, .slice Y r.2.length d])
    (hk : ∀ w' X' c', Apt w0 w' (L.set i (rwi 33 2 X' (n + 1) c' (cells ++ [.int .i64 r.1, .slice Y r.2.length d]))) → k (.slice X' (n + 1) c') w') :
    Do Try.prog (sBuiltin .append #[24, 24] u cs [.slice X n c, .slice R 1 e]) k w := by
  have hrow := H.row i hi
  refine do_append2 u24 inf33 rfl (by decide) hrow hR rfl (by intro v hv; simp at hv; rcases hv with rfl | rfl <;> rfl) (by omega) (by omega) H.gr.size fun X' c' w' hr' hg hmv => ?_
  refine hk w' X' c' (H.set hi (it' := rwi 33 2 X' (n + 1) c' (cells ++ [.int .i64 r.1, .slice Y r.2.length d])) (gx_of hg fun q hq => hq) (fun q hq => ?_) (fun q hq => (hr'.ge hq).2) (rwi_kept hr'))
  rcases hmv with h1 | h1
  · exact .inl (show blk X = some q from h1.symm.trans hq)
  · exact .inr (h1 q hq)
end
end Go.Proofs.Ytegcjkhebecgbaa

/- Contract: the useful grammar, by the reference (l3Useful). -/
set_option linter.unusedVariables false
set_option linter.unusedSimpArgs false
set_option maxRecDepth 100000
namespace Go.Proofs.Ytegcjkhebecgbaa
open Go Go.Sh Go.RowKit
section
variable {w : World} {Y : Option Addr} {cy : Nat} {gm : Gram} {k : Value → World → Prop}
set_option maxHeartbeats 6400000 in
theorem l3Useful_c (hG : kG Y cy gm.rules w) (hg : goodG gm = true) (hk : ∀ w' X c, Gr w w' → (usefulR gm.rules).length ≤ c → RulesF (fun q => w.heap.size ≤ q ∧ q < w'.heap.size) w' X (usefulR gm.rules) → k (.agg #[.int .i64 gm.nons, .int .i64 gm.toks, .slice X (usefulR gm.rules).length c]) w') :
    CallK Try.prog 190 [grv gm Y cy] k w := by
  have hgr := goodRules hg
  have hn := good_nons hg
  have hlen := good_len hg
  refine enter190 ?_
  unfold S190
  have H := (Kn.nil w).addG hG.1 hG.2
  refine do_box fun b1 w1 g1 hb1 B1 => ?_
  have H := (H.step g1).addB B1
  refine do_alloc_of inf26 fun b3 w2 g2 hb3 B3 => ?_
  have H := (H.step g2).addB B3
  simp only [List.cons_append, List.nil_append] at H
  rw [ldB_agg agg26 sz26 rfl (H.get 2 rfl)]
  refine l3Close_c (tok := true) (H.get 1 rfl) (by omega) (fun r hr => (hgr r hr).1) (fun r hr => by have := (hgr r hr).2.1; omega) fun w3 XM cM gM hM => ?_
  have H := (H.step gM).addI hM.1 hM.2
  simp only [List.cons_append, List.nil_append] at H
  simp only [bin_add, bin_sub, bin_mul, bin_eql, bin_neq, bin_lss, bin_leq, bin_gtr, bin_geq, un_not, un_neg, pick_true, pick_false, extract_two_0, extract_two_1, nilCheck_pointer, cond_true', cond_false', guard_tt, guard_ff, guard_tf, guard_ft, guard_undef, seqQ_normal, seqQ_ret, seqQ_exit, blockQ_ret, blockQ_normal, blockQ_exit, bodyQ_ret, bodyQ_normal, resK_nil, resK_tmp, ite_T, ite_F, upd_at, add_plain, add_zero', Nat.reduceEqDiff, fa8_0, fa8_1, fa8_2, fa8_3, fa14_0, fa14_1, fa19_0, len22, len24, fa26_0, fa26_1, fa26_2, len27, fa33_0, fa33_1, len35, fa77_0, fa77_1, fa88_0, fa88_1, fa88_2, fa88_3, fa88_4, fa88_5, fa114_0, fa114_1, fa114_2, fa124_0, fa124_1, len134, len136, len154, fa156_0, fa156_1, fa156_2, fa156_3, fa156_4, fa156_5, fa156_6, fa184_0, fa184_1, fa200_0, fa200_1, fa200_2, fa200_3, fa215_0, fa215_1, fa215_2, fa215_3, fa215_4, len218, len271, fa274_0, fa274_1, fa274_2, fa303_0, fa303_1, fa303_2, fa303_3, fa314_0, fa314_1, fa314_2, fa314_3, fa314_4, fa314_5, fa314_6, fa314_7, fa314_8, fa314_9, fa314_10]
  rw [ldB3 (H.get 2 rfl) rfl, ldB3 (H.get 2 rfl) rfl, bd26 (cells := #[.int .i64 gm.nons, .int .i64 gm.toks, .slice none 0 0]) rfl]
  have A := Apt.nil w3
  refine allocH A inf26 fun b4 w4 A => ?_
  refine storeH A 0 rfl sz26 rfl rfl rfl fun w5 A => ?_
  simp only [List.nil_append, List.set_cons_zero] at A
  have A := nilGow (e := 33) A
  simp only [List.cons_append, List.nil_append] at A
  have H5 := H.step A.gr
  rw [ldB24 (H5.get 2 rfl) rfl]
  simp only [bin_add, bin_sub, bin_mul, bin_eql, bin_neq, bin_lss, bin_leq, bin_gtr, bin_geq, un_not, un_neg, pick_true, pick_false, extract_two_0, extract_two_1, nilCheck_pointer, cond_true', cond_false', guard_tt, guard_ff, guard_tf, guard_ft, guard_undef, seqQ_normal, seqQ_ret, seqQ_exit, blockQ_ret, blockQ_normal, blockQ_exit, bodyQ_ret, bodyQ_normal, resK_nil, resK_tmp, ite_T, ite_F, upd_at, add_plain, add_zero', Nat.reduceEqDiff, fa8_0, fa8_1, fa8_2, fa8_3, fa14_0, fa14_1, fa19_0, len22, len24, fa26_0, fa26_1, fa26_2, len27, fa33_0, fa33_1, len35, fa77_0, fa77_1, fa88_0, fa88_1, fa88_2, fa88_3, fa88_4, fa88_5, fa114_0, fa114_1, fa114_2, fa124_0, fa124_1, len134, len136, len154, fa156_0, fa156_1, fa156_2, fa156_3, fa156_4, fa156_5, fa156_6, fa184_0, fa184_1, fa200_0, fa200_1, fa200_2, fa200_3, fa215_0, fa215_1, fa215_2, fa215_3, fa215_4, len218, len271, fa274_0, fa274_1, fa274_2, fa303_0, fa303_1, fa303_2, fa303_3, fa314_0, fa314_1, fa314_2, fa314_3, fa314_4, fa314_5, fa314_6, fa314_7, fa314_8, fa314_9, fa314_10]
  have hrl := (H.get 1 rfl).2.le
  -- the rules that derive something
  refine loop_to gm.rules.length 0 (fun i f w' => i ≤ gm.rules.length ∧ f 24 = .int .i64 (i : Int) ∧ ∃ ft X c, Apt w3 w' [bx b4 [.int .i64 gm.nons, .int .i64 gm.toks, .slice X ((gm.rules.take i).filter (fun r => decide (r.1 ∈ cloV gm true) && r.2.all (tstM (cloV gm true)))).length c] 26, gth ft X c ((gm.rules.take i).filter (fun r => decide (r.1 ∈ cloV gm true) && r.2.all (tstM (cloV gm true))))])
    ⟨Nat.zero_le _, rfl, _, none, 0, A⟩ ?_
  clear A H5
  rintro i f w6 N hag ⟨hi, f24, ft, X, c, A⟩ hN
  have f1 : f 1 = ptrv b1 := hag 1 (by decide)
  have f2 : f 2 = ptrv b3 := hag 2 (by decide)
  have f3 : f 3 = .slice XM (cloV gm true).length cM := hag 3 (by decide)
  have f4 : f 4 = ptrv b4 := hag 4 (by decide)
  have f22 : f 22 = .slice Y gm.rules.length cy := hag 22 (by decide)
  have f23 : f 23 = .int .i64 gm.rules.length := hag 23 (by decide)
  simp only [f3, f22, f23, f24, bin_add, bin_sub, bin_mul, bin_eql, bin_neq, bin_lss, bin_leq, bin_gtr, bin_geq, un_not, un_neg, pick_true, pick_false, extract_two_0, extract_two_1, nilCheck_pointer, cond_true', cond_false', guard_tt, guard_ff, guard_tf, guard_ft, guard_undef, seqQ_normal, seqQ_ret, seqQ_exit, blockQ_ret, blockQ_normal, blockQ_exit, bodyQ_ret, bodyQ_normal, resK_nil, resK_tmp, ite_T, ite_F, upd_at, add_plain, add_zero', Nat.reduceEqDiff, fa8_0, fa8_1, fa8_2, fa8_3, fa14_0, fa14_1, fa19_0, len22, len24, fa26_0, fa26_1, fa26_2, len27, fa33_0, fa33_1, len35, fa77_0, fa77_1, fa88_0, fa88_1, fa88_2, fa88_3, fa88_4, fa88_5, fa114_0, fa114_1, fa114_2, fa124_0, fa124_1, len134, len136, len154, fa156_0, fa156_1, fa156_2, fa156_3, fa156_4, fa156_5, fa156_6, fa184_0, fa184_1, fa200_0, fa200_1, fa200_2, fa200_3, fa215_0, fa215_1, fa215_2, fa215_3, fa215_4, len218, len271, fa274_0, fa274_1, fa274_2, fa303_0, fa303_1, fa303_2, fa303_3, fa314_0, fa314_1, fa314_2, fa314_3, fa314_4, fa314_5, fa314_6, fa314_7, fa314_8, fa314_9, fa314_10]
  have H := H.step A.gr
  by_cases hlt : i < gm.rules.length
  case pos =>
    simp only [show ((i : Int) < (gm.rules.length : Int)) from by omega, decide_true, bin_add, bin_sub, bin_mul, bin_eql, bin_neq, bin_lss, bin_leq, bin_gtr, bin_geq, un_not, un_neg, pick_true, pick_false, extract_two_0, extract_two_1, nilCheck_pointer, cond_true', cond_false', guard_tt, guard_ff, guard_tf, guard_ft, guard_undef, seqQ_normal, seqQ_ret, seqQ_exit, blockQ_ret, blockQ_normal, blockQ_exit, bodyQ_ret, bodyQ_normal, resK_nil, resK_tmp, ite_T, ite_F, upd_at, add_plain, add_zero', Nat.reduceEqDiff, fa8_0, fa8_1, fa8_2, fa8_3, fa14_0, fa14_1, fa19_0, len22, len24, fa26_0, fa26_1, fa26_2, len27, fa33_0, fa33_1, len35, fa77_0, fa77_1, fa88_0, fa88_1, fa88_2, fa88_3, fa88_4, fa88_5, fa114_0, fa114_1, fa114_2, fa124_0, fa124_1, len134, len136, len154, fa156_0, fa156_1, fa156_2, fa156_3, fa156_4, fa156_5, fa156_6, fa184_0, fa184_1, fa200_0, fa200_1, fa200_2, fa200_3, fa215_0, fa215_1, fa215_2, fa215_3, fa215_4, len218, len271, fa274_0, fa274_1, fa274_2, fa303_0, fa303_1, fa303_2, fa303_3, fa314_0, fa314_1, fa314_2, fa314_3, fa314_4, fa314_5, fa314_6, fa314_7, fa314_8, fa314_9, fa314_10]
    have hrm : rul gm.rules i ∈ gm.rules := by rw [rul_eq hlt]; exact List.getElem_mem hlt
    have hfl := List.length_filter_le (fun r => decide (r.1 ∈ cloV gm true) && r.2.all (tstM (cloV gm true))) (gm.rules.take i)
    rw [List.length_take] at hfl
    have hsucc := filter_take_succ (p := fun r : RuleL => decide (r.1 ∈ cloV gm true) && r.2.all (tstM (cloV gm true))) hlt
    generalize hqs : (gm.rules.take i).filter (fun r => decide (r.1 ∈ cloV gm true) && r.2.all (tstM (cloV gm true))) = qs at *
    refine join_as (fun f w' => f 24 = .int .i64 (i : Int) ∧ ∃ ft X c, Apt w3 w' [bx b4 [.int .i64 gm.nons, .int .i64 gm.toks, .slice X ((gm.rules.take (i + 1)).filter (fun r => decide (r.1 ∈ cloV gm true) && r.2.all (tstM (cloV gm true)))).length c] 26, gth ft X c ((gm.rules.take (i + 1)).filter (fun r => decide (r.1 ∈ cloV gm true) && r.2.all (tstM (cloV gm true))))]) (fun K hK => ?_) ?_
    case refine_2 =>
      rintro f w' ⟨f24, h⟩
      simp only [f24, bin_add, bin_sub, bin_mul, bin_eql, bin_neq, bin_lss, bin_leq, bin_gtr, bin_geq, un_not, un_neg, pick_true, pick_false, extract_two_0, extract_two_1, nilCheck_pointer, cond_true', cond_false', guard_tt, guard_ff, guard_tf, guard_ft, guard_undef, seqQ_normal, seqQ_ret, seqQ_exit, blockQ_ret, blockQ_normal, blockQ_exit, bodyQ_ret, bodyQ_normal, resK_nil, resK_tmp, ite_T, ite_F, upd_at, add_plain, add_zero', Nat.reduceEqDiff, fa8_0, fa8_1, fa8_2, fa8_3, fa14_0, fa14_1, fa19_0, len22, len24, fa26_0, fa26_1, fa26_2, len27, fa33_0, fa33_1, len35, fa77_0, fa77_1, fa88_0, fa88_1, fa88_2, fa88_3, fa88_4, fa88_5, fa114_0, fa114_1, fa114_2, fa124_0, fa124_1, len134, len136, len154, fa156_0, fa156_1, fa156_2, fa156_3, fa156_4, fa156_5, fa156_6, fa184_0, fa184_1, fa200_0, fa200_1, fa200_2, fa200_3, fa215_0, fa215_1, fa215_2, fa215_3, fa215_4, len218, len271, fa274_0, fa274_1, fa274_2, fa303_0, fa303_1, fa303_2, fa303_3, fa314_0, fa314_1, fa314_2, fa314_3, fa314_4, fa314_5, fa314_6, fa314_7, fa314_8, fa314_9, fa314_10]
      rw [i64_of (by omega) (by omega)]
      exact hN _ _ hlt ⟨by omega, rfl, h⟩
    have hRF := (H.get 1 rfl).2
    refine rdi (ixn24 hRF.ptr hlt) ?_
    refine ld_rule agg33 sz33 hRF hlt fun v hv => ?_
    obtain ⟨Z, cz, rfl, hcz, hZ⟩ := hv
    have H := H.addI hZ.is hcz
    refine do_alloc_of inf33 fun b9 w7 g7 hb9 B9 => ?_
    refine do_store (n := 2) sz33 rfl (by intro u hu; simp [Value.cells] at hu; rcases hu with rfl | rfl <;> rfl) B9 (by simp [Value.cells]) fun w8 g8 _ B8 => ?_
    have g68 : Gr w6 w8 := gr_mod g7 g8 fun q hq => by
      obtain rfl := Option.some.inj hq
      exact hb9
    have B8 : Box w8 b9 [.int .i64 (rul gm.rules i).1, .slice Z (rul gm.rules i).2.length cz] 33 := B8
    have H := (H.step g68).addB B8
    simp only [List.cons_append, List.nil_append] at H
    have A := A.step g68
    simp only [bin_add, bin_sub, bin_mul, bin_eql, bin_neq, bin_lss, bin_leq, bin_gtr, bin_geq, un_not, un_neg, pick_true, pick_false, extract_two_0, extract_two_1, nilCheck_pointer, cond_true', cond_false', guard_tt, guard_ff, guard_tf, guard_ft, guard_undef, seqQ_normal, seqQ_ret, seqQ_exit, blockQ_ret, blockQ_normal, blockQ_exit, bodyQ_ret, bodyQ_normal, resK_nil, resK_tmp, ite_T, ite_F, upd_at, add_plain, add_zero', Nat.reduceEqDiff, fa8_0, fa8_1, fa8_2, fa8_3, fa14_0, fa14_1, fa19_0, len22, len24, fa26_0, fa26_1, fa26_2, len27, fa33_0, fa33_1, len35, fa77_0, fa77_1, fa88_0, fa88_1, fa88_2, fa88_3, fa88_4, fa88_5, fa114_0, fa114_1, fa114_2, fa124_0, fa124_1, len134, len136, len154, fa156_0, fa156_1, fa156_2, fa156_3, fa156_4, fa156_5, fa156_6, fa184_0, fa184_1, fa200_0, fa200_1, fa200_2, fa200_3, fa215_0, fa215_1, fa215_2, fa215_3, fa215_4, len218, len271, fa274_0, fa274_1, fa274_2, fa303_0, fa303_1, fa303_2, fa303_3, fa314_0, fa314_1, fa314_2, fa314_3, fa314_4, fa314_5, fa314_6, fa314_7, fa314_8, fa314_9, fa314_10]
    rw [ldB3 (H.get 6 rfl) rfl]
    refine l1Has_c (H.get 4 rfl).1 fun w9 g9 => ?_
    have H := H.step g9
    have A := A.step g9
    rw [ldB27 (H.get 6 rfl) rfl]
    simp only [bin_add, bin_sub, bin_mul, bin_eql, bin_neq, bin_lss, bin_leq, bin_gtr, bin_geq, un_not, un_neg, pick_true, pick_false, extract_two_0, extract_two_1, nilCheck_pointer, cond_true', cond_false', guard_tt, guard_ff, guard_tf, guard_ft, guard_undef, seqQ_normal, seqQ_ret, seqQ_exit, blockQ_ret, blockQ_normal, blockQ_exit, bodyQ_ret, bodyQ_normal, resK_nil, resK_tmp, ite_T, ite_F, upd_at, add_plain, add_zero', Nat.reduceEqDiff, fa8_0, fa8_1, fa8_2, fa8_3, fa14_0, fa14_1, fa19_0, len22, len24, fa26_0, fa26_1, fa26_2, len27, fa33_0, fa33_1, len35, fa77_0, fa77_1, fa88_0, fa88_1, fa88_2, fa88_3, fa88_4, fa88_5, fa114_0, fa114_1, fa114_2, fa124_0, fa124_1, len134, len136, len154, fa156_0, fa156_1, fa156_2, fa156_3, fa156_4, fa156_5, fa156_6, fa184_0, fa184_1, fa200_0, fa200_1, fa200_2, fa200_3, fa215_0, fa215_1, fa215_2, fa215_3, fa215_4, len218, len271, fa274_0, fa274_1, fa274_2, fa303_0, fa303_1, fa303_2, fa303_3, fa314_0, fa314_1, fa314_2, fa314_3, fa314_4, fa314_5, fa314_6, fa314_7, fa314_8, fa314_9, fa314_10]
    refine loop_to (rul gm.rules i).2.length 0 (fun j f w' => j ≤ (rul gm.rules i).2.length ∧ f 35 = .int .i64 (j : Int) ∧ f 7 = .bool (decide ((rul gm.rules i).1 ∈ cloV gm true) && ((rul gm.rules i).2.take j).all (tstM (cloV gm true))) ∧ Gr w9 w')
      ⟨Nat.zero_le _, rfl, by simp; rfl, Gr.refl _⟩ ?_
    rintro j r w10 N3 hag3 ⟨hj, r35, r7, g10⟩ hN3
    have r3 : r 3 = .slice XM (cloV gm true).length cM := (hag3 3 (by decide)).trans f3
    have r4 : r 4 = ptrv b4 := (hag3 4 (by decide)).trans f4
    have r6 : r 6 = ptrv b9 := hag3 6 (by decide)
    have r24 : r 24 = .int .i64 (i : Int) := (hag3 24 (by decide)).trans f24
    have r33 : r 33 = .slice Z (rul gm.rules i).2.length cz := hag3 33 (by decide)
    have r34 : r 34 = .int .i64 ((rul gm.rules i).2.length : Int) := hag3 34 (by decide)
    simp only [r3, r33, r34, r35, r7, bin_add, bin_sub, bin_mul, bin_eql, bin_neq, bin_lss, bin_leq, bin_gtr, bin_geq, un_not, un_neg, pick_true, pick_false, extract_two_0, extract_two_1, nilCheck_pointer, cond_true', cond_false', guard_tt, guard_ff, guard_tf, guard_ft, guard_undef, seqQ_normal, seqQ_ret, seqQ_exit, blockQ_ret, blockQ_normal, blockQ_exit, bodyQ_ret, bodyQ_normal, resK_nil, resK_tmp, ite_T, ite_F, upd_at, add_plain, add_zero', Nat.reduceEqDiff, fa8_0, fa8_1, fa8_2, fa8_3, fa14_0, fa14_1, fa19_0, len22, len24, fa26_0, fa26_1, fa26_2, len27, fa33_0, fa33_1, len35, fa77_0, fa77_1, fa88_0, fa88_1, fa88_2, fa88_3, fa88_4, fa88_5, fa114_0, fa114_1, fa114_2, fa124_0, fa124_1, len134, len136, len154, fa156_0, fa156_1, fa156_2, fa156_3, fa156_4, fa156_5, fa156_6, fa184_0, fa184_1, fa200_0, fa200_1, fa200_2, fa200_3, fa215_0, fa215_1, fa215_2, fa215_3, fa215_4, len218, len271, fa274_0, fa274_1, fa274_2, fa303_0, fa303_1, fa303_2, fa303_3, fa314_0, fa314_1, fa314_2, fa314_3, fa314_4, fa314_5, fa314_6, fa314_7, fa314_8, fa314_9, fa314_10]
    have H := H.step g10
    have A := A.step g10
    by_cases hlt2 : j < (rul gm.rules i).2.length
    case neg =>
      simp only [show ¬ ((j : Int) < ((rul gm.rules i).2.length : Int)) from by omega, decide_false, r4, r6, r7, bin_add, bin_sub, bin_mul, bin_eql, bin_neq, bin_lss, bin_leq, bin_gtr, bin_geq, un_not, un_neg, pick_true, pick_false, extract_two_0, extract_two_1, nilCheck_pointer, cond_true', cond_false', guard_tt, guard_ff, guard_tf, guard_ft, guard_undef, seqQ_normal, seqQ_ret, seqQ_exit, blockQ_ret, blockQ_normal, blockQ_exit, bodyQ_ret, bodyQ_normal, resK_nil, resK_tmp, ite_T, ite_F, upd_at, add_plain, add_zero', Nat.reduceEqDiff, fa8_0, fa8_1, fa8_2, fa8_3, fa14_0, fa14_1, fa19_0, len22, len24, fa26_0, fa26_1, fa26_2, len27, fa33_0, fa33_1, len35, fa77_0, fa77_1, fa88_0, fa88_1, fa88_2, fa88_3, fa88_4, fa88_5, fa114_0, fa114_1, fa114_2, fa124_0, fa124_1, len134, len136, len154, fa156_0, fa156_1, fa156_2, fa156_3, fa156_4, fa156_5, fa156_6, fa184_0, fa184_1, fa200_0, fa200_1, fa200_2, fa200_3, fa215_0, fa215_1, fa215_2, fa215_3, fa215_4, len218, len271, fa274_0, fa274_1, fa274_2, fa303_0, fa303_1, fa303_2, fa303_3, fa314_0, fa314_1, fa314_2, fa314_3, fa314_4, fa314_5, fa314_6, fa314_7, fa314_8, fa314_9, fa314_10]
      rw [List.take_of_length_le (by omega)]
      cases hp : (decide ((rul gm.rules i).1 ∈ cloV gm true) && (rul gm.rules i).2.all (tstM (cloV gm true)))
      · simp only [bin_add, bin_sub, bin_mul, bin_eql, bin_neq, bin_lss, bin_leq, bin_gtr, bin_geq, un_not, un_neg, pick_true, pick_false, extract_two_0, extract_two_1, nilCheck_pointer, cond_true', cond_false', guard_tt, guard_ff, guard_tf, guard_ft, guard_undef, seqQ_normal, seqQ_ret, seqQ_exit, blockQ_ret, blockQ_normal, blockQ_exit, bodyQ_ret, bodyQ_normal, resK_nil, resK_tmp, ite_T, ite_F, upd_at, add_plain, add_zero', Nat.reduceEqDiff, fa8_0, fa8_1, fa8_2, fa8_3, fa14_0, fa14_1, fa19_0, len22, len24, fa26_0, fa26_1, fa26_2, len27, fa33_0, fa33_1, len35, fa77_0, fa77_1, fa88_0, fa88_1, fa88_2, fa88_3, fa88_4, fa88_5, fa114_0, fa114_1, fa114_2, fa124_0, fa124_1, len134, len136, len154, fa156_0, fa156_1, fa156_2, fa156_3, fa156_4, fa156_5, fa156_6, fa184_0, fa184_1, fa200_0, fa200_1, fa200_2, fa200_3, fa215_0, fa215_1, fa215_2, fa215_3, fa215_4, len218, len271, fa274_0, fa274_1, fa274_2, fa303_0, fa303_1, fa303_2, fa303_3, fa314_0, fa314_1, fa314_2, fa314_3, fa314_4, fa314_5, fa314_6, fa314_7, fa314_8, fa314_9, fa314_10]
        rw [hp, if_neg Bool.false_ne_true, List.append_nil] at hsucc
        refine hK _ _ ⟨r24, ft, X, c, ?_⟩
        rw [hsucc]
        exact A
      · simp only [bin_add, bin_sub, bin_mul, bin_eql, bin_neq, bin_lss, bin_leq, bin_gtr, bin_geq, un_not, un_neg, pick_true, pick_false, extract_two_0, extract_two_1, nilCheck_pointer, cond_true', cond_false', guard_tt, guard_ff, guard_tf, guard_ft, guard_undef, seqQ_normal, seqQ_ret, seqQ_exit, blockQ_ret, blockQ_normal, blockQ_exit, bodyQ_ret, bodyQ_normal, resK_nil, resK_tmp, ite_T, ite_F, upd_at, add_plain, add_zero', Nat.reduceEqDiff, fa8_0, fa8_1, fa8_2, fa8_3, fa14_0, fa14_1, fa19_0, len22, len24, fa26_0, fa26_1, fa26_2, len27, fa33_0, fa33_1, len35, fa77_0, fa77_1, fa88_0, fa88_1, fa88_2, fa88_3, fa88_4, fa88_5, fa114_0, fa114_1, fa114_2, fa124_0, fa124_1, len134, len136, len154, fa156_0, fa156_1, fa156_2, fa156_3, fa156_4, fa156_5, fa156_6, fa184_0, fa184_1, fa200_0, fa200_1, fa200_2, fa200_3, fa215_0, fa215_1, fa215_2, fa215_3, fa215_4, len218, len271, fa274_0, fa274_1, fa274_2, fa303_0, fa303_1, fa303_2, fa303_3, fa314_0, fa314_1, fa314_2, fa314_3, fa314_4, fa314_5, fa314_6, fa314_7, fa314_8, fa314_9, fa314_10]
        rw [hp, if_pos rfl] at hsucc
        have H := H.drew
        have A := A.drew
        refine ⟨fun w' => Gr w10.drew w', Gr.refl _, ?_⟩
        refine rdi (rdG one24 (A.box 0 rfl) rfl) ?_
        refine rdi (rdG one3 (H.get 6 rfl) rfl) ?_
        refine rdi (rdG one27 (H.get 6 rfl) rfl) ?_
        have hr4 := (hgr _ hrm).2.1
        refine l1Own_c (H.get 5 rfl).1 rfl (by omega) fun X1 d1 w11 g11 o1 => ?_
        have H := H.step g11
        have A := A.addOwn g11 o1
        simp only [List.cons_append, List.nil_append] at A
        refine ⟨g11, ?_⟩
        rw [bd33 (cells := #[.int .i64 (rul gm.rules i).1, .slice X1 (rul gm.rules i).2.length d1]) rfl]
        refine do_build_of u24 inf33 (cells := [.int .i64 (rul gm.rules i).1, .slice X1 (rul gm.rules i).2.length d1]) (by decide) (by decide) (by simp [Instr.fill, madeCells, Value.cells, rng1, rng2]) rfl fun b5 w12 hb5 hb6 g12 _ r5 => ?_
        refine ⟨gr_trans g11 g12, ?_⟩
        have A := A.step g12
        refine appG A 1 2 (by decide) rfl rfl (by omega) (Row.src (r5 _ (Nat.le_refl _))) fun w13 ft' X' c' A => ?_
        simp only [List.set_cons_zero, List.set_cons_succ] at A
        refine storeH A 0 rfl sz24 rfl rfl rfl fun w14 A => ?_
        simp only [List.set_cons_zero, List.set_cons_succ, List.take_succ_cons, List.take_zero, List.drop_succ_cons, List.drop_zero, List.nil_append, List.cons_append, Value.cells] at A
        have A := A.erase 2
        simp only [List.eraseIdx_cons_zero, List.eraseIdx_cons_succ] at A
        refine hK _ _ ⟨r24, ft', X', c', ?_⟩
        rw [hsucc]
        exact A
    simp only [show ((j : Int) < ((rul gm.rules i).2.length : Int)) from by omega, decide_true, bin_add, bin_sub, bin_mul, bin_eql, bin_neq, bin_lss, bin_leq, bin_gtr, bin_geq, un_not, un_neg, pick_true, pick_false, extract_two_0, extract_two_1, nilCheck_pointer, cond_true', cond_false', guard_tt, guard_ff, guard_tf, guard_ft, guard_undef, seqQ_normal, seqQ_ret, seqQ_exit, blockQ_ret, blockQ_normal, blockQ_exit, bodyQ_ret, bodyQ_normal, resK_nil, resK_tmp, ite_T, ite_F, upd_at, add_plain, add_zero', Nat.reduceEqDiff, fa8_0, fa8_1, fa8_2, fa8_3, fa14_0, fa14_1, fa19_0, len22, len24, fa26_0, fa26_1, fa26_2, len27, fa33_0, fa33_1, len35, fa77_0, fa77_1, fa88_0, fa88_1, fa88_2, fa88_3, fa88_4, fa88_5, fa114_0, fa114_1, fa114_2, fa124_0, fa124_1, len134, len136, len154, fa156_0, fa156_1, fa156_2, fa156_3, fa156_4, fa156_5, fa156_6, fa184_0, fa184_1, fa200_0, fa200_1, fa200_2, fa200_3, fa215_0, fa215_1, fa215_2, fa215_3, fa215_4, len218, len271, fa274_0, fa274_1, fa274_2, fa303_0, fa303_1, fa303_2, fa303_3, fa314_0, fa314_1, fa314_2, fa314_3, fa314_4, fa314_5, fa314_6, fa314_7, fa314_8, fa314_9, fa314_10]
    have hZ' := (H.get 5 rfl).1
    refine rdi (ixn27 hZ'.ptr hlt2) (rdi (ld3 (hZ'.cell j hlt2)) ?_)
    have hall := all_take_succ (p := tstM (cloV gm true)) hlt2
    have hle27 := hZ'.le
    generalize hx : (rul gm.rules i).2.getD j 0 = x at *
    have step : ∀ (bb : Bool) (w' : World) (f' : F), Gr w10 w' → f' 35 = .int .i64 ((j : Int) + 1) → f' 7 = .bool bb → bb = (decide ((rul gm.rules i).1 ∈ cloV gm true) && ((rul gm.rules i).2.take (j + 1)).all (tstM (cloV gm true))) → N3 f' w' := fun bb w' f' g' e1 e2 e3 => by
      refine hN3 f' w' hlt2 ⟨by omega, by rw [e1]; rfl, by rw [e2, e3], gr_trans g10 g'⟩
    cases hacc : (decide ((rul gm.rules i).1 ∈ cloV gm true) && ((rul gm.rules i).2.take j).all (tstM (cloV gm true)))
    · simp only [bin_add, bin_sub, bin_mul, bin_eql, bin_neq, bin_lss, bin_leq, bin_gtr, bin_geq, un_not, un_neg, pick_true, pick_false, extract_two_0, extract_two_1, nilCheck_pointer, cond_true', cond_false', guard_tt, guard_ff, guard_tf, guard_ft, guard_undef, seqQ_normal, seqQ_ret, seqQ_exit, blockQ_ret, blockQ_normal, blockQ_exit, bodyQ_ret, bodyQ_normal, resK_nil, resK_tmp, ite_T, ite_F, upd_at, add_plain, add_zero', Nat.reduceEqDiff, fa8_0, fa8_1, fa8_2, fa8_3, fa14_0, fa14_1, fa19_0, len22, len24, fa26_0, fa26_1, fa26_2, len27, fa33_0, fa33_1, len35, fa77_0, fa77_1, fa88_0, fa88_1, fa88_2, fa88_3, fa88_4, fa88_5, fa114_0, fa114_1, fa114_2, fa124_0, fa124_1, len134, len136, len154, fa156_0, fa156_1, fa156_2, fa156_3, fa156_4, fa156_5, fa156_6, fa184_0, fa184_1, fa200_0, fa200_1, fa200_2, fa200_3, fa215_0, fa215_1, fa215_2, fa215_3, fa215_4, len218, len271, fa274_0, fa274_1, fa274_2, fa303_0, fa303_1, fa303_2, fa303_3, fa314_0, fa314_1, fa314_2, fa314_3, fa314_4, fa314_5, fa314_6, fa314_7, fa314_8, fa314_9, fa314_10]
      rw [i64_of (by omega) (by omega)]
      refine step false _ _ (Gr.refl _) rfl rfl ?_
      rw [hall, ← Bool.and_assoc, hacc, Bool.false_and]
    · simp only [bin_add, bin_sub, bin_mul, bin_eql, bin_neq, bin_lss, bin_leq, bin_gtr, bin_geq, un_not, un_neg, pick_true, pick_false, extract_two_0, extract_two_1, nilCheck_pointer, cond_true', cond_false', guard_tt, guard_ff, guard_tf, guard_ft, guard_undef, seqQ_normal, seqQ_ret, seqQ_exit, blockQ_ret, blockQ_normal, blockQ_exit, bodyQ_ret, bodyQ_normal, resK_nil, resK_tmp, ite_T, ite_F, upd_at, add_plain, add_zero', Nat.reduceEqDiff, fa8_0, fa8_1, fa8_2, fa8_3, fa14_0, fa14_1, fa19_0, len22, len24, fa26_0, fa26_1, fa26_2, len27, fa33_0, fa33_1, len35, fa77_0, fa77_1, fa88_0, fa88_1, fa88_2, fa88_3, fa88_4, fa88_5, fa114_0, fa114_1, fa114_2, fa124_0, fa124_1, len134, len136, len154, fa156_0, fa156_1, fa156_2, fa156_3, fa156_4, fa156_5, fa156_6, fa184_0, fa184_1, fa200_0, fa200_1, fa200_2, fa200_3, fa215_0, fa215_1, fa215_2, fa215_3, fa215_4, len218, len271, fa274_0, fa274_1, fa274_2, fa303_0, fa303_1, fa303_2, fa303_3, fa314_0, fa314_1, fa314_2, fa314_3, fa314_4, fa314_5, fa314_6, fa314_7, fa314_8, fa314_9, fa314_10]
      by_cases hx0 : x < 0
      · simp only [hx0, decide_true, bin_add, bin_sub, bin_mul, bin_eql, bin_neq, bin_lss, bin_leq, bin_gtr, bin_geq, un_not, un_neg, pick_true, pick_false, extract_two_0, extract_two_1, nilCheck_pointer, cond_true', cond_false', guard_tt, guard_ff, guard_tf, guard_ft, guard_undef, seqQ_normal, seqQ_ret, seqQ_exit, blockQ_ret, blockQ_normal, blockQ_exit, bodyQ_ret, bodyQ_normal, resK_nil, resK_tmp, ite_T, ite_F, upd_at, add_plain, add_zero', Nat.reduceEqDiff, fa8_0, fa8_1, fa8_2, fa8_3, fa14_0, fa14_1, fa19_0, len22, len24, fa26_0, fa26_1, fa26_2, len27, fa33_0, fa33_1, len35, fa77_0, fa77_1, fa88_0, fa88_1, fa88_2, fa88_3, fa88_4, fa88_5, fa114_0, fa114_1, fa114_2, fa124_0, fa124_1, len134, len136, len154, fa156_0, fa156_1, fa156_2, fa156_3, fa156_4, fa156_5, fa156_6, fa184_0, fa184_1, fa200_0, fa200_1, fa200_2, fa200_3, fa215_0, fa215_1, fa215_2, fa215_3, fa215_4, len218, len271, fa274_0, fa274_1, fa274_2, fa303_0, fa303_1, fa303_2, fa303_3, fa314_0, fa314_1, fa314_2, fa314_3, fa314_4, fa314_5, fa314_6, fa314_7, fa314_8, fa314_9, fa314_10]
        rw [i64_of (by omega) (by omega)]
        refine step true _ _ (Gr.refl _) rfl rfl ?_
        rw [hall, ← Bool.and_assoc, hacc]
        simp [tstM, hx0]
      · simp only [hx0, decide_false, bin_add, bin_sub, bin_mul, bin_eql, bin_neq, bin_lss, bin_leq, bin_gtr, bin_geq, un_not, un_neg, pick_true, pick_false, extract_two_0, extract_two_1, nilCheck_pointer, cond_true', cond_false', guard_tt, guard_ff, guard_tf, guard_ft, guard_undef, seqQ_normal, seqQ_ret, seqQ_exit, blockQ_ret, blockQ_normal, blockQ_exit, bodyQ_ret, bodyQ_normal, resK_nil, resK_tmp, ite_T, ite_F, upd_at, add_plain, add_zero', Nat.reduceEqDiff, fa8_0, fa8_1, fa8_2, fa8_3, fa14_0, fa14_1, fa19_0, len22, len24, fa26_0, fa26_1, fa26_2, len27, fa33_0, fa33_1, len35, fa77_0, fa77_1, fa88_0, fa88_1, fa88_2, fa88_3, fa88_4, fa88_5, fa114_0, fa114_1, fa114_2, fa124_0, fa124_1, len134, len136, len154, fa156_0, fa156_1, fa156_2, fa156_3, fa156_4, fa156_5, fa156_6, fa184_0, fa184_1, fa200_0, fa200_1, fa200_2, fa200_3, fa215_0, fa215_1, fa215_2, fa215_3, fa215_4, len218, len271, fa274_0, fa274_1, fa274_2, fa303_0, fa303_1, fa303_2, fa303_3, fa314_0, fa314_1, fa314_2, fa314_3, fa314_4, fa314_5, fa314_6, fa314_7, fa314_8, fa314_9, fa314_10]
        refine l1Has_c (H.get 4 rfl).1 fun w11 g11 => ?_
        rw [i64_of (by omega) (by omega)]
        refine step (decide (x ∈ cloV gm true)) _ _ g11 rfl rfl ?_
        rw [hall, ← Bool.and_assoc, hacc]
        simp [tstM, hx0]
  -- and are reached
  simp only [show ¬ ((i : Int) < (gm.rules.length : Int)) from by omega, decide_false, f1, f2, f4, bin_add, bin_sub, bin_mul, bin_eql, bin_neq, bin_lss, bin_leq, bin_gtr, bin_geq, un_not, un_neg, pick_true, pick_false, extract_two_0, extract_two_1, nilCheck_pointer, cond_true', cond_false', guard_tt, guard_ff, guard_tf, guard_ft, guard_undef, seqQ_normal, seqQ_ret, seqQ_exit, blockQ_ret, blockQ_normal, blockQ_exit, bodyQ_ret, bodyQ_normal, resK_nil, resK_tmp, ite_T, ite_F, upd_at, add_plain, add_zero', Nat.reduceEqDiff, fa8_0, fa8_1, fa8_2, fa8_3, fa14_0, fa14_1, fa19_0, len22, len24, fa26_0, fa26_1, fa26_2, len27, fa33_0, fa33_1, len35, fa77_0, fa77_1, fa88_0, fa88_1, fa88_2, fa88_3, fa88_4, fa88_5, fa114_0, fa114_1, fa114_2, fa124_0, fa124_1, len134, len136, len154, fa156_0, fa156_1, fa156_2, fa156_3, fa156_4, fa156_5, fa156_6, fa184_0, fa184_1, fa200_0, fa200_1, fa200_2, fa200_3, fa215_0, fa215_1, fa215_2, fa215_3, fa215_4, len218, len271, fa274_0, fa274_1, fa274_2, fa303_0, fa303_1, fa303_2, fa303_3, fa314_0, fa314_1, fa314_2, fa314_3, fa314_4, fa314_5, fa314_6, fa314_7, fa314_8, fa314_9, fa314_10]
  have hmade : (gm.rules.take i).filter (fun r => decide (r.1 ∈ cloV gm true) && r.2.all (tstM (cloV gm true))) = madeR gm.rules := by
    rw [List.take_of_length_le (by omega), ← madeR_eq hg gm.rules fun r hr => hr]
    rfl
  rw [hmade] at A
  have hsub : ∀ r ∈ madeR gm.rules, r ∈ gm.rules := fun r hr => (madeR_mem.1 hr).1
  have hml : (madeR gm.rules).length ≤ 16 := Nat.le_trans (List.length_filter_le _ _) hlen
  generalize hms : madeR gm.rules = ms at *
  have hmG := gowK (A.gow 1 rfl)
  have hmF := (A.gow 1 rfl).readF
  have hfoot : ∀ q, (blk X = some q ∨ ft q) → w3.heap.size ≤ q ∧ q < w6.heap.size := fun q hq => ⟨(A.ok 1 _ rfl).lo q hq, (A.ok 1 _ rfl).hi q hq⟩
  rw [ldB_agg agg26 sz26 rfl (A.box 0 rfl)]
  refine l3Reached_c (gm := ⟨gm.nons, gm.toks, ms⟩) hmG (by omega) (fun r hr x hx => ((hgr r (hsub r hr)).2.2 x hx).2) (fun r hr => (hgr r (hsub r hr)).1.1) (fun r hr => by have := (hgr r (hsub r hr)).2.1; dsimp only at *; omega) fun w7 XR cR gR hR => ?_
  have H := H.step gR
  have hmF := hmF.gr gR
  rw [ldB3 (H.get 2 rfl) rfl, ldB3 (H.get 2 rfl) rfl, bd26 (cells := #[.int .i64 gm.nons, .int .i64 gm.toks, .slice none 0 0]) rfl]
  have A4 := (A.box 0 rfl).gr gR
  have G := Apt.nil w7
  refine allocH G inf26 fun b92 w8 G => ?_
  refine storeH G 0 rfl sz26 rfl rfl rfl fun w9 G => ?_
  simp only [List.nil_append, List.set_cons_zero] at G
  have G := G.addNil 33 2
  simp only [List.cons_append, List.nil_append] at G
  rw [ldB24 (A4.gr G.gr) rfl]
  simp only [bin_add, bin_sub, bin_mul, bin_eql, bin_neq, bin_lss, bin_leq, bin_gtr, bin_geq, un_not, un_neg, pick_true, pick_false, extract_two_0, extract_two_1, nilCheck_pointer, cond_true', cond_false', guard_tt, guard_ff, guard_tf, guard_ft, guard_undef, seqQ_normal, seqQ_ret, seqQ_exit, blockQ_ret, blockQ_normal, blockQ_exit, bodyQ_ret, bodyQ_normal, resK_nil, resK_tmp, ite_T, ite_F, upd_at, add_plain, add_zero', Nat.reduceEqDiff, fa8_0, fa8_1, fa8_2, fa8_3, fa14_0, fa14_1, fa19_0, len22, len24, fa26_0, fa26_1, fa26_2, len27, fa33_0, fa33_1, len35, fa77_0, fa77_1, fa88_0, fa88_1, fa88_2, fa88_3, fa88_4, fa88_5, fa114_0, fa114_1, fa114_2, fa124_0, fa124_1, len134, len136, len154, fa156_0, fa156_1, fa156_2, fa156_3, fa156_4, fa156_5, fa156_6, fa184_0, fa184_1, fa200_0, fa200_1, fa200_2, fa200_3, fa215_0, fa215_1, fa215_2, fa215_3, fa215_4, len218, len271, fa274_0, fa274_1, fa274_2, fa303_0, fa303_1, fa303_2, fa303_3, fa314_0, fa314_1, fa314_2, fa314_3, fa314_4, fa314_5, fa314_6, fa314_7, fa314_8, fa314_9, fa314_10]
  have hR2 := hR.1
  refine loop_to ms.length 0 (fun i f w' => i ≤ ms.length ∧ f 73 = .int .i64 (i : Int) ∧ ∃ X2 c2 cells, RuleCells (fun q => blk X = some q ∨ ft q) w7 ((ms.take i).filter (fun r => decide (r.1 ∈ rchV ⟨gm.nons, gm.toks, ms⟩))) cells ∧ Apt w7 w' [bx b92 [.int .i64 gm.nons, .int .i64 gm.toks, .slice X2 ((ms.take i).filter (fun r => decide (r.1 ∈ rchV ⟨gm.nons, gm.toks, ms⟩))).length c2] 26, rwi 33 2 X2 ((ms.take i).filter (fun r => decide (r.1 ∈ rchV ⟨gm.nons, gm.toks, ms⟩))).length c2 cells])
    ⟨Nat.zero_le _, rfl, none, 0, [], .nil, G⟩ ?_
  clear G
  rintro l q w10 N2 hag2 ⟨hl, q73, X2, c2, cells, hcells, G⟩ hN2
  have q2 : q 2 = ptrv b3 := (hag2 2 (by decide)).trans f2
  have q10 : q 10 = .slice XR (rchV ⟨gm.nons, gm.toks, ms⟩).length cR := hag2 10 (by decide)
  have q11 : q 11 = ptrv b92 := hag2 11 (by decide)
  have q71 : q 71 = .slice X ms.length c := hag2 71 (by decide)
  have q72 : q 72 = .int .i64 ms.length := hag2 72 (by decide)
  simp only [q71, q72, q73, bin_add, bin_sub, bin_mul, bin_eql, bin_neq, bin_lss, bin_leq, bin_gtr, bin_geq, un_not, un_neg, pick_true, pick_false, extract_two_0, extract_two_1, nilCheck_pointer, cond_true', cond_false', guard_tt, guard_ff, guard_tf, guard_ft, guard_undef, seqQ_normal, seqQ_ret, seqQ_exit, blockQ_ret, blockQ_normal, blockQ_exit, bodyQ_ret, bodyQ_normal, resK_nil, resK_tmp, ite_T, ite_F, upd_at, add_plain, add_zero', Nat.reduceEqDiff, fa8_0, fa8_1, fa8_2, fa8_3, fa14_0, fa14_1, fa19_0, len22, len24, fa26_0, fa26_1, fa26_2, len27, fa33_0, fa33_1, len35, fa77_0, fa77_1, fa88_0, fa88_1, fa88_2, fa88_3, fa88_4, fa88_5, fa114_0, fa114_1, fa114_2, fa124_0, fa124_1, len134, len136, len154, fa156_0, fa156_1, fa156_2, fa156_3, fa156_4, fa156_5, fa156_6, fa184_0, fa184_1, fa200_0, fa200_1, fa200_2, fa200_3, fa215_0, fa215_1, fa215_2, fa215_3, fa215_4, len218, len271, fa274_0, fa274_1, fa274_2, fa303_0, fa303_1, fa303_2, fa303_3, fa314_0, fa314_1, fa314_2, fa314_3, fa314_4, fa314_5, fa314_6, fa314_7, fa314_8, fa314_9, fa314_10]
  by_cases hlt2 : l < ms.length
  case neg =>
    simp only [show ¬ ((l : Int) < (ms.length : Int)) from by omega, decide_false, q2, q11, bin_add, bin_sub, bin_mul, bin_eql, bin_neq, bin_lss, bin_leq, bin_gtr, bin_geq, un_not, un_neg, pick_true, pick_false, extract_two_0, extract_two_1, nilCheck_pointer, cond_true', cond_false', guard_tt, guard_ff, guard_tf, guard_ft, guard_undef, seqQ_normal, seqQ_ret, seqQ_exit, blockQ_ret, blockQ_normal, blockQ_exit, bodyQ_ret, bodyQ_normal, resK_nil, resK_tmp, ite_T, ite_F, upd_at, add_plain, add_zero', Nat.reduceEqDiff, fa8_0, fa8_1, fa8_2, fa8_3, fa14_0, fa14_1, fa19_0, len22, len24, fa26_0, fa26_1, fa26_2, len27, fa33_0, fa33_1, len35, fa77_0, fa77_1, fa88_0, fa88_1, fa88_2, fa88_3, fa88_4, fa88_5, fa114_0, fa114_1, fa114_2, fa124_0, fa124_1, len134, len136, len154, fa156_0, fa156_1, fa156_2, fa156_3, fa156_4, fa156_5, fa156_6, fa184_0, fa184_1, fa200_0, fa200_1, fa200_2, fa200_3, fa215_0, fa215_1, fa215_2, fa215_3, fa215_4, len218, len271, fa274_0, fa274_1, fa274_2, fa303_0, fa303_1, fa303_2, fa303_3, fa314_0, fa314_1, fa314_2, fa314_3, fa314_4, fa314_5, fa314_6, fa314_7, fa314_8, fa314_9, fa314_10]
    have hu : (ms.take l).filter (fun r => decide (r.1 ∈ rchV ⟨gm.nons, gm.toks, ms⟩)) = usefulR gm.rules := by
      rw [List.take_of_length_le (by omega), ← rchR_eq hg ms ms hsub]
      unfold usefulR
      rw [hms]
      rfl
    rw [hu] at hcells G
    rw [ldB_agg agg26 sz26 rfl (G.box 0 rfl)]
    have H := H.step G.gr
    have hrow := G.row 1 rfl
    have hfin : RulesF (fun q => blk X2 = some q ∨ (blk X = some q ∨ ft q)) w10 X2 (usefulR gm.rules) := hrow.readF (hcells.gr G.gr)
    have hb3' : b3 < w3.heap.size := (H.get 3 rfl |> fun _ => (Box.lt (B3.gr gM)))
    have hfoot2 : ∀ q, (blk X2 = some q ∨ (blk X = some q ∨ ft q)) → w3.heap.size ≤ q ∧ q < w10.heap.size := fun q hq => by
      rcases hq with hq | hq
      · have := hrow.ge hq
        have := A.gr.size
        have := gR.size
        omega
      · have := hfoot q hq
        have := gR.size
        have := G.gr.size
        omega
    refine do_store (n := 3) sz26 rfl (by intro u hu; simp [Value.cells] at hu; rcases hu with rfl | rfl | rfl <;> rfl) (H.get 3 rfl) (by simp [Value.cells]) fun w11 g11 _ B11 => ?_
    have B11 : Box w11 b3 [.int .i64 gm.nons, .int .i64 gm.toks, .slice X2 (usefulR gm.rules).length c2] 26 := B11
    rw [rd_loadVar, ldB_agg agg26 sz26 rfl B11]
    have hgx : Gx (fun q => q = b3) w10 w11 := gx_of g11 fun q hq => (Option.some.inj hq).symm
    have hw3 : w.heap.size ≤ w3.heap.size := by
      have := g1.size
      have := g2.size
      have := gM.size
      omega
    refine hk w11 X2 c2 (gr_put (H.get 0 rfl) g11 (by have := g1.size; omega)) hrow.cap.1 ((hfin.gx hgx fun q hq e => by have := hfoot2 q hq; omega).mono fun q hq => ?_)
    have := hfoot2 q hq
    have := g11.size
    omega
  simp only [show ((l : Int) < (ms.length : Int)) from by omega, decide_true, bin_add, bin_sub, bin_mul, bin_eql, bin_neq, bin_lss, bin_leq, bin_gtr, bin_geq, un_not, un_neg, pick_true, pick_false, extract_two_0, extract_two_1, nilCheck_pointer, cond_true', cond_false', guard_tt, guard_ff, guard_tf, guard_ft, guard_undef, seqQ_normal, seqQ_ret, seqQ_exit, blockQ_ret, blockQ_normal, blockQ_exit, bodyQ_ret, bodyQ_normal, resK_nil, resK_tmp, ite_T, ite_F, upd_at, add_plain, add_zero', Nat.reduceEqDiff, fa8_0, fa8_1, fa8_2, fa8_3, fa14_0, fa14_1, fa19_0, len22, len24, fa26_0, fa26_1, fa26_2, len27, fa33_0, fa33_1, len35, fa77_0, fa77_1, fa88_0, fa88_1, fa88_2, fa88_3, fa88_4, fa88_5, fa114_0, fa114_1, fa114_2, fa124_0, fa124_1, len134, len136, len154, fa156_0, fa156_1, fa156_2, fa156_3, fa156_4, fa156_5, fa156_6, fa184_0, fa184_1, fa200_0, fa200_1, fa200_2, fa200_3, fa215_0, fa215_1, fa215_2, fa215_3, fa215_4, len218, len271, fa274_0, fa274_1, fa274_2, fa303_0, fa303_1, fa303_2, fa303_3, fa314_0, fa314_1, fa314_2, fa314_3, fa314_4, fa314_5, fa314_6, fa314_7, fa314_8, fa314_9, fa314_10]
  have hfl := List.length_filter_le (fun r => decide (r.1 ∈ rchV ⟨gm.nons, gm.toks, ms⟩)) (ms.take l)
  rw [List.length_take] at hfl
  have hsucc := filter_take_succ (p := fun r : RuleL => decide (r.1 ∈ rchV ⟨gm.nons, gm.toks, ms⟩)) hlt2
  generalize hqs : (ms.take l).filter (fun r => decide (r.1 ∈ rchV ⟨gm.nons, gm.toks, ms⟩)) = qs at *
  refine join_as (fun f w' => f 73 = .int .i64 (l : Int) ∧ ∃ X2 c2 cells, RuleCells (fun q => blk X = some q ∨ ft q) w7 ((ms.take (l + 1)).filter (fun r => decide (r.1 ∈ rchV ⟨gm.nons, gm.toks, ms⟩))) cells ∧ Apt w7 w' [bx b92 [.int .i64 gm.nons, .int .i64 gm.toks, .slice X2 ((ms.take (l + 1)).filter (fun r => decide (r.1 ∈ rchV ⟨gm.nons, gm.toks, ms⟩))).length c2] 26, rwi 33 2 X2 ((ms.take (l + 1)).filter (fun r => decide (r.1 ∈ rchV ⟨gm.nons, gm.toks, ms⟩))).length c2 cells]) (fun K hK => ?_) ?_
  case refine_2 =>
    rintro f w' ⟨f73, h⟩
    simp only [f73, bin_add, bin_sub, bin_mul, bin_eql, bin_neq, bin_lss, bin_leq, bin_gtr, bin_geq, un_not, un_neg, pick_true, pick_false, extract_two_0, extract_two_1, nilCheck_pointer, cond_true', cond_false', guard_tt, guard_ff, guard_tf, guard_ft, guard_undef, seqQ_normal, seqQ_ret, seqQ_exit, blockQ_ret, blockQ_normal, blockQ_exit, bodyQ_ret, bodyQ_normal, resK_nil, resK_tmp, ite_T, ite_F, upd_at, add_plain, add_zero', Nat.reduceEqDiff, fa8_0, fa8_1, fa8_2, fa8_3, fa14_0, fa14_1, fa19_0, len22, len24, fa26_0, fa26_1, fa26_2, len27, fa33_0, fa33_1, len35, fa77_0, fa77_1, fa88_0, fa88_1, fa88_2, fa88_3, fa88_4, fa88_5, fa114_0, fa114_1, fa114_2, fa124_0, fa124_1, len134, len136, len154, fa156_0, fa156_1, fa156_2, fa156_3, fa156_4, fa156_5, fa156_6, fa184_0, fa184_1, fa200_0, fa200_1, fa200_2, fa200_3, fa215_0, fa215_1, fa215_2, fa215_3, fa215_4, len218, len271, fa274_0, fa274_1, fa274_2, fa303_0, fa303_1, fa303_2, fa303_3, fa314_0, fa314_1, fa314_2, fa314_3, fa314_4, fa314_5, fa314_6, fa314_7, fa314_8, fa314_9, fa314_10]
    rw [i64_of (by omega) (by omega)]
    exact hN2 _ _ hlt2 ⟨by omega, rfl, h⟩
  obtain ⟨Z, cz, z1, z2, z3, z4⟩ := hmF.row l hlt2
  refine rdi (ixn24 hmF.ptr hlt2) ?_
  rw [ld_agg agg33 sz33 (cs := [.int .i64 (rul ms l).1, .slice Z (rul ms l).2.length cz]) rfl (fun j hj => by
    match j, hj with
    | 0, _ => rw [add_add, Nat.add_zero]; exact G.gr.cell z1
    | 1, _ => rw [add_add]; exact G.gr.cell z2)]
  refine do_alloc_of inf33 fun b9 w11 g11 hb9 B9 => ?_
  refine do_store (n := 2) sz33 rfl (by intro u hu; simp [Value.cells] at hu; rcases hu with rfl | rfl <;> rfl) B9 (by simp [Value.cells]) fun w12 g12 _ B12 => ?_
  have g1012 : Gr w10 w12 := gr_mod g11 g12 fun q hq => by
    obtain rfl := Option.some.inj hq
    exact hb9
  have B12 : Box w12 b9 [.int .i64 (rul ms l).1, .slice Z (rul ms l).2.length cz] 33 := B12
  have G := G.step g1012
  simp only [q10, bin_add, bin_sub, bin_mul, bin_eql, bin_neq, bin_lss, bin_leq, bin_gtr, bin_geq, un_not, un_neg, pick_true, pick_false, extract_two_0, extract_two_1, nilCheck_pointer, cond_true', cond_false', guard_tt, guard_ff, guard_tf, guard_ft, guard_undef, seqQ_normal, seqQ_ret, seqQ_exit, blockQ_ret, blockQ_normal, blockQ_exit, bodyQ_ret, bodyQ_normal, resK_nil, resK_tmp, ite_T, ite_F, upd_at, add_plain, add_zero', Nat.reduceEqDiff, fa8_0, fa8_1, fa8_2, fa8_3, fa14_0, fa14_1, fa19_0, len22, len24, fa26_0, fa26_1, fa26_2, len27, fa33_0, fa33_1, len35, fa77_0, fa77_1, fa88_0, fa88_1, fa88_2, fa88_3, fa88_4, fa88_5, fa114_0, fa114_1, fa114_2, fa124_0, fa124_1, len134, len136, len154, fa156_0, fa156_1, fa156_2, fa156_3, fa156_4, fa156_5, fa156_6, fa184_0, fa184_1, fa200_0, fa200_1, fa200_2, fa200_3, fa215_0, fa215_1, fa215_2, fa215_3, fa215_4, len218, len271, fa274_0, fa274_1, fa274_2, fa303_0, fa303_1, fa303_2, fa303_3, fa314_0, fa314_1, fa314_2, fa314_3, fa314_4, fa314_5, fa314_6, fa314_7, fa314_8, fa314_9, fa314_10]
  rw [ldB3 B12 rfl]
  refine l1Has_c (hR2.gr G.gr) fun w13 g13 => ?_
  have G := G.step g13
  by_cases hin : (rul ms l).1 ∈ rchV ⟨gm.nons, gm.toks, ms⟩
  case neg =>
    simp only [hin, decide_false, bin_add, bin_sub, bin_mul, bin_eql, bin_neq, bin_lss, bin_leq, bin_gtr, bin_geq, un_not, un_neg, pick_true, pick_false, extract_two_0, extract_two_1, nilCheck_pointer, cond_true', cond_false', guard_tt, guard_ff, guard_tf, guard_ft, guard_undef, seqQ_normal, seqQ_ret, seqQ_exit, blockQ_ret, blockQ_normal, blockQ_exit, bodyQ_ret, bodyQ_normal, resK_nil, resK_tmp, ite_T, ite_F, upd_at, add_plain, add_zero', Nat.reduceEqDiff, fa8_0, fa8_1, fa8_2, fa8_3, fa14_0, fa14_1, fa19_0, len22, len24, fa26_0, fa26_1, fa26_2, len27, fa33_0, fa33_1, len35, fa77_0, fa77_1, fa88_0, fa88_1, fa88_2, fa88_3, fa88_4, fa88_5, fa114_0, fa114_1, fa114_2, fa124_0, fa124_1, len134, len136, len154, fa156_0, fa156_1, fa156_2, fa156_3, fa156_4, fa156_5, fa156_6, fa184_0, fa184_1, fa200_0, fa200_1, fa200_2, fa200_3, fa215_0, fa215_1, fa215_2, fa215_3, fa215_4, len218, len271, fa274_0, fa274_1, fa274_2, fa303_0, fa303_1, fa303_2, fa303_3, fa314_0, fa314_1, fa314_2, fa314_3, fa314_4, fa314_5, fa314_6, fa314_7, fa314_8, fa314_9, fa314_10]
    rw [decide_eq_false hin, if_neg Bool.false_ne_true, List.append_nil] at hsucc
    refine hK _ _ ⟨q73, X2, c2, cells, ?_, ?_⟩
    · rw [hsucc]
      exact hcells
    · rw [hsucc]
      exact G
  simp only [hin, decide_true, q11, bin_add, bin_sub, bin_mul, bin_eql, bin_neq, bin_lss, bin_leq, bin_gtr, bin_geq, un_not, un_neg, pick_true, pick_false, extract_two_0, extract_two_1, nilCheck_pointer, cond_true', cond_false', guard_tt, guard_ff, guard_tf, guard_ft, guard_undef, seqQ_normal, seqQ_ret, seqQ_exit, blockQ_ret, blockQ_normal, blockQ_exit, bodyQ_ret, bodyQ_normal, resK_nil, resK_tmp, ite_T, ite_F, upd_at, add_plain, add_zero', Nat.reduceEqDiff, fa8_0, fa8_1, fa8_2, fa8_3, fa14_0, fa14_1, fa19_0, len22, len24, fa26_0, fa26_1, fa26_2, len27, fa33_0, fa33_1, len35, fa77_0, fa77_1, fa88_0, fa88_1, fa88_2, fa88_3, fa88_4, fa88_5, fa114_0, fa114_1, fa114_2, fa124_0, fa124_1, len134, len136, len154, fa156_0, fa156_1, fa156_2, fa156_3, fa156_4, fa156_5, fa156_6, fa184_0, fa184_1, fa200_0, fa200_1, fa200_2, fa200_3, fa215_0, fa215_1, fa215_2, fa215_3, fa215_4, len218, len271, fa274_0, fa274_1, fa274_2, fa303_0, fa303_1, fa303_2, fa303_3, fa314_0, fa314_1, fa314_2, fa314_3, fa314_4, fa314_5, fa314_6, fa314_7, fa314_8, fa314_9, fa314_10]
  rw [decide_eq_true hin, if_pos rfl] at hsucc
  rw [ldB24 (G.box 0 rfl) rfl, ldB_agg agg33 sz33 rfl (B12.gr g13)]
  refine do_build_of u24 inf33 (cells := [.int .i64 (rul ms l).1, .slice Z (rul ms l).2.length cz]) (by decide) (by decide) (by simp [Instr.fill, madeCells, Value.cells, rng1, rng2]) rfl fun b5 w14 hb5 hb6 g14 _ r5 => ?_
  have G := G.step g14
  refine appRow G 1 rfl (by omega) (Row.src (r5 _ (Nat.le_refl _))) fun w15 X' c' G => ?_
  simp only [List.set_cons_zero, List.set_cons_succ] at G
  refine storeH G 0 rfl sz24 rfl rfl rfl fun w16 G => ?_
  simp only [List.set_cons_zero, List.set_cons_succ, List.take_succ_cons, List.take_zero, List.drop_succ_cons, List.drop_zero, List.nil_append, List.cons_append, Value.cells] at G
  refine hK _ _ ⟨q73, X', c', cells ++ [.int .i64 (rul ms l).1, .slice Z (rul ms l).2.length cz], ?_, ?_⟩
  · rw [hsucc]
    exact hcells.append (.cons z3 z4 .nil)
  · rw [hsucc, List.length_append]
    exact G
end
end Go.Proofs.Ytegcjkhebecgbaa

/- Contracts: sameRules, sameGrammar of the laws; GoodGrammar, GoodWord of the program; a grammar that is read as a thing. -/
set_option linter.unusedVariables false
set_option linter.unusedSimpArgs false
set_option maxRecDepth 100000
namespace Go.Sh
open Go
theorem RulesF.bound {F : Nat → Prop} {w : World} {X : Option Addr} {rs : List RuleL} (h : RulesF F w X rs) : RulesF (fun q => q < w.heap.size) w X rs :=
  ⟨h.le, h.ptr, fun hp => by
    obtain ⟨Y, c, h1, _⟩ := h.row 0 hp
    have := lt_of_cell h1
    rwa [add_block] at this, fun j hj => by
    obtain ⟨Y, c, h1, h2, h3, h4⟩ := h.row j hj
    exact ⟨Y, c, h1, h2, h3, IntsF.of_ints h4.is⟩⟩
theorem RulesF.same {F : Nat → Prop} {w w' : World} {X : Option Addr} {rs : List RuleL} (h : RulesF F w X rs) (hs : ∀ q, F q → w'.heap[q]? = w.heap[q]?) : RulesF F w' X rs := by
  refine ⟨h.le, h.ptr, h.foot, fun j hj => ?_⟩
  obtain ⟨Y, c, h1, h2, h3, h4⟩ := h.row j hj
  have hb : w'.heap[(ad X).block]? = w.heap[(ad X).block]? := hs _ (h.foot (by omega))
  have cell : ∀ i, w'.cell? ((ad X).add i) = w.cell? ((ad X).add i) := fun i => by
    unfold World.cell?
    rw [add_block, hb]
  exact ⟨Y, c, by rw [cell]; exact h1, by rw [cell]; exact h2, h3, h4.same' hs⟩
/-- Rules that are read. -/
def rdr (ft : Nat → Prop) (Y : Option Addr) (rs : List RuleL) : Thing := ⟨fun w => RulesF ft w Y rs, ft⟩
theorem Apt.rdr {w0 w : World} {L : List Thing} (H : Apt w0 w L) (i : Nat) {ft : Nat → Prop} {Y : Option Addr} {rs : List RuleL} (hi : L[i]? = some (Sh.rdr ft Y rs)) : RulesF ft w Y rs := H.get i hi
theorem Apt.toRead {w0 w : World} {L : List Thing} (H : Apt w0 w L) (i : Nat) {e c : Nat} {ft : Nat → Prop} {Y : Option Addr} {rs : List RuleL} (hi : L[i]? = some (Sh.gow e ft Y c rs)) : Apt w0 w (L.set i (Sh.rdr (fun q => blk Y = some q ∨ ft q) Y rs)) :=
  H.weaken i hi (fun q hq => hq) (fun w' _ h => OwnG.readF h) fun w' w'' hs h => RulesF.same h hs
theorem Apt.addRead {w0 w w' : World} {L : List Thing} (H : Apt w0 w L) (g : Gr w w') {Y : Option Addr} {rs : List RuleL} (h : RulesF (fun q => w.heap.size ≤ q ∧ q < w'.heap.size) w' Y rs) : Apt w0 w' (L ++ [Sh.rdr (fun q => w.heap.size ≤ q ∧ q < w'.heap.size) Y rs]) :=
  H.add g _ (fun q hq => hq.1) (fun q hq => hq.2) fun w'' hs => RulesF.same h hs
theorem OwnR.readG {e1 e2 : Nat} {w : World} {B c : Nat} {X : Option Addr} {rs : List RuleL} {ps : Nat → Option Addr × Nat} (h : OwnR e1 e2 w B X c rs ps) : rs.length ≤ c ∧ RulesF (fun b => B ≤ b ∧ b < w.heap.size) w X rs :=
  ⟨by
    obtain ⟨⟨cells, hr, _⟩, _⟩ := h
    exact hr.cap.1, h.read⟩
def resG' : Option Gram → Gram
  | some m => m
  | none => ⟨0, 0, []⟩
end Go.Sh
namespace Go.Proofs.Ytegcjkhebecgbaa
open Go Go.Sh Go.RowKit
section
variable {w : World} {Y X Z : Option Addr} {cy cx cz : Nat} {gm g2 : Gram} {ws : List Int} {k : Value → World → Prop}
/-- What a made grammar is, read. -/
theorem GramR.readK {B : Nat} {v : Value} {o : Option Gram} (h : GramR w B v o) : ∃ X c, v = grv (resG' o) X c ∧ (resG' o).rules.length ≤ c ∧ RulesF (fun b => B ≤ b ∧ b < w.heap.size) w X (resG' o).rules := by
  cases o with
  | none => exact ⟨none, 0, h, Nat.le_refl _, ⟨by simp [resG'], fun h => by simp [resG'] at h, fun h => by simp [resG'] at h, fun j hj => by simp [resG'] at hj⟩⟩
  | some m =>
    obtain ⟨X, c, ps, e, ho⟩ := h
    exact ⟨X, c, e, ho.readG⟩
theorem sameRules_c {rs qs : List RuleL} (hx : RulesF (fun _ => True) w X rs) (hy : RulesF (fun _ => True) w Y qs) (hk : ∀ w', Gr w w' → k (.bool (decide (rs = qs))) w') :
    CallK Try.prog 172 [.slice X rs.length cx, .slice Y qs.length cy] k w := by
  refine enter172 ?_
  unfold S172
  simp only [bin_add, bin_sub, bin_mul, bin_eql, bin_neq, bin_lss, bin_leq, bin_gtr, bin_geq, un_not, un_neg, pick_true, pick_false, extract_two_0, extract_two_1, nilCheck_pointer, cond_true', cond_false', guard_tt, guard_ff, guard_tf, guard_ft, guard_undef, seqQ_normal, seqQ_ret, seqQ_exit, blockQ_ret, blockQ_normal, blockQ_exit, bodyQ_ret, bodyQ_normal, resK_nil, resK_tmp, ite_T, ite_F, upd_at, add_plain, add_zero', Nat.reduceEqDiff, fa8_0, fa8_1, fa8_2, fa8_3, fa14_0, fa14_1, fa19_0, len22, len24, fa26_0, fa26_1, fa26_2, len27, fa33_0, fa33_1, len35, fa77_0, fa77_1, fa88_0, fa88_1, fa88_2, fa88_3, fa88_4, fa88_5, fa114_0, fa114_1, fa114_2, fa124_0, fa124_1, len134, len136, len154, fa156_0, fa156_1, fa156_2, fa156_3, fa156_4, fa156_5, fa156_6, fa184_0, fa184_1, fa200_0, fa200_1, fa200_2, fa200_3, fa215_0, fa215_1, fa215_2, fa215_3, fa215_4, len218, len271, fa274_0, fa274_1, fa274_2, fa303_0, fa303_1, fa303_2, fa303_3, fa314_0, fa314_1, fa314_2, fa314_3, fa314_4, fa314_5, fa314_6, fa314_7, fa314_8, fa314_9, fa314_10]
  by_cases hl : rs.length = qs.length
  · simp only [Int.ofNat_inj, hl, decide_true, Bool.not_true, bin_add, bin_sub, bin_mul, bin_eql, bin_neq, bin_lss, bin_leq, bin_gtr, bin_geq, un_not, un_neg, pick_true, pick_false, extract_two_0, extract_two_1, nilCheck_pointer, cond_true', cond_false', guard_tt, guard_ff, guard_tf, guard_ft, guard_undef, seqQ_normal, seqQ_ret, seqQ_exit, blockQ_ret, blockQ_normal, blockQ_exit, bodyQ_ret, bodyQ_normal, resK_nil, resK_tmp, ite_T, ite_F, upd_at, add_plain, add_zero', Nat.reduceEqDiff, fa8_0, fa8_1, fa8_2, fa8_3, fa14_0, fa14_1, fa19_0, len22, len24, fa26_0, fa26_1, fa26_2, len27, fa33_0, fa33_1, len35, fa77_0, fa77_1, fa88_0, fa88_1, fa88_2, fa88_3, fa88_4, fa88_5, fa114_0, fa114_1, fa114_2, fa124_0, fa124_1, len134, len136, len154, fa156_0, fa156_1, fa156_2, fa156_3, fa156_4, fa156_5, fa156_6, fa184_0, fa184_1, fa200_0, fa200_1, fa200_2, fa200_3, fa215_0, fa215_1, fa215_2, fa215_3, fa215_4, len218, len271, fa274_0, fa274_1, fa274_2, fa303_0, fa303_1, fa303_2, fa303_3, fa314_0, fa314_1, fa314_2, fa314_3, fa314_4, fa314_5, fa314_6, fa314_7, fa314_8, fa314_9, fa314_10]
    rw [← hl]
    refine loop_to rs.length 0 (fun i f w' => i ≤ rs.length ∧ f 13 = .int .i64 i ∧ Gr w w' ∧ rs.take i = qs.take i) ⟨Nat.zero_le _, rfl, Gr.refl w, rfl⟩ ?_
    rintro i f w1 N hag ⟨hi, h13, hg, hpre⟩ hN
    have h0 : f 0 = .slice X rs.length cx := hag 0 (by decide)
    have h1 : f 1 = .slice Y rs.length cy := hag 1 (by decide)
    have h12 : f 12 = .int .i64 rs.length := hag 12 (by decide)
    simp only [h0, h1, h12, h13, bin_add, bin_sub, bin_mul, bin_eql, bin_neq, bin_lss, bin_leq, bin_gtr, bin_geq, un_not, un_neg, pick_true, pick_false, extract_two_0, extract_two_1, nilCheck_pointer, cond_true', cond_false', guard_tt, guard_ff, guard_tf, guard_ft, guard_undef, seqQ_normal, seqQ_ret, seqQ_exit, blockQ_ret, blockQ_normal, blockQ_exit, bodyQ_ret, bodyQ_normal, resK_nil, resK_tmp, ite_T, ite_F, upd_at, add_plain, add_zero', Nat.reduceEqDiff, fa8_0, fa8_1, fa8_2, fa8_3, fa14_0, fa14_1, fa19_0, len22, len24, fa26_0, fa26_1, fa26_2, len27, fa33_0, fa33_1, len35, fa77_0, fa77_1, fa88_0, fa88_1, fa88_2, fa88_3, fa88_4, fa88_5, fa114_0, fa114_1, fa114_2, fa124_0, fa124_1, len134, len136, len154, fa156_0, fa156_1, fa156_2, fa156_3, fa156_4, fa156_5, fa156_6, fa184_0, fa184_1, fa200_0, fa200_1, fa200_2, fa200_3, fa215_0, fa215_1, fa215_2, fa215_3, fa215_4, len218, len271, fa274_0, fa274_1, fa274_2, fa303_0, fa303_1, fa303_2, fa303_3, fa314_0, fa314_1, fa314_2, fa314_3, fa314_4, fa314_5, fa314_6, fa314_7, fa314_8, fa314_9, fa314_10]
    by_cases hlt : i < rs.length
    · have hlt' : (i : Int) < rs.length := by omega
      have := hx.le
      simp only [hlt', decide_true, bin_add, bin_sub, bin_mul, bin_eql, bin_neq, bin_lss, bin_leq, bin_gtr, bin_geq, un_not, un_neg, pick_true, pick_false, extract_two_0, extract_two_1, nilCheck_pointer, cond_true', cond_false', guard_tt, guard_ff, guard_tf, guard_ft, guard_undef, seqQ_normal, seqQ_ret, seqQ_exit, blockQ_ret, blockQ_normal, blockQ_exit, bodyQ_ret, bodyQ_normal, resK_nil, resK_tmp, ite_T, ite_F, upd_at, add_plain, add_zero', Nat.reduceEqDiff, fa8_0, fa8_1, fa8_2, fa8_3, fa14_0, fa14_1, fa19_0, len22, len24, fa26_0, fa26_1, fa26_2, len27, fa33_0, fa33_1, len35, fa77_0, fa77_1, fa88_0, fa88_1, fa88_2, fa88_3, fa88_4, fa88_5, fa114_0, fa114_1, fa114_2, fa124_0, fa124_1, len134, len136, len154, fa156_0, fa156_1, fa156_2, fa156_3, fa156_4, fa156_5, fa156_6, fa184_0, fa184_1, fa200_0, fa200_1, fa200_2, fa200_3, fa215_0, fa215_1, fa215_2, fa215_3, fa215_4, len218, len271, fa274_0, fa274_1, fa274_2, fa303_0, fa303_1, fa303_2, fa303_3, fa314_0, fa314_1, fa314_2, fa314_3, fa314_4, fa314_5, fa314_6, fa314_7, fa314_8, fa314_9, fa314_10]
      have g' := gr_trans hg (gr_drew w1)
      obtain ⟨U, cu, u1, u2, u3, u4⟩ := (hx.gr g').row i hlt
      obtain ⟨V, cv, v1, v2, v3, v4⟩ := (hy.gr g').row i (by omega)
      have e1 : rul rs i = rs[i] := rul_eq hlt
      have e2 : rul qs i = qs[i] := rul_eq (by omega)
      have hpr : rs.take (i + 1) = qs.take (i + 1) ↔ rul rs i = rul qs i := by
        have hlt2 : i < qs.length := by omega
        have e3 : rs.take (i + 1) = rs.take i ++ [rs[i]] := List.take_succ_eq_append_getElem hlt
        have e4 : qs.take (i + 1) = qs.take i ++ [qs[i]] := List.take_succ_eq_append_getElem hlt2
        rw [e3, e4, hpre, e1, e2]
        constructor
        · exact fun h => by
            have := List.append_cancel_left h
            exact List.singleton_inj.1 this
        · exact fun h => by rw [h]
      refine rdi (ixn24 hx.ptr hlt) ?_
      rw [fa33_0, add_add, Nat.add_zero, ld3 u1]
      refine rdi (ixn24 (hl ▸ hy.ptr) hlt) ?_
      rw [fa33_0, add_add, Nat.add_zero, ld3 v1]
      simp only [bin_add, bin_sub, bin_mul, bin_eql, bin_neq, bin_lss, bin_leq, bin_gtr, bin_geq, un_not, un_neg, pick_true, pick_false, extract_two_0, extract_two_1, nilCheck_pointer, cond_true', cond_false', guard_tt, guard_ff, guard_tf, guard_ft, guard_undef, seqQ_normal, seqQ_ret, seqQ_exit, blockQ_ret, blockQ_normal, blockQ_exit, bodyQ_ret, bodyQ_normal, resK_nil, resK_tmp, ite_T, ite_F, upd_at, add_plain, add_zero', Nat.reduceEqDiff, fa8_0, fa8_1, fa8_2, fa8_3, fa14_0, fa14_1, fa19_0, len22, len24, fa26_0, fa26_1, fa26_2, len27, fa33_0, fa33_1, len35, fa77_0, fa77_1, fa88_0, fa88_1, fa88_2, fa88_3, fa88_4, fa88_5, fa114_0, fa114_1, fa114_2, fa124_0, fa124_1, len134, len136, len154, fa156_0, fa156_1, fa156_2, fa156_3, fa156_4, fa156_5, fa156_6, fa184_0, fa184_1, fa200_0, fa200_1, fa200_2, fa200_3, fa215_0, fa215_1, fa215_2, fa215_3, fa215_4, len218, len271, fa274_0, fa274_1, fa274_2, fa303_0, fa303_1, fa303_2, fa303_3, fa314_0, fa314_1, fa314_2, fa314_3, fa314_4, fa314_5, fa314_6, fa314_7, fa314_8, fa314_9, fa314_10]
      by_cases hf : (rul rs i).1 = (rul qs i).1
      · simp only [hf, decide_true, Bool.not_true, bin_add, bin_sub, bin_mul, bin_eql, bin_neq, bin_lss, bin_leq, bin_gtr, bin_geq, un_not, un_neg, pick_true, pick_false, extract_two_0, extract_two_1, nilCheck_pointer, cond_true', cond_false', guard_tt, guard_ff, guard_tf, guard_ft, guard_undef, seqQ_normal, seqQ_ret, seqQ_exit, blockQ_ret, blockQ_normal, blockQ_exit, bodyQ_ret, bodyQ_normal, resK_nil, resK_tmp, ite_T, ite_F, upd_at, add_plain, add_zero', Nat.reduceEqDiff, fa8_0, fa8_1, fa8_2, fa8_3, fa14_0, fa14_1, fa19_0, len22, len24, fa26_0, fa26_1, fa26_2, len27, fa33_0, fa33_1, len35, fa77_0, fa77_1, fa88_0, fa88_1, fa88_2, fa88_3, fa88_4, fa88_5, fa114_0, fa114_1, fa114_2, fa124_0, fa124_1, len134, len136, len154, fa156_0, fa156_1, fa156_2, fa156_3, fa156_4, fa156_5, fa156_6, fa184_0, fa184_1, fa200_0, fa200_1, fa200_2, fa200_3, fa215_0, fa215_1, fa215_2, fa215_3, fa215_4, len218, len271, fa274_0, fa274_1, fa274_2, fa303_0, fa303_1, fa303_2, fa303_3, fa314_0, fa314_1, fa314_2, fa314_3, fa314_4, fa314_5, fa314_6, fa314_7, fa314_8, fa314_9, fa314_10]
        refine rdi (ixn24 hx.ptr hlt) ?_
        simp only [bin_add, bin_sub, bin_mul, bin_eql, bin_neq, bin_lss, bin_leq, bin_gtr, bin_geq, un_not, un_neg, pick_true, pick_false, extract_two_0, extract_two_1, nilCheck_pointer, cond_true', cond_false', guard_tt, guard_ff, guard_tf, guard_ft, guard_undef, seqQ_normal, seqQ_ret, seqQ_exit, blockQ_ret, blockQ_normal, blockQ_exit, bodyQ_ret, bodyQ_normal, resK_nil, resK_tmp, ite_T, ite_F, upd_at, add_plain, add_zero', Nat.reduceEqDiff, fa8_0, fa8_1, fa8_2, fa8_3, fa14_0, fa14_1, fa19_0, len22, len24, fa26_0, fa26_1, fa26_2, len27, fa33_0, fa33_1, len35, fa77_0, fa77_1, fa88_0, fa88_1, fa88_2, fa88_3, fa88_4, fa88_5, fa114_0, fa114_1, fa114_2, fa124_0, fa124_1, len134, len136, len154, fa156_0, fa156_1, fa156_2, fa156_3, fa156_4, fa156_5, fa156_6, fa184_0, fa184_1, fa200_0, fa200_1, fa200_2, fa200_3, fa215_0, fa215_1, fa215_2, fa215_3, fa215_4, len218, len271, fa274_0, fa274_1, fa274_2, fa303_0, fa303_1, fa303_2, fa303_3, fa314_0, fa314_1, fa314_2, fa314_3, fa314_4, fa314_5, fa314_6, fa314_7, fa314_8, fa314_9, fa314_10]
        rw [add_add, ld27 u2]
        refine rdi (ixn24 (hl ▸ hy.ptr) hlt) ?_
        simp only [bin_add, bin_sub, bin_mul, bin_eql, bin_neq, bin_lss, bin_leq, bin_gtr, bin_geq, un_not, un_neg, pick_true, pick_false, extract_two_0, extract_two_1, nilCheck_pointer, cond_true', cond_false', guard_tt, guard_ff, guard_tf, guard_ft, guard_undef, seqQ_normal, seqQ_ret, seqQ_exit, blockQ_ret, blockQ_normal, blockQ_exit, bodyQ_ret, bodyQ_normal, resK_nil, resK_tmp, ite_T, ite_F, upd_at, add_plain, add_zero', Nat.reduceEqDiff, fa8_0, fa8_1, fa8_2, fa8_3, fa14_0, fa14_1, fa19_0, len22, len24, fa26_0, fa26_1, fa26_2, len27, fa33_0, fa33_1, len35, fa77_0, fa77_1, fa88_0, fa88_1, fa88_2, fa88_3, fa88_4, fa88_5, fa114_0, fa114_1, fa114_2, fa124_0, fa124_1, len134, len136, len154, fa156_0, fa156_1, fa156_2, fa156_3, fa156_4, fa156_5, fa156_6, fa184_0, fa184_1, fa200_0, fa200_1, fa200_2, fa200_3, fa215_0, fa215_1, fa215_2, fa215_3, fa215_4, len218, len271, fa274_0, fa274_1, fa274_2, fa303_0, fa303_1, fa303_2, fa303_3, fa314_0, fa314_1, fa314_2, fa314_3, fa314_4, fa314_5, fa314_6, fa314_7, fa314_8, fa314_9, fa314_10]
        rw [add_add, ld27 v2]
        refine sameInts_c u4.is v4.is fun w2 g2 => ?_
        by_cases hr : (rul rs i).2 = (rul qs i).2
        · rw [decide_eq_true hr]
          simp only [Bool.not_true, bin_add, bin_sub, bin_mul, bin_eql, bin_neq, bin_lss, bin_leq, bin_gtr, bin_geq, un_not, un_neg, pick_true, pick_false, extract_two_0, extract_two_1, nilCheck_pointer, cond_true', cond_false', guard_tt, guard_ff, guard_tf, guard_ft, guard_undef, seqQ_normal, seqQ_ret, seqQ_exit, blockQ_ret, blockQ_normal, blockQ_exit, bodyQ_ret, bodyQ_normal, resK_nil, resK_tmp, ite_T, ite_F, upd_at, add_plain, add_zero', Nat.reduceEqDiff, fa8_0, fa8_1, fa8_2, fa8_3, fa14_0, fa14_1, fa19_0, len22, len24, fa26_0, fa26_1, fa26_2, len27, fa33_0, fa33_1, len35, fa77_0, fa77_1, fa88_0, fa88_1, fa88_2, fa88_3, fa88_4, fa88_5, fa114_0, fa114_1, fa114_2, fa124_0, fa124_1, len134, len136, len154, fa156_0, fa156_1, fa156_2, fa156_3, fa156_4, fa156_5, fa156_6, fa184_0, fa184_1, fa200_0, fa200_1, fa200_2, fa200_3, fa215_0, fa215_1, fa215_2, fa215_3, fa215_4, len218, len271, fa274_0, fa274_1, fa274_2, fa303_0, fa303_1, fa303_2, fa303_3, fa314_0, fa314_1, fa314_2, fa314_3, fa314_4, fa314_5, fa314_6, fa314_7, fa314_8, fa314_9, fa314_10]
          rw [i64_of (by omega) (by omega)]
          exact hN _ _ hlt ⟨by omega, rfl, gr_trans g' g2, hpr.2 (Prod.ext hf hr)⟩
        · rw [decide_eq_false hr]
          simp only [Bool.not_false, bin_add, bin_sub, bin_mul, bin_eql, bin_neq, bin_lss, bin_leq, bin_gtr, bin_geq, un_not, un_neg, pick_true, pick_false, extract_two_0, extract_two_1, nilCheck_pointer, cond_true', cond_false', guard_tt, guard_ff, guard_tf, guard_ft, guard_undef, seqQ_normal, seqQ_ret, seqQ_exit, blockQ_ret, blockQ_normal, blockQ_exit, bodyQ_ret, bodyQ_normal, resK_nil, resK_tmp, ite_T, ite_F, upd_at, add_plain, add_zero', Nat.reduceEqDiff, fa8_0, fa8_1, fa8_2, fa8_3, fa14_0, fa14_1, fa19_0, len22, len24, fa26_0, fa26_1, fa26_2, len27, fa33_0, fa33_1, len35, fa77_0, fa77_1, fa88_0, fa88_1, fa88_2, fa88_3, fa88_4, fa88_5, fa114_0, fa114_1, fa114_2, fa124_0, fa124_1, len134, len136, len154, fa156_0, fa156_1, fa156_2, fa156_3, fa156_4, fa156_5, fa156_6, fa184_0, fa184_1, fa200_0, fa200_1, fa200_2, fa200_3, fa215_0, fa215_1, fa215_2, fa215_3, fa215_4, len218, len271, fa274_0, fa274_1, fa274_2, fa303_0, fa303_1, fa303_2, fa303_3, fa314_0, fa314_1, fa314_2, fa314_3, fa314_4, fa314_5, fa314_6, fa314_7, fa314_8, fa314_9, fa314_10]
          have := hk _ (gr_trans g' g2)
          rwa [decide_eq_false (fun e => hr (by rw [e]))] at this
      · simp only [hf, decide_false, Bool.not_false, bin_add, bin_sub, bin_mul, bin_eql, bin_neq, bin_lss, bin_leq, bin_gtr, bin_geq, un_not, un_neg, pick_true, pick_false, extract_two_0, extract_two_1, nilCheck_pointer, cond_true', cond_false', guard_tt, guard_ff, guard_tf, guard_ft, guard_undef, seqQ_normal, seqQ_ret, seqQ_exit, blockQ_ret, blockQ_normal, blockQ_exit, bodyQ_ret, bodyQ_normal, resK_nil, resK_tmp, ite_T, ite_F, upd_at, add_plain, add_zero', Nat.reduceEqDiff, fa8_0, fa8_1, fa8_2, fa8_3, fa14_0, fa14_1, fa19_0, len22, len24, fa26_0, fa26_1, fa26_2, len27, fa33_0, fa33_1, len35, fa77_0, fa77_1, fa88_0, fa88_1, fa88_2, fa88_3, fa88_4, fa88_5, fa114_0, fa114_1, fa114_2, fa124_0, fa124_1, len134, len136, len154, fa156_0, fa156_1, fa156_2, fa156_3, fa156_4, fa156_5, fa156_6, fa184_0, fa184_1, fa200_0, fa200_1, fa200_2, fa200_3, fa215_0, fa215_1, fa215_2, fa215_3, fa215_4, len218, len271, fa274_0, fa274_1, fa274_2, fa303_0, fa303_1, fa303_2, fa303_3, fa314_0, fa314_1, fa314_2, fa314_3, fa314_4, fa314_5, fa314_6, fa314_7, fa314_8, fa314_9, fa314_10]
        have := hk _ g'
        rwa [decide_eq_false (fun e => hf (by rw [e]))] at this
    · simp only [show ¬ (i : Int) < rs.length from by omega, decide_false, bin_add, bin_sub, bin_mul, bin_eql, bin_neq, bin_lss, bin_leq, bin_gtr, bin_geq, un_not, un_neg, pick_true, pick_false, extract_two_0, extract_two_1, nilCheck_pointer, cond_true', cond_false', guard_tt, guard_ff, guard_tf, guard_ft, guard_undef, seqQ_normal, seqQ_ret, seqQ_exit, blockQ_ret, blockQ_normal, blockQ_exit, bodyQ_ret, bodyQ_normal, resK_nil, resK_tmp, ite_T, ite_F, upd_at, add_plain, add_zero', Nat.reduceEqDiff, fa8_0, fa8_1, fa8_2, fa8_3, fa14_0, fa14_1, fa19_0, len22, len24, fa26_0, fa26_1, fa26_2, len27, fa33_0, fa33_1, len35, fa77_0, fa77_1, fa88_0, fa88_1, fa88_2, fa88_3, fa88_4, fa88_5, fa114_0, fa114_1, fa114_2, fa124_0, fa124_1, len134, len136, len154, fa156_0, fa156_1, fa156_2, fa156_3, fa156_4, fa156_5, fa156_6, fa184_0, fa184_1, fa200_0, fa200_1, fa200_2, fa200_3, fa215_0, fa215_1, fa215_2, fa215_3, fa215_4, len218, len271, fa274_0, fa274_1, fa274_2, fa303_0, fa303_1, fa303_2, fa303_3, fa314_0, fa314_1, fa314_2, fa314_3, fa314_4, fa314_5, fa314_6, fa314_7, fa314_8, fa314_9, fa314_10]
      have := hk _ hg
      rwa [decide_eq_true] at this
      rwa [List.take_of_length_le (by omega), List.take_of_length_le (by omega)] at hpre
  · simp only [Int.ofNat_inj, hl, decide_false, Bool.not_false, bin_add, bin_sub, bin_mul, bin_eql, bin_neq, bin_lss, bin_leq, bin_gtr, bin_geq, un_not, un_neg, pick_true, pick_false, extract_two_0, extract_two_1, nilCheck_pointer, cond_true', cond_false', guard_tt, guard_ff, guard_tf, guard_ft, guard_undef, seqQ_normal, seqQ_ret, seqQ_exit, blockQ_ret, blockQ_normal, blockQ_exit, bodyQ_ret, bodyQ_normal, resK_nil, resK_tmp, ite_T, ite_F, upd_at, add_plain, add_zero', Nat.reduceEqDiff, fa8_0, fa8_1, fa8_2, fa8_3, fa14_0, fa14_1, fa19_0, len22, len24, fa26_0, fa26_1, fa26_2, len27, fa33_0, fa33_1, len35, fa77_0, fa77_1, fa88_0, fa88_1, fa88_2, fa88_3, fa88_4, fa88_5, fa114_0, fa114_1, fa114_2, fa124_0, fa124_1, len134, len136, len154, fa156_0, fa156_1, fa156_2, fa156_3, fa156_4, fa156_5, fa156_6, fa184_0, fa184_1, fa200_0, fa200_1, fa200_2, fa200_3, fa215_0, fa215_1, fa215_2, fa215_3, fa215_4, len218, len271, fa274_0, fa274_1, fa274_2, fa303_0, fa303_1, fa303_2, fa303_3, fa314_0, fa314_1, fa314_2, fa314_3, fa314_4, fa314_5, fa314_6, fa314_7, fa314_8, fa314_9, fa314_10]
    have := hk _ (Gr.refl w)
    rwa [decide_eq_false (fun e => hl (by rw [e]))] at this
theorem sameGrammar_c (hx : kG X cx gm.rules w) (hy : kG Y cy g2.rules w) (hk : ∀ w', Gr w w' → k (.bool (decide (gm = g2))) w') :
    CallK Try.prog 41 [grv gm X cx, grv g2 Y cy] k w := by
  refine enter41 ?_
  unfold S41
  have H := ((Kn.nil w).addG hx.1 hx.2).addG hy.1 hy.2
  refine do_box fun b1 w1 g1 hb1 B1 => ?_
  have H := (H.step g1).addB B1
  refine do_box fun b2 w2 gg hb2 B2 => ?_
  have H := (H.step gg).addB B2
  simp only [List.cons_append, List.nil_append] at H
  obtain ⟨n1, t1, r1⟩ := gm
  obtain ⟨n2, t2, r2⟩ := g2
  simp only [bin_add, bin_sub, bin_mul, bin_eql, bin_neq, bin_lss, bin_leq, bin_gtr, bin_geq, un_not, un_neg, pick_true, pick_false, extract_two_0, extract_two_1, nilCheck_pointer, cond_true', cond_false', guard_tt, guard_ff, guard_tf, guard_ft, guard_undef, seqQ_normal, seqQ_ret, seqQ_exit, blockQ_ret, blockQ_normal, blockQ_exit, bodyQ_ret, bodyQ_normal, resK_nil, resK_tmp, ite_T, ite_F, upd_at, add_plain, add_zero', Nat.reduceEqDiff, fa8_0, fa8_1, fa8_2, fa8_3, fa14_0, fa14_1, fa19_0, len22, len24, fa26_0, fa26_1, fa26_2, len27, fa33_0, fa33_1, len35, fa77_0, fa77_1, fa88_0, fa88_1, fa88_2, fa88_3, fa88_4, fa88_5, fa114_0, fa114_1, fa114_2, fa124_0, fa124_1, len134, len136, len154, fa156_0, fa156_1, fa156_2, fa156_3, fa156_4, fa156_5, fa156_6, fa184_0, fa184_1, fa200_0, fa200_1, fa200_2, fa200_3, fa215_0, fa215_1, fa215_2, fa215_3, fa215_4, len218, len271, fa274_0, fa274_1, fa274_2, fa303_0, fa303_1, fa303_2, fa303_3, fa314_0, fa314_1, fa314_2, fa314_3, fa314_4, fa314_5, fa314_6, fa314_7, fa314_8, fa314_9, fa314_10]
  rw [ldB3 (H.get 3 rfl) rfl, ldB3 (H.get 4 rfl) rfl]
  simp only [bin_add, bin_sub, bin_mul, bin_eql, bin_neq, bin_lss, bin_leq, bin_gtr, bin_geq, un_not, un_neg, pick_true, pick_false, extract_two_0, extract_two_1, nilCheck_pointer, cond_true', cond_false', guard_tt, guard_ff, guard_tf, guard_ft, guard_undef, seqQ_normal, seqQ_ret, seqQ_exit, blockQ_ret, blockQ_normal, blockQ_exit, bodyQ_ret, bodyQ_normal, resK_nil, resK_tmp, ite_T, ite_F, upd_at, add_plain, add_zero', Nat.reduceEqDiff, fa8_0, fa8_1, fa8_2, fa8_3, fa14_0, fa14_1, fa19_0, len22, len24, fa26_0, fa26_1, fa26_2, len27, fa33_0, fa33_1, len35, fa77_0, fa77_1, fa88_0, fa88_1, fa88_2, fa88_3, fa88_4, fa88_5, fa114_0, fa114_1, fa114_2, fa124_0, fa124_1, len134, len136, len154, fa156_0, fa156_1, fa156_2, fa156_3, fa156_4, fa156_5, fa156_6, fa184_0, fa184_1, fa200_0, fa200_1, fa200_2, fa200_3, fa215_0, fa215_1, fa215_2, fa215_3, fa215_4, len218, len271, fa274_0, fa274_1, fa274_2, fa303_0, fa303_1, fa303_2, fa303_3, fa314_0, fa314_1, fa314_2, fa314_3, fa314_4, fa314_5, fa314_6, fa314_7, fa314_8, fa314_9, fa314_10]
  by_cases hn : n1 = n2
  case neg =>
    simp only [hn, decide_false, bin_add, bin_sub, bin_mul, bin_eql, bin_neq, bin_lss, bin_leq, bin_gtr, bin_geq, un_not, un_neg, pick_true, pick_false, extract_two_0, extract_two_1, nilCheck_pointer, cond_true', cond_false', guard_tt, guard_ff, guard_tf, guard_ft, guard_undef, seqQ_normal, seqQ_ret, seqQ_exit, blockQ_ret, blockQ_normal, blockQ_exit, bodyQ_ret, bodyQ_normal, resK_nil, resK_tmp, ite_T, ite_F, upd_at, add_plain, add_zero', Nat.reduceEqDiff, fa8_0, fa8_1, fa8_2, fa8_3, fa14_0, fa14_1, fa19_0, len22, len24, fa26_0, fa26_1, fa26_2, len27, fa33_0, fa33_1, len35, fa77_0, fa77_1, fa88_0, fa88_1, fa88_2, fa88_3, fa88_4, fa88_5, fa114_0, fa114_1, fa114_2, fa124_0, fa124_1, len134, len136, len154, fa156_0, fa156_1, fa156_2, fa156_3, fa156_4, fa156_5, fa156_6, fa184_0, fa184_1, fa200_0, fa200_1, fa200_2, fa200_3, fa215_0, fa215_1, fa215_2, fa215_3, fa215_4, len218, len271, fa274_0, fa274_1, fa274_2, fa303_0, fa303_1, fa303_2, fa303_3, fa314_0, fa314_1, fa314_2, fa314_3, fa314_4, fa314_5, fa314_6, fa314_7, fa314_8, fa314_9, fa314_10]
    have := hk _ (H.get 0 rfl)
    rwa [decide_eq_false (fun e => hn (by injection e))] at this
  simp only [hn, decide_true, bin_add, bin_sub, bin_mul, bin_eql, bin_neq, bin_lss, bin_leq, bin_gtr, bin_geq, un_not, un_neg, pick_true, pick_false, extract_two_0, extract_two_1, nilCheck_pointer, cond_true', cond_false', guard_tt, guard_ff, guard_tf, guard_ft, guard_undef, seqQ_normal, seqQ_ret, seqQ_exit, blockQ_ret, blockQ_normal, blockQ_exit, bodyQ_ret, bodyQ_normal, resK_nil, resK_tmp, ite_T, ite_F, upd_at, add_plain, add_zero', Nat.reduceEqDiff, fa8_0, fa8_1, fa8_2, fa8_3, fa14_0, fa14_1, fa19_0, len22, len24, fa26_0, fa26_1, fa26_2, len27, fa33_0, fa33_1, len35, fa77_0, fa77_1, fa88_0, fa88_1, fa88_2, fa88_3, fa88_4, fa88_5, fa114_0, fa114_1, fa114_2, fa124_0, fa124_1, len134, len136, len154, fa156_0, fa156_1, fa156_2, fa156_3, fa156_4, fa156_5, fa156_6, fa184_0, fa184_1, fa200_0, fa200_1, fa200_2, fa200_3, fa215_0, fa215_1, fa215_2, fa215_3, fa215_4, len218, len271, fa274_0, fa274_1, fa274_2, fa303_0, fa303_1, fa303_2, fa303_3, fa314_0, fa314_1, fa314_2, fa314_3, fa314_4, fa314_5, fa314_6, fa314_7, fa314_8, fa314_9, fa314_10]
  rw [ldB3 (H.get 3 rfl) rfl, ldB3 (H.get 4 rfl) rfl]
  simp only [bin_add, bin_sub, bin_mul, bin_eql, bin_neq, bin_lss, bin_leq, bin_gtr, bin_geq, un_not, un_neg, pick_true, pick_false, extract_two_0, extract_two_1, nilCheck_pointer, cond_true', cond_false', guard_tt, guard_ff, guard_tf, guard_ft, guard_undef, seqQ_normal, seqQ_ret, seqQ_exit, blockQ_ret, blockQ_normal, blockQ_exit, bodyQ_ret, bodyQ_normal, resK_nil, resK_tmp, ite_T, ite_F, upd_at, add_plain, add_zero', Nat.reduceEqDiff, fa8_0, fa8_1, fa8_2, fa8_3, fa14_0, fa14_1, fa19_0, len22, len24, fa26_0, fa26_1, fa26_2, len27, fa33_0, fa33_1, len35, fa77_0, fa77_1, fa88_0, fa88_1, fa88_2, fa88_3, fa88_4, fa88_5, fa114_0, fa114_1, fa114_2, fa124_0, fa124_1, len134, len136, len154, fa156_0, fa156_1, fa156_2, fa156_3, fa156_4, fa156_5, fa156_6, fa184_0, fa184_1, fa200_0, fa200_1, fa200_2, fa200_3, fa215_0, fa215_1, fa215_2, fa215_3, fa215_4, len218, len271, fa274_0, fa274_1, fa274_2, fa303_0, fa303_1, fa303_2, fa303_3, fa314_0, fa314_1, fa314_2, fa314_3, fa314_4, fa314_5, fa314_6, fa314_7, fa314_8, fa314_9, fa314_10]
  by_cases ht : t1 = t2
  case neg =>
    simp only [ht, decide_false, bin_add, bin_sub, bin_mul, bin_eql, bin_neq, bin_lss, bin_leq, bin_gtr, bin_geq, un_not, un_neg, pick_true, pick_false, extract_two_0, extract_two_1, nilCheck_pointer, cond_true', cond_false', guard_tt, guard_ff, guard_tf, guard_ft, guard_undef, seqQ_normal, seqQ_ret, seqQ_exit, blockQ_ret, blockQ_normal, blockQ_exit, bodyQ_ret, bodyQ_normal, resK_nil, resK_tmp, ite_T, ite_F, upd_at, add_plain, add_zero', Nat.reduceEqDiff, fa8_0, fa8_1, fa8_2, fa8_3, fa14_0, fa14_1, fa19_0, len22, len24, fa26_0, fa26_1, fa26_2, len27, fa33_0, fa33_1, len35, fa77_0, fa77_1, fa88_0, fa88_1, fa88_2, fa88_3, fa88_4, fa88_5, fa114_0, fa114_1, fa114_2, fa124_0, fa124_1, len134, len136, len154, fa156_0, fa156_1, fa156_2, fa156_3, fa156_4, fa156_5, fa156_6, fa184_0, fa184_1, fa200_0, fa200_1, fa200_2, fa200_3, fa215_0, fa215_1, fa215_2, fa215_3, fa215_4, len218, len271, fa274_0, fa274_1, fa274_2, fa303_0, fa303_1, fa303_2, fa303_3, fa314_0, fa314_1, fa314_2, fa314_3, fa314_4, fa314_5, fa314_6, fa314_7, fa314_8, fa314_9, fa314_10]
    have := hk _ (H.get 0 rfl)
    rwa [decide_eq_false (fun e => ht (by injection e))] at this
  simp only [ht, decide_true, bin_add, bin_sub, bin_mul, bin_eql, bin_neq, bin_lss, bin_leq, bin_gtr, bin_geq, un_not, un_neg, pick_true, pick_false, extract_two_0, extract_two_1, nilCheck_pointer, cond_true', cond_false', guard_tt, guard_ff, guard_tf, guard_ft, guard_undef, seqQ_normal, seqQ_ret, seqQ_exit, blockQ_ret, blockQ_normal, blockQ_exit, bodyQ_ret, bodyQ_normal, resK_nil, resK_tmp, ite_T, ite_F, upd_at, add_plain, add_zero', Nat.reduceEqDiff, fa8_0, fa8_1, fa8_2, fa8_3, fa14_0, fa14_1, fa19_0, len22, len24, fa26_0, fa26_1, fa26_2, len27, fa33_0, fa33_1, len35, fa77_0, fa77_1, fa88_0, fa88_1, fa88_2, fa88_3, fa88_4, fa88_5, fa114_0, fa114_1, fa114_2, fa124_0, fa124_1, len134, len136, len154, fa156_0, fa156_1, fa156_2, fa156_3, fa156_4, fa156_5, fa156_6, fa184_0, fa184_1, fa200_0, fa200_1, fa200_2, fa200_3, fa215_0, fa215_1, fa215_2, fa215_3, fa215_4, len218, len271, fa274_0, fa274_1, fa274_2, fa303_0, fa303_1, fa303_2, fa303_3, fa314_0, fa314_1, fa314_2, fa314_3, fa314_4, fa314_5, fa314_6, fa314_7, fa314_8, fa314_9, fa314_10]
  rw [ldB24 (H.get 3 rfl) rfl, ldB24 (H.get 4 rfl) rfl]
  refine sameRules_c (H.get 1 rfl).2 (H.get 2 rfl).2 fun w3 g3 => ?_
  have H := H.step g3
  simp only [bin_add, bin_sub, bin_mul, bin_eql, bin_neq, bin_lss, bin_leq, bin_gtr, bin_geq, un_not, un_neg, pick_true, pick_false, extract_two_0, extract_two_1, nilCheck_pointer, cond_true', cond_false', guard_tt, guard_ff, guard_tf, guard_ft, guard_undef, seqQ_normal, seqQ_ret, seqQ_exit, blockQ_ret, blockQ_normal, blockQ_exit, bodyQ_ret, bodyQ_normal, resK_nil, resK_tmp, ite_T, ite_F, upd_at, add_plain, add_zero', Nat.reduceEqDiff, fa8_0, fa8_1, fa8_2, fa8_3, fa14_0, fa14_1, fa19_0, len22, len24, fa26_0, fa26_1, fa26_2, len27, fa33_0, fa33_1, len35, fa77_0, fa77_1, fa88_0, fa88_1, fa88_2, fa88_3, fa88_4, fa88_5, fa114_0, fa114_1, fa114_2, fa124_0, fa124_1, len134, len136, len154, fa156_0, fa156_1, fa156_2, fa156_3, fa156_4, fa156_5, fa156_6, fa184_0, fa184_1, fa200_0, fa200_1, fa200_2, fa200_3, fa215_0, fa215_1, fa215_2, fa215_3, fa215_4, len218, len271, fa274_0, fa274_1, fa274_2, fa303_0, fa303_1, fa303_2, fa303_3, fa314_0, fa314_1, fa314_2, fa314_3, fa314_4, fa314_5, fa314_6, fa314_7, fa314_8, fa314_9, fa314_10]
  have := hk _ (H.get 0 rfl)
  rwa [show decide ((⟨n1, t1, r1⟩ : Gram) = ⟨n2, t2, r2⟩) = decide (r1 = r2) from by
    rw [Bool.eq_iff_iff, decide_eq_true_eq, decide_eq_true_eq]
    exact ⟨fun e => by injection e, fun e => by rw [hn, ht, e]⟩] at this
theorem implGoodGrammar_c (hx : kG X cx gm.rules w) (hk : ∀ w', Gr w w' → k (.bool (goodG gm)) w') : CallK Try.prog 42 [grv gm X cx] k w := by
  refine enter42 ?_
  unfold S42
  have H := (Kn.nil w).addG hx.1 hx.2
  refine do_box fun b1 w1 g1 hb1 B1 => ?_
  have H := (H.step g1).addB B1
  rw [ldB_agg agg26 sz26 rfl (H.get 2 rfl)]
  refine isGrammar_c (gvK (H.get 1 rfl)) fun w2 g => ?_
  have H := H.step g
  exact hk _ (H.get 0 rfl)
theorem implGoodWord_c (hx : kG X cx gm.rules w) (hw : kI Z ws cz w) (hk : ∀ w', Gr w w' → k (.bool (wordG gm ws)) w') : CallK Try.prog 44 [grv gm X cx, .slice Z ws.length cz] k w := by
  refine enter44 ?_
  unfold S44
  have H := ((Kn.nil w).addG hx.1 hx.2).addI hw.1 hw.2
  refine do_box fun b1 w1 g1 hb1 B1 => ?_
  have H := (H.step g1).addB B1
  rw [ldB_agg agg26 sz26 rfl (H.get 3 rfl)]
  refine isGrammar_c (gvK (H.get 1 rfl)) fun w2 g => ?_
  have H := H.step g
  unfold wordG at hk
  cases hg : goodG gm
  · simp only [bin_add, bin_sub, bin_mul, bin_eql, bin_neq, bin_lss, bin_leq, bin_gtr, bin_geq, un_not, un_neg, pick_true, pick_false, extract_two_0, extract_two_1, nilCheck_pointer, cond_true', cond_false', guard_tt, guard_ff, guard_tf, guard_ft, guard_undef, seqQ_normal, seqQ_ret, seqQ_exit, blockQ_ret, blockQ_normal, blockQ_exit, bodyQ_ret, bodyQ_normal, resK_nil, resK_tmp, ite_T, ite_F, upd_at, add_plain, add_zero', Nat.reduceEqDiff, fa8_0, fa8_1, fa8_2, fa8_3, fa14_0, fa14_1, fa19_0, len22, len24, fa26_0, fa26_1, fa26_2, len27, fa33_0, fa33_1, len35, fa77_0, fa77_1, fa88_0, fa88_1, fa88_2, fa88_3, fa88_4, fa88_5, fa114_0, fa114_1, fa114_2, fa124_0, fa124_1, len134, len136, len154, fa156_0, fa156_1, fa156_2, fa156_3, fa156_4, fa156_5, fa156_6, fa184_0, fa184_1, fa200_0, fa200_1, fa200_2, fa200_3, fa215_0, fa215_1, fa215_2, fa215_3, fa215_4, len218, len271, fa274_0, fa274_1, fa274_2, fa303_0, fa303_1, fa303_2, fa303_3, fa314_0, fa314_1, fa314_2, fa314_3, fa314_4, fa314_5, fa314_6, fa314_7, fa314_8, fa314_9, fa314_10]
    rw [hg, Bool.false_and] at hk
    exact hk _ (H.get 0 rfl)
  rw [hg, Bool.true_and] at hk
  have ht := good_toks hg
  simp only [bin_add, bin_sub, bin_mul, bin_eql, bin_neq, bin_lss, bin_leq, bin_gtr, bin_geq, un_not, un_neg, pick_true, pick_false, extract_two_0, extract_two_1, nilCheck_pointer, cond_true', cond_false', guard_tt, guard_ff, guard_tf, guard_ft, guard_undef, seqQ_normal, seqQ_ret, seqQ_exit, blockQ_ret, blockQ_normal, blockQ_exit, bodyQ_ret, bodyQ_normal, resK_nil, resK_tmp, ite_T, ite_F, upd_at, add_plain, add_zero', Nat.reduceEqDiff, fa8_0, fa8_1, fa8_2, fa8_3, fa14_0, fa14_1, fa19_0, len22, len24, fa26_0, fa26_1, fa26_2, len27, fa33_0, fa33_1, len35, fa77_0, fa77_1, fa88_0, fa88_1, fa88_2, fa88_3, fa88_4, fa88_5, fa114_0, fa114_1, fa114_2, fa124_0, fa124_1, len134, len136, len154, fa156_0, fa156_1, fa156_2, fa156_3, fa156_4, fa156_5, fa156_6, fa184_0, fa184_1, fa200_0, fa200_1, fa200_2, fa200_3, fa215_0, fa215_1, fa215_2, fa215_3, fa215_4, len218, len271, fa274_0, fa274_1, fa274_2, fa303_0, fa303_1, fa303_2, fa303_3, fa314_0, fa314_1, fa314_2, fa314_3, fa314_4, fa314_5, fa314_6, fa314_7, fa314_8, fa314_9, fa314_10]
  rw [ldB3 (H.get 3 rfl) rfl]
  refine isWord_c (H.get 2 rfl).1 rfl (by omega) (by omega) fun w3 g => ?_
  have H := H.step g
  exact hk _ (H.get 0 rfl)
end
end Go.Proofs.Ytegcjkhebecgbaa

/- Contracts: UsefulOf of the reference; a grammar is handed back. -/
set_option linter.unusedVariables false
set_option linter.unusedSimpArgs false
set_option maxRecDepth 100000
namespace Go.Sh
open Go
noncomputable def usefulV (gm : Gram) : Gram × Bool := if goodG gm = true then (usefulG gm, true) else (⟨0, 0, []⟩, false)
end Go.Sh
namespace Go.Proofs.Ytegcjkhebecgbaa
open Go Go.Sh Go.RowKit
theorem retG {w0 w : World} {b3 c : Nat} {cs : List Value} {F : Nat → Prop} {X : Option Addr} {gm : Gram} (B3 : Box w b3 cs 26) (hl : cs.length = 3) (g0 : Gr w0 w) (hb : w0.heap.size ≤ b3) (hf : RulesF F w X gm.rules) (hF : ∀ q, F q → q ≠ b3) {K : Value → World → Prop}
    (hk : ∀ w', Gr w0 w' → w.heap.size ≤ w'.heap.size → RulesF F w' X gm.rules → K (grv gm X c) w') :
    Do Try.prog (sStore 26 (ptrv b3) (grv gm X c)) (fun _ w10 => Rd Try.prog (WS.at w10) (sLoadVar 26 (ptrv b3)) fun t => K t w10) w := by
  refine do_store (n := 3) sz26 rfl (by intro u hu; simp [Value.cells] at hu; rcases hu with rfl | rfl | rfl <;> rfl) B3 (by omega) fun w11 g11 _ B11 => ?_
  have e : List.take 0 cs ++ (grv gm X c).cells.toList ++ List.drop (0 + 3) cs = [.int .i64 gm.nons, .int .i64 gm.toks, .slice X gm.rules.length c] := by
    rw [List.drop_eq_nil_of_le (by omega)]
    simp [Value.cells]
  rw [e] at B11
  rw [rd_loadVar, ldB_agg agg26 sz26 rfl B11]
  have hgx : Gx (fun q => q = b3) w w11 := gx_of g11 fun q hq => (Option.some.inj hq).symm
  exact hk w11 (gr_put g0 g11 hb) g11.size (hf.gx hgx fun q hq e => hF q hq e)
section
variable {w : World} {Y : Option Addr} {cy : Nat} {gm : Gram} {k : Value → World → Prop}
theorem specUsefulOf_c (hG : kG Y cy gm.rules w) (hk : ∀ w' X c, Gr w w' → (usefulV gm).1.rules.length ≤ c → RulesF (fun q => w.heap.size ≤ q ∧ q < w'.heap.size) w' X (usefulV gm).1.rules → k (.tuple #[grv (usefulV gm).1 X c, .bool (usefulV gm).2]) w') :
    CallK Try.prog 64 [grv gm Y cy] k w := by
  refine enter64 ?_
  unfold S64
  have H := (Kn.nil w).addG hG.1 hG.2
  refine do_box fun b1 w1 g1 hb1 B1 => ?_
  have H := (H.step g1).addB B1
  refine do_alloc_of inf26 fun b3 w2 g2 hb3 B3 => ?_
  have H := (H.step g2).addB B3
  simp only [List.cons_append, List.nil_append] at H
  have hsz : w.heap.size ≤ b3 := by have := g1.size; omega
  rw [ldB_agg agg26 sz26 rfl (H.get 2 rfl)]
  refine goodGrammar_c (gvK (H.get 1 rfl)) fun w3 g => ?_
  have H := H.step g
  unfold usefulV at hk
  cases hg : goodG gm
  · simp only [Bool.not_false, bin_add, bin_sub, bin_mul, bin_eql, bin_neq, bin_lss, bin_leq, bin_gtr, bin_geq, un_not, un_neg, pick_true, pick_false, extract_two_0, extract_two_1, nilCheck_pointer, cond_true', cond_false', guard_tt, guard_ff, guard_tf, guard_ft, guard_undef, seqQ_normal, seqQ_ret, seqQ_exit, blockQ_ret, blockQ_normal, blockQ_exit, bodyQ_ret, bodyQ_normal, resK_nil, resK_tmp, ite_T, ite_F, upd_at, add_plain, add_zero', Nat.reduceEqDiff, fa8_0, fa8_1, fa8_2, fa8_3, fa14_0, fa14_1, fa19_0, len22, len24, fa26_0, fa26_1, fa26_2, len27, fa33_0, fa33_1, len35, fa77_0, fa77_1, fa88_0, fa88_1, fa88_2, fa88_3, fa88_4, fa88_5, fa114_0, fa114_1, fa114_2, fa124_0, fa124_1, len134, len136, len154, fa156_0, fa156_1, fa156_2, fa156_3, fa156_4, fa156_5, fa156_6, fa184_0, fa184_1, fa200_0, fa200_1, fa200_2, fa200_3, fa215_0, fa215_1, fa215_2, fa215_3, fa215_4, len218, len271, fa274_0, fa274_1, fa274_2, fa303_0, fa303_1, fa303_2, fa303_3, fa314_0, fa314_1, fa314_2, fa314_3, fa314_4, fa314_5, fa314_6, fa314_7, fa314_8, fa314_9, fa314_10]
    rw [hg, if_neg Bool.false_ne_true] at hk
    rw [bd26 (cells := #[.int .i64 0, .int .i64 0, .slice none 0 0]) rfl]
    refine retG (gm := ⟨0, 0, []⟩) (F := fun _ => False) (X := none) (c := 0) (H.get 3 rfl) rfl (H.get 0 rfl) hsz ⟨by simp, fun h => by simp at h, fun h => by simp at h, fun j hj => by simp at hj⟩ (fun q hq => hq.elim) fun w4 g4 _ hf => ?_
    exact hk w4 none 0 g4 (Nat.le_refl _) (hf.mono fun q hq => hq.elim)
  rw [hg, if_pos rfl] at hk
  simp only [Bool.not_true, bin_add, bin_sub, bin_mul, bin_eql, bin_neq, bin_lss, bin_leq, bin_gtr, bin_geq, un_not, un_neg, pick_true, pick_false, extract_two_0, extract_two_1, nilCheck_pointer, cond_true', cond_false', guard_tt, guard_ff, guard_tf, guard_ft, guard_undef, seqQ_normal, seqQ_ret, seqQ_exit, blockQ_ret, blockQ_normal, blockQ_exit, bodyQ_ret, bodyQ_normal, resK_nil, resK_tmp, ite_T, ite_F, upd_at, add_plain, add_zero', Nat.reduceEqDiff, fa8_0, fa8_1, fa8_2, fa8_3, fa14_0, fa14_1, fa19_0, len22, len24, fa26_0, fa26_1, fa26_2, len27, fa33_0, fa33_1, len35, fa77_0, fa77_1, fa88_0, fa88_1, fa88_2, fa88_3, fa88_4, fa88_5, fa114_0, fa114_1, fa114_2, fa124_0, fa124_1, len134, len136, len154, fa156_0, fa156_1, fa156_2, fa156_3, fa156_4, fa156_5, fa156_6, fa184_0, fa184_1, fa200_0, fa200_1, fa200_2, fa200_3, fa215_0, fa215_1, fa215_2, fa215_3, fa215_4, len218, len271, fa274_0, fa274_1, fa274_2, fa303_0, fa303_1, fa303_2, fa303_3, fa314_0, fa314_1, fa314_2, fa314_3, fa314_4, fa314_5, fa314_6, fa314_7, fa314_8, fa314_9, fa314_10]
  rw [ldB_agg agg26 sz26 rfl (H.get 2 rfl)]
  refine l3Useful_c (H.get 1 rfl) hg fun w4 X c g hc hR => ?_
  have hb3' : b3 < w3.heap.size := (H.get 3 rfl).lt
  have H := H.step g
  have hw3 : w.heap.size ≤ w3.heap.size := (H.get 0 rfl |> fun _ => by have := g1.size; have := g2.size; have := ‹Gr w2 w3›.size; omega)
  refine retG (gm := usefulG gm) (c := c) (H.get 3 rfl) rfl (H.get 0 rfl) hsz hR (fun q hq e => by omega) fun w5 g5 hs hf => ?_
  exact hk w5 X c g5 hc (hf.mono fun q hq => by omega)
end
end Go.Proofs.Ytegcjkhebecgbaa

/- Contracts: two grammars are drawn; DrawUnionOf, DrawGoodGrammar, DrawStarOf. -/
set_option linter.unusedVariables false
set_option linter.unusedSimpArgs false
set_option maxRecDepth 100000
namespace Go.Proofs.Ytegcjkhebecgbaa
open Go Go.Sh Go.RowKit
/-- Bounds of a grammar that is drawn somehow. -/
structure Dr (gm : Gram) : Prop where
  nons : 0 ≤ gm.nons ∧ gm.nons ≤ 1000
  toks : 0 ≤ gm.toks ∧ gm.toks ≤ 1000
theorem Dr.of {m : Nat} {gm : Gram} (h : Drawn m gm) : Dr gm := ⟨h.nons, h.toks⟩
theorem Dr.useful {gm : Gram} (h : Dr gm) : Dr (usefulV gm).1 := by
  unfold usefulV
  split
  · exact ⟨h.nons, h.toks⟩
  · exact ⟨by simp, by simp⟩
section
variable {w0 w : World} {E : List Thing} {bc N cap : Nat} {C : Option Addr} {bs : List Int} {k : Value → World → Prop}
set_option maxHeartbeats 6400000 in
theorem two_c (H : Apt w0 w (cur bc (.slice C bs.length cap) N :: E)) (hC : Byts w0 C bs) (hN : N ≤ 100000) (hk : ∀ w' g1 g2 Y1 c1 ft1 Y2 c2 ft2, Drawn 101 g1 → Dr g2 → List.length g1.rules ≤ c1 → List.length g2.rules ≤ c2 → Apt w0 w' (cur bc (.slice C bs.length cap) (N + 4000) :: rdr ft2 Y2 g2.rules :: rdr ft1 Y1 g1.rules :: E) → k (.tuple #[grv g1 Y1 c1, grv g2 Y2 c2]) w') :
    CallK Try.prog 168 [ptrv bc] k w := by
  refine enter168 ?_
  unfold S168
  refine allocH H inf26 fun b1 w1 H => ?_
  have H := H.insert 1
  simp only [List.take_succ_cons, List.take_zero, List.drop_succ_cons, List.drop_zero, List.nil_append, List.cons_append] at H
  refine allocH H inf26 fun b3 w2 H => ?_
  have H := H.insert 1
  simp only [List.take_succ_cons, List.take_zero, List.drop_succ_cons, List.drop_zero, List.nil_append, List.cons_append] at H
  refine any_c H hC (by omega) fun w3 g1 ft1 Y1 c1 hd1 H => ?_
  have hc1 := (gowK (H.gow 1 rfl)).1
  have H := H.toRead 1 rfl
  simp only [List.set_cons_zero, List.set_cons_succ] at H
  generalize (fun q => blk Y1 = some q ∨ ft1 q) = ft1 at H
  refine allocH H inf26 fun b7 w4 H => ?_
  have H := H.insert 1
  simp only [List.take_succ_cons, List.take_zero, List.drop_succ_cons, List.drop_zero, List.nil_append, List.cons_append] at H
  refine storeH H 1 rfl sz26 rfl rfl rfl fun w5 H => ?_
  simp only [List.set_cons_zero, List.set_cons_succ] at H
  refine grammar_c H hC (by omega) fun w6 g2 ft2 Y2 c2 hd2 H => ?_
  have hc2 := (gowK (H.gow 1 rfl)).1
  have H := H.toRead 1 rfl
  simp only [List.set_cons_zero, List.set_cons_succ] at H
  generalize (fun q => blk Y2 = some q ∨ ft2 q) = ft2 at H
  refine allocH H inf26 fun b12 w7 H => ?_
  have H := H.insert 1
  simp only [List.take_succ_cons, List.take_zero, List.drop_succ_cons, List.drop_zero, List.nil_append, List.cons_append] at H
  refine storeH H 1 rfl sz26 rfl rfl rfl fun w8 H => ?_
  have H : Apt w0 w8 (cur bc (.slice C bs.length cap) (N + 1100) :: bx b12 [.int .i64 g2.nons, .int .i64 g2.toks, .slice Y2 g2.rules.length c2] 26 :: rdr ft2 Y2 g2.rules :: bx b7 [.int .i64 g1.nons, .int .i64 g1.toks, .slice Y1 g1.rules.length c1] 26 :: rdr ft1 Y1 g1.rules :: bx b3 zg 26 :: bx b1 zg 26 :: E) := curMore H (by omega)
  refine join_as (fun f w' => f 0 = ptrv bc ∧ f 2 = ptrv b1 ∧ f 3 = ptrv b3 ∧ f 4 = ptrv b7 ∧ f 5 = ptrv b12 ∧ ∃ g2 Y2 c2 ft2, Dr g2 ∧ List.length g2.rules ≤ c2 ∧ Apt w0 w' (cur bc (.slice C bs.length cap) (N + 1200) :: bx b12 [.int .i64 g2.nons, .int .i64 g2.toks, .slice Y2 g2.rules.length c2] 26 :: rdr ft2 Y2 g2.rules :: bx b7 [.int .i64 g1.nons, .int .i64 g1.toks, .slice Y1 g1.rules.length c1] 26 :: rdr ft1 Y1 g1.rules :: bx b3 zg 26 :: bx b1 zg 26 :: E)) (fun K hK => ?_) ?_
  · have hG1 : kG Y1 c1 g1.rules w8 := ⟨hc1, (H.rdr 4 rfl).mono fun _ _ => trivial⟩
    rw [ldB_agg agg26 sz26 rfl (H.box 3 rfl)]
    refine specUsefulOf_c hG1 fun w9 X c g hc hR => ?_
    have H := (H.addRead g hR).insert 1
    simp only [List.take_succ_cons, List.take_zero, List.drop_succ_cons, List.drop_zero, List.nil_append, List.cons_append] at H
    generalize (fun q => w8.heap.size ≤ q ∧ q < w9.heap.size) = ftu at H
    have hdu := (Dr.of hd1).useful
    generalize (usefulV g1).1 = u at *
    simp only [bin_add, bin_sub, bin_mul, bin_eql, bin_neq, bin_lss, bin_leq, bin_gtr, bin_geq, un_not, un_neg, pick_true, pick_false, extract_two_0, extract_two_1, nilCheck_pointer, cond_true', cond_false', guard_tt, guard_ff, guard_tf, guard_ft, guard_undef, seqQ_normal, seqQ_ret, seqQ_exit, blockQ_ret, blockQ_normal, blockQ_exit, bodyQ_ret, bodyQ_normal, resK_nil, resK_tmp, ite_T, ite_F, upd_at, add_plain, add_zero', Nat.reduceEqDiff, fa8_0, fa8_1, fa8_2, fa8_3, fa14_0, fa14_1, fa19_0, len22, len24, fa26_0, fa26_1, fa26_2, len27, fa33_0, fa33_1, len35, fa77_0, fa77_1, fa88_0, fa88_1, fa88_2, fa88_3, fa88_4, fa88_5, fa114_0, fa114_1, fa114_2, fa124_0, fa124_1, len134, len136, len154, fa156_0, fa156_1, fa156_2, fa156_3, fa156_4, fa156_5, fa156_6, fa184_0, fa184_1, fa200_0, fa200_1, fa200_2, fa200_3, fa215_0, fa215_1, fa215_2, fa215_3, fa215_4, len218, len271, fa274_0, fa274_1, fa274_2, fa303_0, fa303_1, fa303_2, fa303_3, fa314_0, fa314_1, fa314_2, fa314_3, fa314_4, fa314_5, fa314_6, fa314_7, fa314_8, fa314_9, fa314_10]
    refine allocH H inf26 fun b23 w10 H => ?_
    have H := H.insert 1
    simp only [List.take_succ_cons, List.take_zero, List.drop_succ_cons, List.drop_zero, List.nil_append, List.cons_append] at H
    refine storeH H 1 rfl sz26 rfl rfl rfl fun w11 H => ?_
    have H : Apt w0 w11 (cur bc (.slice C bs.length cap) (N + 1100) :: bx b23 [.int .i64 u.nons, .int .i64 u.toks, .slice X u.rules.length c] 26 :: rdr ftu X u.rules :: bx b12 [.int .i64 g2.nons, .int .i64 g2.toks, .slice Y2 g2.rules.length c2] 26 :: rdr ft2 Y2 g2.rules :: bx b7 [.int .i64 g1.nons, .int .i64 g1.toks, .slice Y1 g1.rules.length c1] 26 :: rdr ft1 Y1 g1.rules :: bx b3 zg 26 :: bx b1 zg 26 :: E) := H
    have old : ∀ {w' : World} {M : Nat} {f' : F}, M ≤ N + 1200 → Apt w0 w' (cur bc (.slice C bs.length cap) M :: bx b23 [.int .i64 u.nons, .int .i64 u.toks, .slice X u.rules.length c] 26 :: rdr ftu X u.rules :: bx b12 [.int .i64 g2.nons, .int .i64 g2.toks, .slice Y2 g2.rules.length c2] 26 :: rdr ft2 Y2 g2.rules :: bx b7 [.int .i64 g1.nons, .int .i64 g1.toks, .slice Y1 g1.rules.length c1] 26 :: rdr ft1 Y1 g1.rules :: bx b3 zg 26 :: bx b1 zg 26 :: E) → f' 0 = ptrv bc → f' 2 = ptrv b1 → f' 3 = ptrv b3 → f' 4 = ptrv b7 → f' 5 = ptrv b12 → K f' w' := fun hM H e0 e2 e3 e4 e5 => by
      have H := (H.erase 1).erase 1
      simp only [List.eraseIdx_cons_zero, List.eraseIdx_cons_succ] at H
      exact hK _ _ ⟨e0, e2, e3, e4, e5, g2, Y2, c2, ft2, Dr.of hd2, hc2, curMore H hM⟩
    cases (usefulV g1).2
    · simp only [bin_add, bin_sub, bin_mul, bin_eql, bin_neq, bin_lss, bin_leq, bin_gtr, bin_geq, un_not, un_neg, pick_true, pick_false, extract_two_0, extract_two_1, nilCheck_pointer, cond_true', cond_false', guard_tt, guard_ff, guard_tf, guard_ft, guard_undef, seqQ_normal, seqQ_ret, seqQ_exit, blockQ_ret, blockQ_normal, blockQ_exit, bodyQ_ret, bodyQ_normal, resK_nil, resK_tmp, ite_T, ite_F, upd_at, add_plain, add_zero', Nat.reduceEqDiff, fa8_0, fa8_1, fa8_2, fa8_3, fa14_0, fa14_1, fa19_0, len22, len24, fa26_0, fa26_1, fa26_2, len27, fa33_0, fa33_1, len35, fa77_0, fa77_1, fa88_0, fa88_1, fa88_2, fa88_3, fa88_4, fa88_5, fa114_0, fa114_1, fa114_2, fa124_0, fa124_1, len134, len136, len154, fa156_0, fa156_1, fa156_2, fa156_3, fa156_4, fa156_5, fa156_6, fa184_0, fa184_1, fa200_0, fa200_1, fa200_2, fa200_3, fa215_0, fa215_1, fa215_2, fa215_3, fa215_4, len218, len271, fa274_0, fa274_1, fa274_2, fa303_0, fa303_1, fa303_2, fa303_3, fa314_0, fa314_1, fa314_2, fa314_3, fa314_4, fa314_5, fa314_6, fa314_7, fa314_8, fa314_9, fa314_10]
      exact old (by omega) H rfl rfl rfl rfl rfl
    simp only [bin_add, bin_sub, bin_mul, bin_eql, bin_neq, bin_lss, bin_leq, bin_gtr, bin_geq, un_not, un_neg, pick_true, pick_false, extract_two_0, extract_two_1, nilCheck_pointer, cond_true', cond_false', guard_tt, guard_ff, guard_tf, guard_ft, guard_undef, seqQ_normal, seqQ_ret, seqQ_exit, blockQ_ret, blockQ_normal, blockQ_exit, bodyQ_ret, bodyQ_normal, resK_nil, resK_tmp, ite_T, ite_F, upd_at, add_plain, add_zero', Nat.reduceEqDiff, fa8_0, fa8_1, fa8_2, fa8_3, fa14_0, fa14_1, fa19_0, len22, len24, fa26_0, fa26_1, fa26_2, len27, fa33_0, fa33_1, len35, fa77_0, fa77_1, fa88_0, fa88_1, fa88_2, fa88_3, fa88_4, fa88_5, fa114_0, fa114_1, fa114_2, fa124_0, fa124_1, len134, len136, len154, fa156_0, fa156_1, fa156_2, fa156_3, fa156_4, fa156_5, fa156_6, fa184_0, fa184_1, fa200_0, fa200_1, fa200_2, fa200_3, fa215_0, fa215_1, fa215_2, fa215_3, fa215_4, len218, len271, fa274_0, fa274_1, fa274_2, fa303_0, fa303_1, fa303_2, fa303_3, fa314_0, fa314_1, fa314_2, fa314_3, fa314_4, fa314_5, fa314_6, fa314_7, fa314_8, fa314_9, fa314_10]
    refine one_c H 0 rfl hC (by omega) (by omega) fun w12 b H => ?_
    simp only [List.set_cons_zero] at H
    cases b
    · simp only [bin_add, bin_sub, bin_mul, bin_eql, bin_neq, bin_lss, bin_leq, bin_gtr, bin_geq, un_not, un_neg, pick_true, pick_false, extract_two_0, extract_two_1, nilCheck_pointer, cond_true', cond_false', guard_tt, guard_ff, guard_tf, guard_ft, guard_undef, seqQ_normal, seqQ_ret, seqQ_exit, blockQ_ret, blockQ_normal, blockQ_exit, bodyQ_ret, bodyQ_normal, resK_nil, resK_tmp, ite_T, ite_F, upd_at, add_plain, add_zero', Nat.reduceEqDiff, fa8_0, fa8_1, fa8_2, fa8_3, fa14_0, fa14_1, fa19_0, len22, len24, fa26_0, fa26_1, fa26_2, len27, fa33_0, fa33_1, len35, fa77_0, fa77_1, fa88_0, fa88_1, fa88_2, fa88_3, fa88_4, fa88_5, fa114_0, fa114_1, fa114_2, fa124_0, fa124_1, len134, len136, len154, fa156_0, fa156_1, fa156_2, fa156_3, fa156_4, fa156_5, fa156_6, fa184_0, fa184_1, fa200_0, fa200_1, fa200_2, fa200_3, fa215_0, fa215_1, fa215_2, fa215_3, fa215_4, len218, len271, fa274_0, fa274_1, fa274_2, fa303_0, fa303_1, fa303_2, fa303_3, fa314_0, fa314_1, fa314_2, fa314_3, fa314_4, fa314_5, fa314_6, fa314_7, fa314_8, fa314_9, fa314_10]
      exact old (by omega) H rfl rfl rfl rfl rfl
    simp only [bin_add, bin_sub, bin_mul, bin_eql, bin_neq, bin_lss, bin_leq, bin_gtr, bin_geq, un_not, un_neg, pick_true, pick_false, extract_two_0, extract_two_1, nilCheck_pointer, cond_true', cond_false', guard_tt, guard_ff, guard_tf, guard_ft, guard_undef, seqQ_normal, seqQ_ret, seqQ_exit, blockQ_ret, blockQ_normal, blockQ_exit, bodyQ_ret, bodyQ_normal, resK_nil, resK_tmp, ite_T, ite_F, upd_at, add_plain, add_zero', Nat.reduceEqDiff, fa8_0, fa8_1, fa8_2, fa8_3, fa14_0, fa14_1, fa19_0, len22, len24, fa26_0, fa26_1, fa26_2, len27, fa33_0, fa33_1, len35, fa77_0, fa77_1, fa88_0, fa88_1, fa88_2, fa88_3, fa88_4, fa88_5, fa114_0, fa114_1, fa114_2, fa124_0, fa124_1, len134, len136, len154, fa156_0, fa156_1, fa156_2, fa156_3, fa156_4, fa156_5, fa156_6, fa184_0, fa184_1, fa200_0, fa200_1, fa200_2, fa200_3, fa215_0, fa215_1, fa215_2, fa215_3, fa215_4, len218, len271, fa274_0, fa274_1, fa274_2, fa303_0, fa303_1, fa303_2, fa303_3, fa314_0, fa314_1, fa314_2, fa314_3, fa314_4, fa314_5, fa314_6, fa314_7, fa314_8, fa314_9, fa314_10]
    rw [ldB_agg agg26 sz26 rfl (H.box 1 rfl)]
    refine storeH H 3 rfl sz26 rfl rfl rfl fun w13 H => ?_
    have H : Apt w0 w13 (cur bc (.slice C bs.length cap) (N + 1100 + 2) :: bx b23 [.int .i64 u.nons, .int .i64 u.toks, .slice X u.rules.length c] 26 :: rdr ftu X u.rules :: bx b12 [.int .i64 u.nons, .int .i64 u.toks, .slice X u.rules.length c] 26 :: rdr ft2 Y2 g2.rules :: bx b7 [.int .i64 g1.nons, .int .i64 g1.toks, .slice Y1 g1.rules.length c1] 26 :: rdr ft1 Y1 g1.rules :: bx b3 zg 26 :: bx b1 zg 26 :: E) := H
    have H := (H.erase 4).erase 1
    simp only [List.eraseIdx_cons_zero, List.eraseIdx_cons_succ] at H
    have H := H.perm (List.Perm.cons _ (List.Perm.swap _ _ _))
    exact hK _ _ ⟨rfl, rfl, rfl, rfl, rfl, u, X, c, ftu, hdu, hc, curMore H (by omega)⟩
  clear H
  rintro f w9 ⟨f0, f2, f3, f4, f5, g2, Y2, c2, ft2, hd2, hc2, H⟩
  refine loop_to 4 0 (fun i f w' => i ≤ 4 ∧ f 8 = .int .i64 (i : Int) ∧ ∃ g2 Y2 c2 ft2, Dr g2 ∧ List.length g2.rules ≤ c2 ∧ Apt w0 w' (cur bc (.slice C bs.length cap) (N + 1200 + i * 500) :: bx b12 [.int .i64 g2.nons, .int .i64 g2.toks, .slice Y2 g2.rules.length c2] 26 :: rdr ft2 Y2 g2.rules :: bx b7 [.int .i64 g1.nons, .int .i64 g1.toks, .slice Y1 g1.rules.length c1] 26 :: rdr ft1 Y1 g1.rules :: bx b3 zg 26 :: bx b1 zg 26 :: E))
    ⟨Nat.zero_le _, rfl, g2, Y2, c2, ft2, hd2, hc2, H⟩ ?_
  clear H
  rintro i q w10 NN hag ⟨hi, q8, g2, Y2, c2, ft2, hd2, hc2, H⟩ hNN
  have q0 : q 0 = ptrv bc := (hag 0 (by decide)).trans f0
  have q2 : q 2 = ptrv b1 := (hag 2 (by decide)).trans f2
  have q3 : q 3 = ptrv b3 := (hag 3 (by decide)).trans f3
  have q4 : q 4 = ptrv b7 := (hag 4 (by decide)).trans f4
  have q5 : q 5 = ptrv b12 := (hag 5 (by decide)).trans f5
  have fin : ∀ (g2 : Gram) (Y2 : Option Addr) (c2 : Nat) (ft2 : Nat → Prop) (M : Nat) (w' : World), M ≤ N + 4000 → Dr g2 → g2.rules.length ≤ c2 → Apt w0 w' (cur bc (.slice C bs.length cap) M :: bx b12 [.int .i64 g2.nons, .int .i64 g2.toks, .slice Y2 g2.rules.length c2] 26 :: rdr ft2 Y2 g2.rules :: bx b7 [.int .i64 g1.nons, .int .i64 g1.toks, .slice Y1 g1.rules.length c1] 26 :: rdr ft1 Y1 g1.rules :: bx b3 zg 26 :: bx b1 zg 26 :: E) →
      ∃ S54 : World → Prop, ∃ h55 : S54 w'.drew,
       Rd Try.prog ⟨S54, w'.drew, h55⟩ (sLoad 26 (ptrv b7)) fun t56 =>
       Rd Try.prog ⟨S54, w'.drew, h55⟩ (sLoad 26 (ptrv b12)) fun t57 =>
       Do Try.prog (sStore 26 (ptrv b1) t56) (fun _ w58 =>
       S54 w58 ∧ Do Try.prog (sStore 26 (ptrv b3) t57) (fun _ w59 =>
       Rd Try.prog (WS.at w59) (sLoadVar 26 (ptrv b1)) fun t60 => Rd Try.prog (WS.at w59) (sLoadVar 26 (ptrv b3)) fun t61 => k (.tuple #[t60, t61]) w59) w58) w'.drew := fun g2 Y2 c2 ft2 M w' hM hd2 hc2 H => by
    have H := H.drew
    refine ⟨fun w'' => Box w'' b7 [.int .i64 g1.nons, .int .i64 g1.toks, .slice Y1 g1.rules.length c1] 26 ∧ Box w'' b12 [.int .i64 g2.nons, .int .i64 g2.toks, .slice Y2 g2.rules.length c2] 26, ⟨H.box 3 rfl, H.box 1 rfl⟩, ?_⟩
    refine rdi (rdS26 rfl fun w' h => h.1) (rdi (rdS26 rfl fun w' h => h.2) ?_)
    refine storeH H 6 rfl sz26 rfl rfl rfl fun w11 H => ?_
    have H : Apt w0 w11 (cur bc (.slice C bs.length cap) M :: bx b12 [.int .i64 g2.nons, .int .i64 g2.toks, .slice Y2 g2.rules.length c2] 26 :: rdr ft2 Y2 g2.rules :: bx b7 [.int .i64 g1.nons, .int .i64 g1.toks, .slice Y1 g1.rules.length c1] 26 :: rdr ft1 Y1 g1.rules :: bx b3 zg 26 :: bx b1 [.int .i64 g1.nons, .int .i64 g1.toks, .slice Y1 g1.rules.length c1] 26 :: E) := H
    refine ⟨⟨H.box 3 rfl, H.box 1 rfl⟩, ?_⟩
    refine storeH H 5 rfl sz26 rfl rfl rfl fun w12 H => ?_
    have H : Apt w0 w12 (cur bc (.slice C bs.length cap) M :: bx b12 [.int .i64 g2.nons, .int .i64 g2.toks, .slice Y2 g2.rules.length c2] 26 :: rdr ft2 Y2 g2.rules :: bx b7 [.int .i64 g1.nons, .int .i64 g1.toks, .slice Y1 g1.rules.length c1] 26 :: rdr ft1 Y1 g1.rules :: bx b3 [.int .i64 g2.nons, .int .i64 g2.toks, .slice Y2 g2.rules.length c2] 26 :: bx b1 [.int .i64 g1.nons, .int .i64 g1.toks, .slice Y1 g1.rules.length c1] 26 :: E) := H
    rw [rd_loadVar, ldB_agg agg26 sz26 rfl (H.box 6 rfl), rd_loadVar, ldB_agg agg26 sz26 rfl (H.box 5 rfl)]
    have H := (((H.erase 6).erase 5).erase 3).erase 1
    simp only [List.eraseIdx_cons_zero, List.eraseIdx_cons_succ] at H
    exact hk w12 g1 g2 Y1 c1 ft1 Y2 c2 ft2 hd1 hd2 hc1 hc2 (curMore H hM)
  simp only [q0, q4, q5, q8, bin_add, bin_sub, bin_mul, bin_eql, bin_neq, bin_lss, bin_leq, bin_gtr, bin_geq, un_not, un_neg, pick_true, pick_false, extract_two_0, extract_two_1, nilCheck_pointer, cond_true', cond_false', guard_tt, guard_ff, guard_tf, guard_ft, guard_undef, seqQ_normal, seqQ_ret, seqQ_exit, blockQ_ret, blockQ_normal, blockQ_exit, bodyQ_ret, bodyQ_normal, resK_nil, resK_tmp, ite_T, ite_F, upd_at, add_plain, add_zero', Nat.reduceEqDiff, fa8_0, fa8_1, fa8_2, fa8_3, fa14_0, fa14_1, fa19_0, len22, len24, fa26_0, fa26_1, fa26_2, len27, fa33_0, fa33_1, len35, fa77_0, fa77_1, fa88_0, fa88_1, fa88_2, fa88_3, fa88_4, fa88_5, fa114_0, fa114_1, fa114_2, fa124_0, fa124_1, len134, len136, len154, fa156_0, fa156_1, fa156_2, fa156_3, fa156_4, fa156_5, fa156_6, fa184_0, fa184_1, fa200_0, fa200_1, fa200_2, fa200_3, fa215_0, fa215_1, fa215_2, fa215_3, fa215_4, len218, len271, fa274_0, fa274_1, fa274_2, fa303_0, fa303_1, fa303_2, fa303_3, fa314_0, fa314_1, fa314_2, fa314_3, fa314_4, fa314_5, fa314_6, fa314_7, fa314_8, fa314_9, fa314_10]
  by_cases hlt : i < 4
  case neg =>
    simp only [show ¬ ((i : Int) < 4) from by omega, decide_false, q2, q3, q4, q5, bin_add, bin_sub, bin_mul, bin_eql, bin_neq, bin_lss, bin_leq, bin_gtr, bin_geq, un_not, un_neg, pick_true, pick_false, extract_two_0, extract_two_1, nilCheck_pointer, cond_true', cond_false', guard_tt, guard_ff, guard_tf, guard_ft, guard_undef, seqQ_normal, seqQ_ret, seqQ_exit, blockQ_ret, blockQ_normal, blockQ_exit, bodyQ_ret, bodyQ_normal, resK_nil, resK_tmp, ite_T, ite_F, upd_at, add_plain, add_zero', Nat.reduceEqDiff, fa8_0, fa8_1, fa8_2, fa8_3, fa14_0, fa14_1, fa19_0, len22, len24, fa26_0, fa26_1, fa26_2, len27, fa33_0, fa33_1, len35, fa77_0, fa77_1, fa88_0, fa88_1, fa88_2, fa88_3, fa88_4, fa88_5, fa114_0, fa114_1, fa114_2, fa124_0, fa124_1, len134, len136, len154, fa156_0, fa156_1, fa156_2, fa156_3, fa156_4, fa156_5, fa156_6, fa184_0, fa184_1, fa200_0, fa200_1, fa200_2, fa200_3, fa215_0, fa215_1, fa215_2, fa215_3, fa215_4, len218, len271, fa274_0, fa274_1, fa274_2, fa303_0, fa303_1, fa303_2, fa303_3, fa314_0, fa314_1, fa314_2, fa314_3, fa314_4, fa314_5, fa314_6, fa314_7, fa314_8, fa314_9, fa314_10]
    exact fin g2 Y2 c2 ft2 _ _ (by omega) hd2 hc2 H
  simp only [show ((i : Int) < 4) from by omega, decide_true, bin_add, bin_sub, bin_mul, bin_eql, bin_neq, bin_lss, bin_leq, bin_gtr, bin_geq, un_not, un_neg, pick_true, pick_false, extract_two_0, extract_two_1, nilCheck_pointer, cond_true', cond_false', guard_tt, guard_ff, guard_tf, guard_ft, guard_undef, seqQ_normal, seqQ_ret, seqQ_exit, blockQ_ret, blockQ_normal, blockQ_exit, bodyQ_ret, bodyQ_normal, resK_nil, resK_tmp, ite_T, ite_F, upd_at, add_plain, add_zero', Nat.reduceEqDiff, fa8_0, fa8_1, fa8_2, fa8_3, fa14_0, fa14_1, fa19_0, len22, len24, fa26_0, fa26_1, fa26_2, len27, fa33_0, fa33_1, len35, fa77_0, fa77_1, fa88_0, fa88_1, fa88_2, fa88_3, fa88_4, fa88_5, fa114_0, fa114_1, fa114_2, fa124_0, fa124_1, len134, len136, len154, fa156_0, fa156_1, fa156_2, fa156_3, fa156_4, fa156_5, fa156_6, fa184_0, fa184_1, fa200_0, fa200_1, fa200_2, fa200_3, fa215_0, fa215_1, fa215_2, fa215_3, fa215_4, len218, len271, fa274_0, fa274_1, fa274_2, fa303_0, fa303_1, fa303_2, fa303_3, fa314_0, fa314_1, fa314_2, fa314_3, fa314_4, fa314_5, fa314_6, fa314_7, fa314_8, fa314_9, fa314_10]
  rw [ldB3 (H.box 1 rfl) rfl, ldB3 (H.box 3 rfl) rfl]
  simp only [bin_add, bin_sub, bin_mul, bin_eql, bin_neq, bin_lss, bin_leq, bin_gtr, bin_geq, un_not, un_neg, pick_true, pick_false, extract_two_0, extract_two_1, nilCheck_pointer, cond_true', cond_false', guard_tt, guard_ff, guard_tf, guard_ft, guard_undef, seqQ_normal, seqQ_ret, seqQ_exit, blockQ_ret, blockQ_normal, blockQ_exit, bodyQ_ret, bodyQ_normal, resK_nil, resK_tmp, ite_T, ite_F, upd_at, add_plain, add_zero', Nat.reduceEqDiff, fa8_0, fa8_1, fa8_2, fa8_3, fa14_0, fa14_1, fa19_0, len22, len24, fa26_0, fa26_1, fa26_2, len27, fa33_0, fa33_1, len35, fa77_0, fa77_1, fa88_0, fa88_1, fa88_2, fa88_3, fa88_4, fa88_5, fa114_0, fa114_1, fa114_2, fa124_0, fa124_1, len134, len136, len154, fa156_0, fa156_1, fa156_2, fa156_3, fa156_4, fa156_5, fa156_6, fa184_0, fa184_1, fa200_0, fa200_1, fa200_2, fa200_3, fa215_0, fa215_1, fa215_2, fa215_3, fa215_4, len218, len271, fa274_0, fa274_1, fa274_2, fa303_0, fa303_1, fa303_2, fa303_3, fa314_0, fa314_1, fa314_2, fa314_3, fa314_4, fa314_5, fa314_6, fa314_7, fa314_8, fa314_9, fa314_10]
  by_cases ht : g2.toks = g1.toks
  · simp only [ht, decide_true, Bool.not_true, q2, q3, q4, q5, bin_add, bin_sub, bin_mul, bin_eql, bin_neq, bin_lss, bin_leq, bin_gtr, bin_geq, un_not, un_neg, pick_true, pick_false, extract_two_0, extract_two_1, nilCheck_pointer, cond_true', cond_false', guard_tt, guard_ff, guard_tf, guard_ft, guard_undef, seqQ_normal, seqQ_ret, seqQ_exit, blockQ_ret, blockQ_normal, blockQ_exit, bodyQ_ret, bodyQ_normal, resK_nil, resK_tmp, ite_T, ite_F, upd_at, add_plain, add_zero', Nat.reduceEqDiff, fa8_0, fa8_1, fa8_2, fa8_3, fa14_0, fa14_1, fa19_0, len22, len24, fa26_0, fa26_1, fa26_2, len27, fa33_0, fa33_1, len35, fa77_0, fa77_1, fa88_0, fa88_1, fa88_2, fa88_3, fa88_4, fa88_5, fa114_0, fa114_1, fa114_2, fa124_0, fa124_1, len134, len136, len154, fa156_0, fa156_1, fa156_2, fa156_3, fa156_4, fa156_5, fa156_6, fa184_0, fa184_1, fa200_0, fa200_1, fa200_2, fa200_3, fa215_0, fa215_1, fa215_2, fa215_3, fa215_4, len218, len271, fa274_0, fa274_1, fa274_2, fa303_0, fa303_1, fa303_2, fa303_3, fa314_0, fa314_1, fa314_2, fa314_3, fa314_4, fa314_5, fa314_6, fa314_7, fa314_8, fa314_9, fa314_10]
    exact fin g2 Y2 c2 ft2 _ _ (by omega) hd2 hc2 H
  simp only [ht, decide_false, Bool.not_false, bin_add, bin_sub, bin_mul, bin_eql, bin_neq, bin_lss, bin_leq, bin_gtr, bin_geq, un_not, un_neg, pick_true, pick_false, extract_two_0, extract_two_1, nilCheck_pointer, cond_true', cond_false', guard_tt, guard_ff, guard_tf, guard_ft, guard_undef, seqQ_normal, seqQ_ret, seqQ_exit, blockQ_ret, blockQ_normal, blockQ_exit, bodyQ_ret, bodyQ_normal, resK_nil, resK_tmp, ite_T, ite_F, upd_at, add_plain, add_zero', Nat.reduceEqDiff, fa8_0, fa8_1, fa8_2, fa8_3, fa14_0, fa14_1, fa19_0, len22, len24, fa26_0, fa26_1, fa26_2, len27, fa33_0, fa33_1, len35, fa77_0, fa77_1, fa88_0, fa88_1, fa88_2, fa88_3, fa88_4, fa88_5, fa114_0, fa114_1, fa114_2, fa124_0, fa124_1, len134, len136, len154, fa156_0, fa156_1, fa156_2, fa156_3, fa156_4, fa156_5, fa156_6, fa184_0, fa184_1, fa200_0, fa200_1, fa200_2, fa200_3, fa215_0, fa215_1, fa215_2, fa215_3, fa215_4, len218, len271, fa274_0, fa274_1, fa274_2, fa303_0, fa303_1, fa303_2, fa303_3, fa314_0, fa314_1, fa314_2, fa314_3, fa314_4, fa314_5, fa314_6, fa314_7, fa314_8, fa314_9, fa314_10]
  refine grammar_c H hC (by omega) fun w11 g3 ft3 Y3 c3 hd3 H => ?_
  have hc3 := (gowK (H.gow 1 rfl)).1
  have H := H.toRead 1 rfl
  simp only [List.set_cons_zero, List.set_cons_succ] at H
  generalize (fun q => blk Y3 = some q ∨ ft3 q) = ft3 at H
  refine storeH H 2 rfl sz26 rfl rfl rfl fun w12 H => ?_
  have H : Apt w0 w12 (cur bc (.slice C bs.length cap) (N + 1200 + i * 500 + 500) :: rdr ft3 Y3 g3.rules :: bx b12 [.int .i64 g3.nons, .int .i64 g3.toks, .slice Y3 g3.rules.length c3] 26 :: rdr ft2 Y2 g2.rules :: bx b7 [.int .i64 g1.nons, .int .i64 g1.toks, .slice Y1 g1.rules.length c1] 26 :: rdr ft1 Y1 g1.rules :: bx b3 zg 26 :: bx b1 zg 26 :: E) := H
  have H := H.erase 3
  simp only [List.eraseIdx_cons_zero, List.eraseIdx_cons_succ] at H
  have H := H.perm (List.Perm.cons _ (List.Perm.swap _ _ _))
  rw [i64_of (by omega) (by omega)]
  exact hNN _ _ hlt ⟨by omega, rfl, g3, Y3, c3, ft3, Dr.of hd3, hc3, curMore H (by omega)⟩
theorem drawUnionOf_c (hC : Byts w C bs) (hk : ∀ w' g1 g2 Y1 c1 ft1 Y2 c2 ft2, Drawn 101 g1 → Dr g2 → List.length g1.rules ≤ c1 → List.length g2.rules ≤ c2 → Apt w w' [rdr ft2 Y2 g2.rules, rdr ft1 Y1 g1.rules] → k (.tuple #[grv g1 Y1 c1, grv g2 Y2 c2]) w') :
    CallK Try.prog 36 [.slice C bs.length cap] k w := by
  refine enter36 ?_
  unfold S36
  have H := Apt.nil w
  refine allocH H inf26 fun b0 w1 H => ?_
  refine allocH H inf26 fun b1 w2 H => ?_
  refine rdi (bd114 (cells := #[.slice C bs.length cap, .int .i64 0, .int .u64 0]) rfl) ?_
  refine boxH H fun b4 w3 H => ?_
  simp only [List.nil_append, List.cons_append] at H
  have H := H.shutCur (N := 0) (tc := TC) (bc := b4) (cv := .slice C bs.length cap) (a := 0) (s := 0) 2 rfl (by omega) (by omega)
  simp only [List.set_cons_succ, List.set_cons_zero] at H
  have H : Apt w w3 [cur b4 (.slice C bs.length cap) 0, bx b0 zg 26, bx b1 zg 26] := H.perm ((List.Perm.cons _ (List.Perm.swap _ _ _)).trans (List.Perm.swap _ _ _))
  refine two_c H hC (by omega) fun w4 g1 g2 Y1 c1 ft1 Y2 c2 ft2 hd1 hd2 hc1 hc2 H => ?_
  simp only [bin_add, bin_sub, bin_mul, bin_eql, bin_neq, bin_lss, bin_leq, bin_gtr, bin_geq, un_not, un_neg, pick_true, pick_false, extract_two_0, extract_two_1, nilCheck_pointer, cond_true', cond_false', guard_tt, guard_ff, guard_tf, guard_ft, guard_undef, seqQ_normal, seqQ_ret, seqQ_exit, blockQ_ret, blockQ_normal, blockQ_exit, bodyQ_ret, bodyQ_normal, resK_nil, resK_tmp, ite_T, ite_F, upd_at, add_plain, add_zero', Nat.reduceEqDiff, fa8_0, fa8_1, fa8_2, fa8_3, fa14_0, fa14_1, fa19_0, len22, len24, fa26_0, fa26_1, fa26_2, len27, fa33_0, fa33_1, len35, fa77_0, fa77_1, fa88_0, fa88_1, fa88_2, fa88_3, fa88_4, fa88_5, fa114_0, fa114_1, fa114_2, fa124_0, fa124_1, len134, len136, len154, fa156_0, fa156_1, fa156_2, fa156_3, fa156_4, fa156_5, fa156_6, fa184_0, fa184_1, fa200_0, fa200_1, fa200_2, fa200_3, fa215_0, fa215_1, fa215_2, fa215_3, fa215_4, len218, len271, fa274_0, fa274_1, fa274_2, fa303_0, fa303_1, fa303_2, fa303_3, fa314_0, fa314_1, fa314_2, fa314_3, fa314_4, fa314_5, fa314_6, fa314_7, fa314_8, fa314_9, fa314_10]
  refine storeH H 3 rfl sz26 rfl rfl rfl fun w5 H => ?_
  have H : Apt w w5 [cur b4 (.slice C bs.length cap) (0 + 4000), rdr ft2 Y2 g2.rules, rdr ft1 Y1 g1.rules, bx b0 [.int .i64 g1.nons, .int .i64 g1.toks, .slice Y1 g1.rules.length c1] 26, bx b1 zg 26] := H
  refine storeH H 4 rfl sz26 rfl rfl rfl fun w6 H => ?_
  have H : Apt w w6 [cur b4 (.slice C bs.length cap) (0 + 4000), rdr ft2 Y2 g2.rules, rdr ft1 Y1 g1.rules, bx b0 [.int .i64 g1.nons, .int .i64 g1.toks, .slice Y1 g1.rules.length c1] 26, bx b1 [.int .i64 g2.nons, .int .i64 g2.toks, .slice Y2 g2.rules.length c2] 26] := H
  rw [rd_loadVar, ldB_agg agg26 sz26 rfl (H.box 3 rfl), rd_loadVar, ldB_agg agg26 sz26 rfl (H.box 4 rfl)]
  have H := ((H.erase 4).erase 3).erase 0
  simp only [List.eraseIdx_cons_zero, List.eraseIdx_cons_succ] at H
  exact hk w6 g1 g2 Y1 c1 ft1 Y2 c2 ft2 hd1 hd2 hc1 hc2 H
theorem drawGood_c (hC : Byts w C bs) (hk : ∀ w' gm ft Y cy, Drawn 101 gm → Apt w w' [gth ft Y cy gm.rules] → k (grv gm Y cy) w') :
    CallK Try.prog 173 [.slice C bs.length cap] k w := by
  refine enter173 ?_
  unfold S173
  refine draw0 fun b1 b4 w1 H => ?_
  refine any_c H hC (by omega) fun w2 gm ft Y cy hd H => ?_
  refine storeH H 2 rfl sz26 rfl rfl rfl fun w3 H => ?_
  have H : Apt w w3 [cur b4 (.slice C bs.length cap) (0 + 600), gth ft Y cy gm.rules, bx b1 [.int .i64 gm.nons, .int .i64 gm.toks, .slice Y gm.rules.length cy] 26] := H
  rw [rd_loadVar, ldB_agg agg26 sz26 rfl (H.box 2 rfl)]
  have H := (H.erase 2).erase 0
  simp only [List.eraseIdx_cons_zero, List.eraseIdx_cons_succ] at H
  exact hk w3 gm ft Y cy hd H
theorem drawStarOf_c (hC : Byts w C bs) (hk : ∀ w' gm ft Y cy, Drawn 101 gm → Apt w w' [gth ft Y cy gm.rules] → k (grv gm Y cy) w') :
    CallK Try.prog 45 [.slice C bs.length cap] k w := by
  refine enter45 ?_
  unfold S45
  have H := Apt.nil w
  refine allocH H inf26 fun b1 w1 H => ?_
  refine drawGood_c (hC.gr H.gr) fun w2 gm ft Y cy hd A => ?_
  have H := H.append A
  simp only [List.nil_append, List.cons_append] at H
  refine storeH H 0 rfl sz26 rfl rfl rfl fun w3 H => ?_
  have H : Apt w w3 [bx b1 [.int .i64 gm.nons, .int .i64 gm.toks, .slice Y gm.rules.length cy] 26, gth ft Y cy gm.rules] := H
  rw [rd_loadVar, ldB_agg agg26 sz26 rfl (H.box 0 rfl)]
  have H := H.erase 0
  simp only [List.eraseIdx_cons_zero, List.eraseIdx_cons_succ] at H
  exact hk w3 gm ft Y cy hd H
end
end Go.Proofs.Ytegcjkhebecgbaa

/- Bd: bodies of functions as terms of the frame calculus, printed by shgen.py of this repository. -/
set_option linter.unusedVariables false
set_option maxRecDepth 100000
namespace Go.Proofs.Ytegcjkhebecgbaa
open Go Go.Sh

/-! loop.example/g00758/spec.JoinOf -/
def pl40 : Plans := fun _ => ⟨false, [], .nil⟩
def S40 (v0 v1 : Value) (k : Value → World → Prop) (w : World) : Prop :=
 Do Try.prog (sBox 26 v0) (fun t1 w2 =>
 Do Try.prog (sBox 26 v1) (fun t3 w4 =>
 Do Try.prog (sAlloc 26) (fun t5 w6 =>
 Rd Try.prog (WS.at w6) (sLoad 26 t1) fun t7 =>
 Rd Try.prog (WS.at w6) (sLoad 26 t3) fun t8 =>
 CallK Try.prog 170 [t7, t8] (fun t9 w10 =>
 Rd Try.prog (WS.at w10) (sUn .not t9) fun t11 =>
 CondK t11
  (Rd Try.prog (WS.at w10) (sBuild 26 []) fun t12 =>
  Do Try.prog (sStore 26 t5 t12) (fun _ w13 =>
  Rd Try.prog (WS.at w13) (sLoadVar 26 t5) fun t14 => k (.tuple #[t14, (.bool false)]) w13) w10)
  (Rd Try.prog (WS.at w10) (sFieldAddr 26 t1 0) fun t15 =>
  Rd Try.prog (WS.at w10) (sLoad 3 t15) fun t16 =>
  Rd Try.prog (WS.at w10) (sBin .add 3 true (.int .i64 1) t16) fun t17 =>
  Rd Try.prog (WS.at w10) (sFieldAddr 26 t3 0) fun t18 =>
  Rd Try.prog (WS.at w10) (sLoad 3 t18) fun t19 =>
  Rd Try.prog (WS.at w10) (sBin .add 3 false t17 t19) fun t20 =>
  Rd Try.prog (WS.at w10) (sFieldAddr 26 t1 1) fun t21 =>
  Rd Try.prog (WS.at w10) (sLoad 3 t21) fun t22 =>
  Rd Try.prog (WS.at w10) (sFieldAddr 26 t1 0) fun t23 =>
  Rd Try.prog (WS.at w10) (sLoad 3 t23) fun t24 =>
  Rd Try.prog (WS.at w10) (sBin .add 3 true (.int .i64 1) t24) fun t25 =>
  Do Try.prog (sBuildSlice 27 2 [(0, (.int .i64 1)), (1, t25)]) (fun t26 w27 =>
  Rd Try.prog (WS.at w27) (sBuild 33 [(1, t26)]) fun t28 =>
  Do Try.prog (sBuildSlice 24 1 [(0, t28)]) (fun t29 w30 =>
  Rd Try.prog (WS.at w30) (sLoad 26 t1) fun t31 =>
  Rd Try.prog (WS.at w30) (sLoad 26 t3) fun t32 =>
  Do Try.prog (sBuildSlice 218 2 [(0, t31), (1, t32)]) (fun t33 w34 =>
  CallK Try.prog 171 [t20, t22, t29, t33] (fun t35 w36 =>
  Rd Try.prog (WS.at w36) (sExtract t35 0) fun t37 =>
  Rd Try.prog (WS.at w36) (sExtract t35 1) fun t38 =>
  Do Try.prog (sStore 26 t5 t37) (fun _ w39 =>
  Rd Try.prog (WS.at w39) (sLoadVar 26 t5) fun t40 => k (.tuple #[t40, t38]) w39) w36) w34) w30) w27) w10)) w6) w4) w2) w
theorem body40 : Try.f40.body = some (bodyOf Try.f40) := by kernel_rfl
theorem same40 (v0 v1 : Value) (k : Value → World → Prop) (w : World) : wpF Try.prog pl40 (bodyOf Try.f40) (bodyQ Try.prog Try.f40.results.toList k) (initF [v0, v1]) w = S40 v0 v1 k w := by kernel_rfl
theorem enter40 {v0 v1 : Value} {k : Value → World → Prop} {w : World} (h : S40 v0 v1 k w) : CallK Try.prog 40 [v0, v1] k w :=
  call_of_wpF (pl := pl40) mixed Try.func40 body40 (by kernel_rfl) (of_decide_eq_true (by kernel_rfl)) (by kernel_rfl) (by kernel_rfl) (same40 v0 v1 k w ▸ h)

/-! loop.example/g00758/impl.JoinOf -/
def pl39 : Plans := fun _ => ⟨false, [], .nil⟩
def S39 (v0 v1 : Value) (k : Value → World → Prop) (w : World) : Prop :=
 Do Try.prog (sBox 26 v0) (fun t1 w2 =>
 Do Try.prog (sBox 26 v1) (fun t3 w4 =>
 Do Try.prog (sAlloc 26) (fun t5 w6 =>
 Rd Try.prog (WS.at w6) (sLoad 26 t1) fun t7 =>
 CallK Try.prog 148 [t7] (fun t8 w9 =>
 Rd Try.prog (WS.at w9) (sUn .not t8) fun t10 =>
 GuardK t10 false (fun k w' => Rd Try.prog (WS.at w9) (sLoad 26 t3) fun v => k v w') (fun t11 w12 =>
 GuardK t10 false (fun k w' => CallK Try.prog 148 [t11] k w') (fun t13 w14 =>
 GuardK t10 false (fun k w' => Rd Try.prog (WS.at w14) (sUn .not t13) fun v => k v w') (fun t15 w16 =>
 Rd Try.prog (WS.at w16) (sPick t10 (.bool true) t15) fun t17 =>
 GuardK t17 false (fun k w' => Rd Try.prog (WS.at w16) (sFieldAddr 26 t1 1) fun v => k v w') (fun t18 w19 =>
 GuardK t17 false (fun k w' => Rd Try.prog (WS.at w19) (sLoad 3 t18) fun v => k v w') (fun t20 w21 =>
 GuardK t17 false (fun k w' => Rd Try.prog (WS.at w21) (sFieldAddr 26 t3 1) fun v => k v w') (fun t22 w23 =>
 GuardK t17 false (fun k w' => Rd Try.prog (WS.at w23) (sLoad 3 t22) fun v => k v w') (fun t24 w25 =>
 GuardK t17 false (fun k w' => Rd Try.prog (WS.at w25) (sBin .neq 3 false t20 t24) fun v => k v w') (fun t26 w27 =>
 Rd Try.prog (WS.at w27) (sPick t17 (.bool true) t26) fun t28 =>
 CondK t28
  (Rd Try.prog (WS.at w27) (sBuild 26 []) fun t29 =>
  Do Try.prog (sStore 26 t5 t29) (fun _ w30 =>
  Rd Try.prog (WS.at w30) (sLoadVar 26 t5) fun t31 => k (.tuple #[t31, (.bool false)]) w30) w27)
  (Rd Try.prog (WS.at w27) (sFieldAddr 26 t1 0) fun t32 =>
  Rd Try.prog (WS.at w27) (sLoad 3 t32) fun t33 =>
  Rd Try.prog (WS.at w27) (sBin .add 3 true (.int .i64 1) t33) fun t34 =>
  Do Try.prog (sBuildSlice 27 2 [(0, (.int .i64 1)), (1, t34)]) (fun t35 w36 =>
  Do Try.prog (sBuildSlice 35 1 [(0, t35)]) (fun t37 w38 =>
  Rd Try.prog (WS.at w38) (sLoad 26 t1) fun t39 =>
  Rd Try.prog (WS.at w38) (sLoad 26 t3) fun t40 =>
  Do Try.prog (sBuildSlice 218 2 [(0, t39), (1, t40)]) (fun t41 w42 =>
  CallK Try.prog 169 [t37, t41] (fun t43 w44 =>
  Rd Try.prog (WS.at w44) (sExtract t43 0) fun t45 =>
  Rd Try.prog (WS.at w44) (sExtract t43 1) fun t46 =>
  Do Try.prog (sStore 26 t5 t45) (fun _ w47 =>
  Rd Try.prog (WS.at w47) (sLoadVar 26 t5) fun t48 => k (.tuple #[t48, t46]) w47) w44) w42) w38) w36) w27)) w25) w23) w21) w19) w16) w14) w12) w9) w6) w4) w2) w
theorem body39 : Try.f39.body = some (bodyOf Try.f39) := by kernel_rfl
theorem same39 (v0 v1 : Value) (k : Value → World → Prop) (w : World) : wpF Try.prog pl39 (bodyOf Try.f39) (bodyQ Try.prog Try.f39.results.toList k) (initF [v0, v1]) w = S39 v0 v1 k w := by kernel_rfl
theorem enter39 {v0 v1 : Value} {k : Value → World → Prop} {w : World} (h : S39 v0 v1 k w) : CallK Try.prog 39 [v0, v1] k w :=
  call_of_wpF (pl := pl39) mixed Try.func39 body39 (by kernel_rfl) (of_decide_eq_true (by kernel_rfl)) (by kernel_rfl) (by kernel_rfl) (same39 v0 v1 k w ▸ h)

/-! loop.example/g00758/spec.UnionOf -/
def pl38 : Plans := fun _ => ⟨false, [], .nil⟩
def S38 (v0 v1 : Value) (k : Value → World → Prop) (w : World) : Prop :=
 Do Try.prog (sBox 26 v0) (fun t1 w2 =>
 Do Try.prog (sBox 26 v1) (fun t3 w4 =>
 Do Try.prog (sAlloc 26) (fun t5 w6 =>
 Rd Try.prog (WS.at w6) (sLoad 26 t1) fun t7 =>
 Rd Try.prog (WS.at w6) (sLoad 26 t3) fun t8 =>
 CallK Try.prog 170 [t7, t8] (fun t9 w10 =>
 Rd Try.prog (WS.at w10) (sUn .not t9) fun t11 =>
 CondK t11
  (Rd Try.prog (WS.at w10) (sBuild 26 []) fun t12 =>
  Do Try.prog (sStore 26 t5 t12) (fun _ w13 =>
  Rd Try.prog (WS.at w13) (sLoadVar 26 t5) fun t14 => k (.tuple #[t14, (.bool false)]) w13) w10)
  (Rd Try.prog (WS.at w10) (sFieldAddr 26 t1 0) fun t15 =>
  Rd Try.prog (WS.at w10) (sLoad 3 t15) fun t16 =>
  Rd Try.prog (WS.at w10) (sBin .add 3 true (.int .i64 1) t16) fun t17 =>
  Rd Try.prog (WS.at w10) (sFieldAddr 26 t3 0) fun t18 =>
  Rd Try.prog (WS.at w10) (sLoad 3 t18) fun t19 =>
  Rd Try.prog (WS.at w10) (sBin .add 3 false t17 t19) fun t20 =>
  Rd Try.prog (WS.at w10) (sFieldAddr 26 t1 1) fun t21 =>
  Rd Try.prog (WS.at w10) (sLoad 3 t21) fun t22 =>
  Do Try.prog (sBuildSlice 27 1 [(0, (.int .i64 1))]) (fun t23 w24 =>
  Rd Try.prog (WS.at w24) (sBuild 33 [(1, t23)]) fun t25 =>
  Rd Try.prog (WS.at w24) (sFieldAddr 26 t1 0) fun t26 =>
  Rd Try.prog (WS.at w24) (sLoad 3 t26) fun t27 =>
  Rd Try.prog (WS.at w24) (sBin .add 3 true (.int .i64 1) t27) fun t28 =>
  Do Try.prog (sBuildSlice 27 1 [(0, t28)]) (fun t29 w30 =>
  Rd Try.prog (WS.at w30) (sBuild 33 [(1, t29)]) fun t31 =>
  Do Try.prog (sBuildSlice 24 2 [(0, t25), (1, t31)]) (fun t32 w33 =>
  Rd Try.prog (WS.at w33) (sLoad 26 t1) fun t34 =>
  Rd Try.prog (WS.at w33) (sLoad 26 t3) fun t35 =>
  Do Try.prog (sBuildSlice 218 2 [(0, t34), (1, t35)]) (fun t36 w37 =>
  CallK Try.prog 171 [t20, t22, t32, t36] (fun t38 w39 =>
  Rd Try.prog (WS.at w39) (sExtract t38 0) fun t40 =>
  Rd Try.prog (WS.at w39) (sExtract t38 1) fun t41 =>
  Do Try.prog (sStore 26 t5 t40) (fun _ w42 =>
  Rd Try.prog (WS.at w42) (sLoadVar 26 t5) fun t43 => k (.tuple #[t43, t41]) w42) w39) w37) w33) w30) w24) w10)) w6) w4) w2) w
theorem body38 : Try.f38.body = some (bodyOf Try.f38) := by kernel_rfl
theorem same38 (v0 v1 : Value) (k : Value → World → Prop) (w : World) : wpF Try.prog pl38 (bodyOf Try.f38) (bodyQ Try.prog Try.f38.results.toList k) (initF [v0, v1]) w = S38 v0 v1 k w := by kernel_rfl
theorem enter38 {v0 v1 : Value} {k : Value → World → Prop} {w : World} (h : S38 v0 v1 k w) : CallK Try.prog 38 [v0, v1] k w :=
  call_of_wpF (pl := pl38) mixed Try.func38 body38 (by kernel_rfl) (of_decide_eq_true (by kernel_rfl)) (by kernel_rfl) (by kernel_rfl) (same38 v0 v1 k w ▸ h)

/-! loop.example/g00758/impl.UnionOf -/
def pl37 : Plans := fun _ => ⟨false, [], .nil⟩
def S37 (v0 v1 : Value) (k : Value → World → Prop) (w : World) : Prop :=
 Do Try.prog (sBox 26 v0) (fun t1 w2 =>
 Do Try.prog (sBox 26 v1) (fun t3 w4 =>
 Do Try.prog (sAlloc 26) (fun t5 w6 =>
 Rd Try.prog (WS.at w6) (sLoad 26 t1) fun t7 =>
 CallK Try.prog 148 [t7] (fun t8 w9 =>
 Rd Try.prog (WS.at w9) (sUn .not t8) fun t10 =>
 GuardK t10 false (fun k w' => Rd Try.prog (WS.at w9) (sLoad 26 t3) fun v => k v w') (fun t11 w12 =>
 GuardK t10 false (fun k w' => CallK Try.prog 148 [t11] k w') (fun t13 w14 =>
 GuardK t10 false (fun k w' => Rd Try.prog (WS.at w14) (sUn .not t13) fun v => k v w') (fun t15 w16 =>
 Rd Try.prog (WS.at w16) (sPick t10 (.bool true) t15) fun t17 =>
 GuardK t17 false (fun k w' => Rd Try.prog (WS.at w16) (sFieldAddr 26 t1 1) fun v => k v w') (fun t18 w19 =>
 GuardK t17 false (fun k w' => Rd Try.prog (WS.at w19) (sLoad 3 t18) fun v => k v w') (fun t20 w21 =>
 GuardK t17 false (fun k w' => Rd Try.prog (WS.at w21) (sFieldAddr 26 t3 1) fun v => k v w') (fun t22 w23 =>
 GuardK t17 false (fun k w' => Rd Try.prog (WS.at w23) (sLoad 3 t22) fun v => k v w') (fun t24 w25 =>
 GuardK t17 false (fun k w' => Rd Try.prog (WS.at w25) (sBin .neq 3 false t20 t24) fun v => k v w') (fun t26 w27 =>
 Rd Try.prog (WS.at w27) (sPick t17 (.bool true) t26) fun t28 =>
 CondK t28
  (Rd Try.prog (WS.at w27) (sBuild 26 []) fun t29 =>
  Do Try.prog (sStore 26 t5 t29) (fun _ w30 =>
  Rd Try.prog (WS.at w30) (sLoadVar 26 t5) fun t31 => k (.tuple #[t31, (.bool false)]) w30) w27)
  (Do Try.prog (sBuildSlice 27 1 [(0, (.int .i64 1))]) (fun t32 w33 =>
  Rd Try.prog (WS.at w33) (sFieldAddr 26 t1 0) fun t34 =>
  Rd Try.prog (WS.at w33) (sLoad 3 t34) fun t35 =>
  Rd Try.prog (WS.at w33) (sBin .add 3 true (.int .i64 1) t35) fun t36 =>
  Do Try.prog (sBuildSlice 27 1 [(0, t36)]) (fun t37 w38 =>
  Do Try.prog (sBuildSlice 35 2 [(0, t32), (1, t37)]) (fun t39 w40 =>
  Rd Try.prog (WS.at w40) (sLoad 26 t1) fun t41 =>
  Rd Try.prog (WS.at w40) (sLoad 26 t3) fun t42 =>
  Do Try.prog (sBuildSlice 218 2 [(0, t41), (1, t42)]) (fun t43 w44 =>
  CallK Try.prog 169 [t39, t43] (fun t45 w46 =>
  Rd Try.prog (WS.at w46) (sExtract t45 0) fun t47 =>
  Rd Try.prog (WS.at w46) (sExtract t45 1) fun t48 =>
  Do Try.prog (sStore 26 t5 t47) (fun _ w49 =>
  Rd Try.prog (WS.at w49) (sLoadVar 26 t5) fun t50 => k (.tuple #[t50, t48]) w49) w46) w44) w40) w38) w33) w27)) w25) w23) w21) w19) w16) w14) w12) w9) w6) w4) w2) w
theorem body37 : Try.f37.body = some (bodyOf Try.f37) := by kernel_rfl
theorem same37 (v0 v1 : Value) (k : Value → World → Prop) (w : World) : wpF Try.prog pl37 (bodyOf Try.f37) (bodyQ Try.prog Try.f37.results.toList k) (initF [v0, v1]) w = S37 v0 v1 k w := by kernel_rfl
theorem enter37 {v0 v1 : Value} {k : Value → World → Prop} {w : World} (h : S37 v0 v1 k w) : CallK Try.prog 37 [v0, v1] k w :=
  call_of_wpF (pl := pl37) mixed Try.func37 body37 (by kernel_rfl) (of_decide_eq_true (by kernel_rfl)) (by kernel_rfl) (by kernel_rfl) (same37 v0 v1 k w ▸ h)

end Go.Proofs.Ytegcjkhebecgbaa
