/- Texts of this repository put together: ShX2, ShY2, ShZ1, ShD1, ShE3, ShD2, ShF2, ShF3, ShF4, ShF5, ShF6, ShB1, ShF7, ShB2, Da, Dc, Sh71, ShM1, ShM2, ShM3, ShM4, ShM5, ShN1, Bh, ShM6, ShM7, ShN2, Bo, ShO2, Sh72, Sh73, Sh74. -/
import Derived.Test.YtegcjkhebecgbaaKTurnedc
import Derived.Test.YtegcjkhebecgbaaKTurnedb
import Derived.Test.YtegcjkhebecgbaaProg
import Derived.Test.YtegcjkhebecgbaaKTurneda

set_option linter.unusedVariables false
set_option linter.unusedSimpArgs false
set_option maxRecDepth 100000
namespace Go.Sh
open Go
theorem Inc.still {α : Type} {f : TS → α → TS} : ∀ {l : List α} {s : TS}, (∀ a ∈ l, ∀ s, Inc s (f s a)) → s.2 = false → (l.foldl f s).2 = false → ∀ a ∈ l, f s a = s := by
  intro l
  induction l with
  | nil => intro s _ _ _ a ha; simp at ha
  | cons b l ih =>
    intro s h hs he a ha
    rw [List.foldl_cons] at he
    have hb : f s b = s := by
      rcases h b (List.mem_cons_self ..) s with e | ⟨e, _⟩
      · exact e
      · exfalso
        rcases Inc.fold (fun c hc => h c (List.mem_cons_of_mem _ hc)) (f s b) with e' | ⟨e', _⟩
        · rw [e', e] at he
          cases he
        · rw [e'] at he
          cases he
    rcases List.mem_cons.1 ha with rfl | ha
    · exact hb
    · rw [hb] at he
      exact ih (fun c hc => h c (List.mem_cons_of_mem _ hc)) hs he a ha
theorem pass_closed {rs : List (Int × List Int)} {w : List Int} {T : Tab} (hr : ∀ r ∈ rs, r.1.toNat < 6) (hw : w.length ≤ 10) (h : (zef_ rs w (T, false)).2 = false) {r : Int × List Int} (hm : r ∈ rs) {i j : Nat} (hij : i ≤ j) (hj : j ≤ w.length) (hf : zwc_ T w r.2 i j = true) : T r.1.toNat i j = true := by
  have h1 := Inc.still (f := ruleT w) (fun r h s => zmp_ (hr r h) hw s) rfl h r hm
  have h2 := Inc.still (f := rowT w r) (l := List.range (w.length + 1)) (s := (T, false)) (fun i hi s => rowT_inc (hr r hm) hw (by have := List.mem_range.1 hi; omega) s) rfl (by
    show (ruleT w (T, false) r).2 = false
    rw [h1]) i (List.mem_range.2 (by omega))
  have h3 := Inc.still (f := stepT w r i) (l := List.range' i (w.length + 1 - i)) (s := (T, false)) (fun j hj s => by
    rw [List.mem_range'_1] at hj
    exact zkp_ (hr r hm) (by omega) (by omega)) rfl (by
    show (rowT w r (T, false) i).2 = false
    rw [h2]) j (List.mem_range'_1.2 ⟨hij, by omega⟩)
  unfold stepT at h3
  cases hT : T r.1.toNat i j
  · rw [if_pos (by simp [hT, hf])] at h3
    have := congrArg Prod.snd h3
    cases this
  · rfl
theorem pass_same {rs : List (Int × List Int)} {w : List Int} {T : Tab} (hr : ∀ r ∈ rs, r.1.toNat < 6) (hw : w.length ≤ 10) (h : (zef_ rs w (T, false)).2 = false) : (zef_ rs w (T, false)).1 = T := by
  rcases zrg_ hr hw (T, false) with e | ⟨e, _⟩
  · rw [e]
  · rw [e] at h
    cases h
theorem span_closed {rs : List (Int × List Int)} {w : List Int} (hr : ∀ r ∈ rs, r.1.toNat < 6) (hw : w.length ≤ 10) {r : Int × List Int} (hm : r ∈ rs) {i j : Nat} (hij : i ≤ j) (hj : j ≤ w.length) (hf : zwc_ (spanT rs w) w r.2 i j = true) : spanT rs w r.1.toNat i j = true := by
  obtain ⟨U, hU⟩ := Span.ex hr hw 726 noTab (by unfold openT; exact Nat.le_trans List.countP_le_length (by simp))
  rw [← hU.eq] at hf ⊢
  have key : ∀ {T U : Tab}, Span rs w T U → zwc_ U w r.2 i j = true → U r.1.toNat i j = true := by
    intro T U h
    induction h with
    | done h1 =>
      intro hf
      rw [pass_same hr hw h1] at hf ⊢
      exact pass_closed hr hw h1 hm hij hj hf
    | more _ _ ih => exact ih
  exact key hU hf
theorem sumN_pos {f : Nat → Nat} : ∀ {n : Nat}, 0 < sumN f n → ∃ k, k < n ∧ 0 < f k := by
  intro n
  induction n with
  | zero => intro h; simp [sumN] at h
  | succ n ih =>
    intro h
    rw [sumN] at h
    by_cases h0 : 0 < f n
    · exact ⟨n, by omega, h0⟩
    · obtain ⟨k, hk, h1⟩ := ih (by omega)
      exact ⟨k, by omega, h1⟩
theorem sumR_pos {p : RuleL → Nat} : ∀ {rs : List RuleL} , 0 < sumR rs p → ∃ r ∈ rs, 0 < p r := by
  have key : ∀ (rs : List RuleL) (a : Nat), 0 < rs.foldl (fun a r => a + p r) a → 0 < a ∨ ∃ r ∈ rs, 0 < p r := by
    intro rs
    induction rs with
    | nil => intro a h; exact .inl h
    | cons r rs ih =>
      intro a h
      rw [List.foldl_cons] at h
      rcases ih _ h with h1 | ⟨q, hq, h1⟩
      · by_cases h0 : 0 < p r
        · exact .inr ⟨r, List.mem_cons_self .., h0⟩
        · exact .inl (by omega)
      · exact .inr ⟨q, List.mem_cons_of_mem _ hq, h1⟩
  intro rs h
  rcases key rs 0 h with h | h
  · omega
  · exact h
theorem cntR_fits {c : Nat → Nat → Nat → Nat → Nat} {T : Tab} {ws : List Int} : ∀ {xs : List Int} {i j s : Nat}, j ≤ ws.length → (∀ A i j k, i ≤ j → j ≤ ws.length → k ≤ s → 0 < c A i j k → T A i j = true) → 0 < cntR c ws xs i j s → zwc_ T ws xs i j = true := by
  intro xs
  induction xs with
  | nil =>
    intro i j s hj hc h
    rw [cntR] at h
    split at h
    · rename_i h1
      exact decide_eq_true h1.1
    · omega
  | cons x xs ih =>
    intro i j s hj hc h
    rw [cntR] at h
    by_cases hx : x < 0
    · rw [if_pos hx] at h
      split at h
      · rename_i h1
        rw [zgk_ hx, decide_eq_true h1.1, decide_eq_true h1.2, ih hj hc h]
        rfl
      · omega
    · rw [if_neg hx] at h
      obtain ⟨m, hm, h1⟩ := sumN_pos h
      obtain ⟨k, hk, h2⟩ := sumN_pos h1
      have h3 : 0 < c x.toNat i (i + m) (k + 1) := Nat.pos_of_ne_zero fun e => by rw [e, Nat.zero_mul] at h2; omega
      have h4 : 0 < cntR c ws xs (i + m) j (s - (k + 1)) := Nat.pos_of_ne_zero fun e => by rw [e, Nat.mul_zero] at h2; omega
      rw [zhk_ hx]
      refine any_at (m := i + m) (by omega) (by omega) ?_
      rw [hc _ _ _ _ (by omega) (by omega) (by omega) h3, ih hj (fun A i j k' a b d e => hc A i j k' a b (by omega) e) h4]
      rfl
theorem cntC_span {rs : List RuleL} {ws : List Int} (hr : ∀ r ∈ rs, r.1.toNat < 6) (hw : ws.length ≤ 10) : ∀ {s A i j : Nat}, i ≤ j → j ≤ ws.length → 0 < cntC rs ws A i j s → spanT rs ws A i j = true := by
  intro s
  induction s using Nat.strongRecOn with
  | _ s ih =>
    intro A i j hij hj h
    cases s with
    | zero => rw [cntC_zero] at h; omega
    | succ s =>
      rw [zup_] at h
      obtain ⟨r, hm, h1⟩ := sumR_pos h
      split at h1
      · rename_i h2
        have hf := cntR_fits (T := spanT rs ws) hj (fun A i j k a b d e => ih k (by omega) a b e) h1
        have := span_closed hr hw hm hij hj hf
        rwa [h2, Int.toNat_natCast] at this
      · omega
inductive Der (rs : List RuleL) (ws : List Int) : Nat ⊕ List Int → Nat → Nat → Nat → List Int → Prop
  | tree {A q i j s : Nat} {r : List Int} : q < rs.length → (rul rs q).1 = (A : Int) → Der rs ws (.inr (rul rs q).2) i j s r → Der rs ws (.inl A) i j (s + 1) ((q : Int) :: r)
  | nil {i : Nat} : Der rs ws (.inr []) i i 0 []
  | tok {x : Int} {xs : List Int} {i j s : Nat} {r : List Int} : x < 0 → i < j → ws.getD i 0 = -1 - x → Der rs ws (.inr xs) (i + 1) j s r → Der rs ws (.inr (x :: xs)) i j s r
  | non {x : Int} {xs : List Int} {i m j k s : Nat} {a b : List Int} : ¬ x < 0 → i ≤ m → m ≤ j → Der rs ws (.inl x.toNat) i m k a → Der rs ws (.inr xs) m j s b → Der rs ws (.inr (x :: xs)) i j (k + s) (a ++ b)
section
variable {rs : List RuleL} {ws : List Int}
theorem der_tree {A i j s : Nat} {t : List Int} : Der rs ws (.inl A) i j s t ↔ ∃ (q : Nat) (r : List Int) (s' : Nat), s = s' + 1 ∧ t = (q : Int) :: r ∧ q < rs.length ∧ (rul rs q).1 = (A : Int) ∧ Der rs ws (.inr (rul rs q).2) i j s' r := by
  constructor
  · intro h
    cases h with
    | tree h1 h2 h3 => exact ⟨_, _, _, rfl, rfl, h1, h2, h3⟩
  · rintro ⟨q, r, s', rfl, rfl, h1, h2, h3⟩
    exact .tree h1 h2 h3
theorem der_le {c : Nat ⊕ List Int} {i j s : Nat} {t : List Int} (h : Der rs ws c i j s t) : i ≤ j := by
  induction h with
  | tree _ _ _ ih => exact ih
  | nil => exact Nat.le_refl _
  | tok _ h2 _ _ ih => omega
  | non _ h2 h3 _ _ _ _ => omega
theorem sumN_at {f : Nat → Nat} : ∀ {n k : Nat}, k < n → 0 < f k → 0 < sumN f n := by
  intro n
  induction n with
  | zero => intro k h; omega
  | succ n ih =>
    intro k h h1
    rw [sumN]
    by_cases e : k = n
    · subst e
      omega
    · have := ih (k := k) (by omega) h1
      omega
theorem sumR_at {p : RuleL → Nat} {rs : List RuleL} {r : RuleL} (hr : r ∈ rs) (h : 0 < p r) : 0 < sumR rs p := by
  have mono : ∀ (l : List RuleL) (a : Nat), a ≤ l.foldl (fun a r => a + p r) a := by
    intro l
    induction l with
    | nil => intro a; exact Nat.le_refl _
    | cons b l ih => intro a; exact Nat.le_trans (Nat.le_add_right a (p b)) (ih (a + p b))
  have key : ∀ (l : List RuleL) (a : Nat), r ∈ l → 0 < l.foldl (fun a r => a + p r) a := by
    intro l
    induction l with
    | nil => intro a h; simp at h
    | cons b l ih =>
      intro a hm
      rcases List.mem_cons.1 hm with e | e
      · subst e
        exact Nat.lt_of_lt_of_le (by omega) (mono l (a + p r))
      · exact ih (a + p b) e
  exact key rs 0 hr
def posD (rs : List RuleL) (ws : List Int) : Nat ⊕ List Int → Nat → Nat → Nat → Prop
  | .inl A, i, j, s => 0 < cntC rs ws A i j s
  | .inr xs, i, j, s => 0 < cntR (cntC rs ws) ws xs i j s
theorem der_posD {c : Nat ⊕ List Int} {i j s : Nat} {t : List Int} (h : Der rs ws c i j s t) : posD rs ws c i j s := by
  induction h with
  | tree h1 h2 h3 ih =>
    show 0 < cntC rs ws _ _ _ _
    rw [zup_]
    refine sumR_at (r := rul rs _) (by rw [zpc_ h1]; exact List.getElem_mem h1) ?_
    rw [if_pos h2]
    exact ih
  | nil =>
    show 0 < cntR _ _ [] _ _ _
    rw [cntR, if_pos ⟨rfl, rfl⟩]
    omega
  | tok h1 h2 h3 h4 ih =>
    show 0 < cntR _ _ (_ :: _) _ _ _
    rw [cntR, if_pos h1, if_pos ⟨h2, h3⟩]
    exact ih
  | non h1 h2 h3 h4 h5 ih1 ih2 =>
    rename_i x xs i m j k s a b
    show 0 < cntR _ _ (x :: xs) _ _ _
    rw [cntR, if_neg h1]
    have hk : 0 < k := by
      obtain ⟨_, _, s', rfl, _⟩ := der_tree.1 h4
      omega
    refine sumN_at (k := m - i) (by omega) (sumN_at (k := k - 1) (by omega) ?_)
    rw [show i + (m - i) = m from by omega, show k - 1 + 1 = k from by omega, show k + s - k = s from by omega]
    exact Nat.mul_pos ih1 ih2
theorem der_posC {A i j s : Nat} {t : List Int} (h : Der rs ws (.inl A) i j s t) : 0 < cntC rs ws A i j s := der_posD h
theorem der_span (hr : ∀ r ∈ rs, r.1.toNat < 6) (hw : ws.length ≤ 10) {A i j s : Nat} {t : List Int} (hj : j ≤ ws.length) (h : Der rs ws (.inl A) i j s t) : spanT rs ws A i j = true := cntC_span hr hw (der_le h) hj (der_posC h)
end
section
variable {rs : List RuleL} {ws : List Int}
def zfg_ (rs : List RuleL) (ws : List Int) (T : Tab) : Prop := ∀ A i j, T A i j = true → i ≤ j ∧ ∃ s t, Der rs ws (.inl A) i j s t
theorem fits_sound {T : Tab} (h : zfg_ rs ws T) : ∀ {xs : List Int} {i j : Nat}, zwc_ T ws xs i j = true → i ≤ j ∧ ∃ s t, Der rs ws (.inr xs) i j s t := by
  intro xs
  induction xs with
  | nil =>
    intro i j hf
    obtain rfl : i = j := of_decide_eq_true hf
    exact ⟨Nat.le_refl _, 0, [], .nil⟩
  | cons x xs ih =>
    intro i j hf
    by_cases hx : x < 0
    · rw [zgk_ hx] at hf
      simp only [Bool.and_eq_true, decide_eq_true_eq] at hf
      obtain ⟨h1, h2, h3⟩ := hf
      obtain ⟨h4, s, t, h5⟩ := ih h3
      exact ⟨by omega, s, t, .tok hx h1 h2 h5⟩
    · rw [zhk_ hx, List.any_eq_true] at hf
      obtain ⟨m, hm, hf⟩ := hf
      rw [List.mem_range'_1] at hm
      simp only [Bool.and_eq_true] at hf
      obtain ⟨h1, k, a, h2⟩ := h _ _ _ hf.1
      obtain ⟨h3, s, t, h4⟩ := ih hf.2
      exact ⟨by omega, k + s, a ++ t, .non hx h1 h3 h2 h4⟩
theorem rule_at {r : RuleL} (h : r ∈ rs) : ∃ q, q < rs.length ∧ rul rs q = r := by
  obtain ⟨q, hq, e⟩ := List.getElem_of_mem h
  exact ⟨q, hq, by rw [zpc_ hq, e]⟩
theorem zpk_ {α σ : Type} {I : σ → Prop} {f : σ → α → σ} : ∀ {l : List α} {s : σ}, I s → (∀ a ∈ l, ∀ s, I s → I (f s a)) → I (l.foldl f s) := by
  intro l
  induction l with
  | nil => intro s h _; exact h
  | cons a l ih =>
    intro s h h1
    exact ih (h1 a (List.mem_cons_self ..) s h) fun b hb => h1 b (List.mem_cons_of_mem _ hb)
theorem zym_ (h0 : ∀ r ∈ rs, 0 ≤ r.1) {s : TS} (h : zfg_ rs ws s.1) : zfg_ rs ws (zef_ rs ws s).1 := by
  refine zpk_ (I := fun s : TS => zfg_ rs ws s.1) h fun r hr s hs => ?_
  refine zpk_ (I := fun s : TS => zfg_ rs ws s.1) hs fun i hi s hs => ?_
  refine zpk_ (I := fun s : TS => zfg_ rs ws s.1) hs fun j hj s hs => ?_
  unfold stepT
  split
  · rename_i hc
    simp only [Bool.and_eq_true] at hc
    intro A a b hab
    simp only [Tab.put] at hab
    split at hab
    · rename_i e
      obtain ⟨rfl, rfl, rfl⟩ := e
      obtain ⟨h1, s', t, h2⟩ := fits_sound hs hc.2
      obtain ⟨q, hq, e⟩ := rule_at hr
      refine ⟨h1, s' + 1, (q : Int) :: t, .tree hq ?_ (by rw [e]; exact h2)⟩
      rw [e]
      have := h0 r hr
      omega
    · exact hs A a b hab
  · exact hs
theorem span_sound (h0 : ∀ r ∈ rs, 0 ≤ r.1) : zfg_ rs ws (spanT rs ws) := by
  intro A i j h
  unfold spanT at h
  split at h
  · rename_i hx
    have key : ∀ {T U : Tab}, Span rs ws T U → zfg_ rs ws T → zfg_ rs ws U := by
      intro T U h
      induction h with
      | done _ => exact fun h => zym_ h0 h
      | more _ _ ih => exact fun h => ih (zym_ h0 h)
    exact key (Classical.choose_spec hx) (fun A i j h => by cases h) A i j h
  · cases h
theorem span_iff (h0 : ∀ r ∈ rs, 0 ≤ r.1) (hr : ∀ r ∈ rs, r.1.toNat < 6) (hw : ws.length ≤ 10) {A i j : Nat} (hj : j ≤ ws.length) : spanT rs ws A i j = true ↔ ∃ s t, Der rs ws (.inl A) i j s t :=
  ⟨fun h => (span_sound h0 A i j h).2, fun ⟨_, _, h⟩ => der_span hr hw hj h⟩
end
inductive Yi (rs : List RuleL) : Nat ⊕ List Int → List Int → Prop
  | rule {A : Nat} {r : RuleL} {u : List Int} : r ∈ rs → r.1 = (A : Int) → Yi rs (.inr r.2) u → Yi rs (.inl A) u
  | nil : Yi rs (.inr []) []
  | tok {x : Int} {xs u : List Int} : x < 0 → Yi rs (.inr xs) u → Yi rs (.inr (x :: xs)) ((-1 - x) :: u)
  | non {x : Int} {xs u v : List Int} : ¬ x < 0 → Yi rs (.inl x.toNat) u → Yi rs (.inr xs) v → Yi rs (.inr (x :: xs)) (u ++ v)
def cut (ws : List Int) (i j : Nat) : List Int := (ws.drop i).take (j - i)
theorem cut_nil (ws : List Int) (i : Nat) : cut ws i i = [] := by simp [cut]
theorem cut_cons {ws : List Int} {i j : Nat} (h : i < j) (hj : j ≤ ws.length) : cut ws i j = ws.getD i 0 :: cut ws (i + 1) j := by
  unfold cut
  rw [List.drop_eq_getElem_cons (by omega), show j - i = (j - (i + 1)) + 1 from by omega, List.take_succ_cons]
  simp [List.getD_eq_getElem?_getD, show i < ws.length from by omega]
theorem cut_append {ws : List Int} {i m j : Nat} (h1 : i ≤ m) (h2 : m ≤ j) (hj : j ≤ ws.length) : cut ws i j = cut ws i m ++ cut ws m j := by
  unfold cut
  rw [show j - i = (m - i) + (j - m) from by omega, List.take_add, List.drop_drop, show i + (m - i) = m from by omega]
theorem cut_all (ws : List Int) : cut ws 0 ws.length = ws := by simp [cut]
theorem cut_length {ws : List Int} {i j : Nat} (h : i ≤ j) (hj : j ≤ ws.length) : (cut ws i j).length = j - i := by
  simp [cut]; omega
section
variable {rs : List RuleL}
theorem yi_of_der {ws : List Int} {c : Nat ⊕ List Int} {i j s : Nat} {t : List Int} (h : Der rs ws c i j s t) : j ≤ ws.length → Yi rs c (cut ws i j) := by
  induction h with
  | tree h1 h2 _ ih =>
    intro hj
    refine .rule (r := rul rs _) ?_ h2 (ih hj)
    rw [zpc_ h1]
    exact List.getElem_mem h1
  | nil =>
    intro _
    rw [cut_nil]
    exact .nil
  | tok h1 h2 h3 _ ih =>
    intro hj
    rw [cut_cons h2 hj, h3]
    exact .tok h1 (ih hj)
  | non h1 h2 h3 _ _ ih1 ih2 =>
    intro hj
    rw [cut_append h2 h3 hj]
    exact .non h1 (ih1 (by omega)) (ih2 hj)
theorem der_of_yi' {c : Nat ⊕ List Int} {u : List Int} (h : Yi rs c u) : ∀ (a b : List Int), ∃ s t, Der rs (a ++ u ++ b) c a.length (a.length + u.length) s t := by
  induction h with
  | rule h1 h2 _ ih =>
    intro a b
    obtain ⟨s, t, hd⟩ := ih a b
    obtain ⟨q, hq, e⟩ := List.getElem_of_mem h1
    have e' : rul rs q = _ := (zpc_ hq).trans e
    exact ⟨_, _, .tree hq (by rw [e']; exact h2) (by rw [e']; exact hd)⟩
  | nil =>
    intro a b
    exact ⟨_, _, .nil⟩
  | @tok x xs u hx _ ih =>
    intro a b
    obtain ⟨s, t, hd⟩ := ih (a ++ [-1 - x]) b
    refine ⟨s, t, .tok hx (by simp) ?_ ?_⟩
    · simp [List.getD_eq_getElem?_getD]
    · have e : a ++ (-1 - x) :: u ++ b = a ++ [-1 - x] ++ u ++ b := by simp
      rw [e]
      have e2 : a.length + ((-1 - x) :: u).length = (a ++ [-1 - x]).length + u.length := by simp; omega
      rw [e2]
      have e3 : a.length + 1 = (a ++ [-1 - x]).length := by simp
      rw [e3]
      exact hd
  | @non x xs u v hx _ _ ih1 ih2 =>
    intro a b
    obtain ⟨s1, t1, h1⟩ := ih1 a (v ++ b)
    obtain ⟨s2, t2, h2⟩ := ih2 (a ++ u) b
    have e1 : a ++ u ++ (v ++ b) = a ++ (u ++ v) ++ b := by simp
    have e2 : a ++ u ++ v ++ b = a ++ (u ++ v) ++ b := by simp
    rw [e1] at h1
    rw [e2] at h2
    have e3 : (a ++ u).length = a.length + u.length := by simp
    have e4 : (a ++ u).length + v.length = a.length + (u ++ v).length := by simp; omega
    rw [e4, e3] at h2
    exact ⟨_, _, .non hx (by omega) (by simp) h1 h2⟩
theorem cut_parts {ws : List Int} {i j : Nat} (h : i ≤ j) (hj : j ≤ ws.length) : ws = ws.take i ++ cut ws i j ++ ws.drop j := by
  unfold cut
  conv => lhs; rw [← List.take_append_drop i ws, ← List.take_append_drop (j - i) (ws.drop i)]
  rw [List.drop_drop, show i + (j - i) = j from by omega, List.append_assoc]
theorem der_of_yi {ws : List Int} {c : Nat ⊕ List Int} {i j : Nat} (hi : i ≤ j) (hj : j ≤ ws.length) (h : Yi rs c (cut ws i j)) : ∃ s t, Der rs ws c i j s t := by
  obtain ⟨s, t, hd⟩ := der_of_yi' h (ws.take i) (ws.drop j)
  rw [← cut_parts hi hj] at hd
  have e1 : (ws.take i).length = i := by simp; omega
  have e2 : i + (cut ws i j).length = j := by rw [cut_length hi hj]; omega
  rw [e1, e2] at hd
  exact ⟨s, t, hd⟩
theorem der_yi {ws : List Int} {c : Nat ⊕ List Int} {i j : Nat} (hi : i ≤ j) (hj : j ≤ ws.length) : (∃ s t, Der rs ws c i j s t) ↔ Yi rs c (cut ws i j) :=
  ⟨fun ⟨_, _, h⟩ => yi_of_der h hj, der_of_yi hi hj⟩
theorem yi_nil {u : List Int} : Yi rs (.inr []) u ↔ u = [] := by
  constructor
  · intro h
    cases h
    rfl
  · rintro rfl
    exact .nil
theorem yi_tok {x : Int} {xs u : List Int} (hx : x < 0) : Yi rs (.inr (x :: xs)) u ↔ ∃ v, u = (-1 - x) :: v ∧ Yi rs (.inr xs) v := by
  constructor
  · intro h
    cases h with
    | tok _ h2 => exact ⟨_, rfl, h2⟩
    | non h1 => exact absurd hx h1
  · rintro ⟨v, rfl, h⟩
    exact .tok hx h
theorem yi_non {x : Int} {xs u : List Int} (hx : ¬ x < 0) : Yi rs (.inr (x :: xs)) u ↔ ∃ v z, u = v ++ z ∧ Yi rs (.inl x.toNat) v ∧ Yi rs (.inr xs) z := by
  constructor
  · intro h
    cases h with
    | tok h1 => exact absurd h1 hx
    | non _ h1 h2 => exact ⟨_, _, rfl, h1, h2⟩
  · rintro ⟨v, z, rfl, h1, h2⟩
    exact .non hx h1 h2
theorem zvp_ {xs ys u v : List Int} (h : Yi rs (.inr xs) u) (g : Yi rs (.inr ys) v) : Yi rs (.inr (xs ++ ys)) (u ++ v) := by
  induction xs generalizing u with
  | nil =>
    rw [yi_nil] at h
    subst h
    exact g
  | cons x xs ih =>
    by_cases hx : x < 0
    · obtain ⟨z, rfl, h1⟩ := (yi_tok hx).1 h
      exact .tok hx (ih h1)
    · obtain ⟨a, b, rfl, h1, h2⟩ := (yi_non hx).1 h
      rw [List.append_assoc]
      exact .non hx h1 (ih h2)
end
def mapX (f : Nat → Nat) (x : Int) : Int := if x < 0 then x else (f x.toNat : Int)
theorem zrk_ {f : Nat → Nat} {x : Int} (h : x < 0) : mapX f x = x := by simp [mapX, h]
theorem ztk_ {f : Nat → Nat} {x : Int} (h : ¬ x < 0) : mapX f x = (f x.toNat : Int) := by simp [mapX, h]
theorem yi_map1 {rs us : List RuleL} {f : Nat → Nat} {D : Nat → Prop} (hd : ∀ r ∈ rs, ∀ A : Nat, r.1 = (A : Int) → D A → ∀ x ∈ r.2, 0 ≤ x → D x.toNat)
    (hf : ∀ r ∈ rs, ∀ A : Nat, r.1 = (A : Int) → D A → ((f A : Int), r.2.map (mapX f)) ∈ us) {c : Nat ⊕ List Int} {w : List Int} (h : Yi rs c w) :
    match c with | .inl A => D A → Yi us (.inl (f A)) w | .inr xs => (∀ x ∈ xs, 0 ≤ x → D x.toNat) → Yi us (.inr (xs.map (mapX f))) w := by
  induction h with
  | @rule A r u h1 h2 _ ih =>
    intro hA
    exact .rule (hf r h1 A h2 hA) rfl (ih (hd r h1 A h2 hA))
  | nil => exact fun _ => .nil
  | @tok x xs u hx _ ih =>
    intro hD
    rw [List.map_cons, zrk_ hx]
    exact .tok hx (ih fun y hy => hD y (List.mem_cons_of_mem _ hy))
  | @non x xs u v hx _ _ ih1 ih2 =>
    intro hD
    rw [List.map_cons, ztk_ hx]
    refine .non (by omega) ?_ (ih2 fun y hy => hD y (List.mem_cons_of_mem _ hy))
    rw [Int.toNat_natCast]
    exact ih1 (hD x (List.mem_cons_self ..) (by omega))
theorem yi_map2 {rs us : List RuleL} {f : Nat → Nat} {D : Nat → Prop} (hd : ∀ r ∈ rs, ∀ A : Nat, r.1 = (A : Int) → D A → ∀ x ∈ r.2, 0 ≤ x → D x.toNat)
    (hb : ∀ u ∈ us, ∀ A : Nat, D A → u.1 = (f A : Int) → ∃ r ∈ rs, r.1 = (A : Int) ∧ u.2 = r.2.map (mapX f)) {c : Nat ⊕ List Int} {w : List Int} (h : Yi us c w) :
    match c with | .inl B => ∀ A, D A → B = f A → Yi rs (.inl A) w | .inr ys => ∀ xs : List Int, (∀ x ∈ xs, 0 ≤ x → D x.toNat) → ys = xs.map (mapX f) → Yi rs (.inr xs) w := by
  induction h with
  | @rule B r u h1 h2 _ ih =>
    rintro A hA rfl
    obtain ⟨q, hq, hq1, hq2⟩ := hb r h1 A hA h2
    exact .rule hq hq1 (ih q.2 (hd q hq A hq1 hA) hq2)
  | nil =>
    intro xs _ e
    cases xs with
    | nil => exact .nil
    | cons x xs => simp at e
  | @tok y ys u hy _ ih =>
    intro xs hD e
    cases xs with
    | nil => simp at e
    | cons x xs =>
      rw [List.map_cons] at e
      obtain ⟨e1, e2⟩ := List.cons.inj e
      by_cases hx : x < 0
      · rw [zrk_ hx] at e1
        subst e1
        exact .tok hx (ih xs (fun z hz => hD z (List.mem_cons_of_mem _ hz)) e2)
      · rw [ztk_ hx] at e1
        omega
  | @non y ys u v hy _ _ ih1 ih2 =>
    intro xs hD e
    cases xs with
    | nil => simp at e
    | cons x xs =>
      rw [List.map_cons] at e
      obtain ⟨e1, e2⟩ := List.cons.inj e
      by_cases hx : x < 0
      · rw [zrk_ hx] at e1
        omega
      · rw [ztk_ hx] at e1
        refine .non hx (ih1 x.toNat (hD x (List.mem_cons_self ..) (by omega)) ?_) (ih2 xs (fun z hz => hD z (List.mem_cons_of_mem _ hz)) e2)
        rw [e1, Int.toNat_natCast]
theorem yi_map {rs us : List RuleL} {f : Nat → Nat} {D : Nat → Prop} (hd : ∀ r ∈ rs, ∀ A : Nat, r.1 = (A : Int) → D A → ∀ x ∈ r.2, 0 ≤ x → D x.toNat)
    (hf : ∀ r ∈ rs, ∀ A : Nat, r.1 = (A : Int) → D A → ((f A : Int), r.2.map (mapX f)) ∈ us)
    (hb : ∀ u ∈ us, ∀ A : Nat, D A → u.1 = (f A : Int) → ∃ r ∈ rs, r.1 = (A : Int) ∧ u.2 = r.2.map (mapX f)) {A : Nat} (hA : D A) {w : List Int} : Yi us (.inl (f A)) w ↔ Yi rs (.inl A) w :=
  ⟨fun h => yi_map2 hd hb h A hA rfl, fun h => yi_map1 hd hf h hA⟩
def revR (r : RuleL) : RuleL := (r.1, r.2.reverse)
theorem zrh_ (r : RuleL) : revR (revR r) = r := by simp [revR]
theorem yi_rev {rs : List RuleL} {c : Nat ⊕ List Int} {w : List Int} (h : Yi rs c w) : match c with | .inl A => Yi (rs.map revR) (.inl A) w.reverse | .inr xs => Yi (rs.map revR) (.inr xs.reverse) w.reverse := by
  induction h with
  | @rule A r u h1 h2 _ ih => exact .rule (r := revR r) (List.mem_map.2 ⟨r, h1, rfl⟩) h2 ih
  | nil => exact .nil
  | @tok x xs u hx _ ih =>
    have h1 : Yi (rs.map revR) (.inr [x]) [-1 - x] := .tok hx .nil
    have := zvp_ ih h1
    simpa using this
  | @non x xs u v hx _ _ ih1 ih2 =>
    have h1 : Yi (rs.map revR) (.inr [x]) (u.reverse ++ []) := .non hx ih1 .nil
    have := zvp_ ih2 h1
    simpa using this
theorem yi_rev_iff {rs : List RuleL} {A : Nat} {w : List Int} : Yi (rs.map revR) (.inl A) w.reverse ↔ Yi rs (.inl A) w := by
  constructor
  · intro h
    have h := yi_rev h
    simp only [List.map_map, List.reverse_reverse] at h
    have e : rs.map (revR ∘ revR) = rs := by
      conv => rhs; rw [← List.map_id rs]
      refine List.map_congr_left fun r _ => ?_
      simp [zrh_]
    rwa [e] at h
  · exact fun h => yi_rev h
inductive Clo (rs : List RuleL) (tok : Bool) : Nat → Prop
  | mk {A : Nat} {r : RuleL} : r ∈ rs → r.1 = (A : Int) → (∀ x ∈ r.2, x < 0 → tok = true) → (∀ x ∈ r.2, ¬ x < 0 → Clo rs tok x.toNat) → Clo rs tok A
inductive Rch (rs : List RuleL) : Nat → Prop
  | zero : Rch rs 0
  | step {A : Nat} {r : RuleL} {x : Int} : r ∈ rs → r.1 = (A : Int) → Rch rs A → x ∈ r.2 → ¬ x < 0 → Rch rs x.toNat
open Classical in
noncomputable def madeR (rs : List RuleL) : List RuleL := rs.filter fun r => decide (∀ x ∈ r.2, ¬ x < 0 → Clo rs true x.toNat)
open Classical in
noncomputable def rchR (rs : List RuleL) : List RuleL := rs.filter fun r => decide (Rch rs r.1.toNat)
noncomputable def usefulR (rs : List RuleL) : List RuleL := rchR (madeR rs)
end Go.Sh
namespace Go.Proofs.Ytegcjkhebecgbaa
open Go Go.Sh Go.RowKit
section
variable {w : World} {X Z Y : Option Addr} {cx cz cy : Nat} {gm : Gram} {ws xs : List Int} {k : Value → World → Prop}
end
end Go.Proofs.Ytegcjkhebecgbaa

namespace Go.Sh
open Go
theorem good_lefts {gm : Gram} (hg : zv_ gm = true) : ∀ r ∈ gm.rules, 0 ≤ r.1 := fun r hr => by
  obtain ⟨i, hi, rfl⟩ := List.getElem_of_mem hr
  have := (zwe_ hg hi).1
  rwa [zpc_ hi] at this
theorem good_rights {gm : Gram} (hg : zv_ gm = true) {q : Nat} (hq : q < gm.rules.length) : (rul gm.rules q).2.length ≤ 4 ∧ ∀ x ∈ (rul gm.rules q).2, -gm.toks ≤ x ∧ x ≤ gm.nons - 1 := by
  simp only [zv_, Bool.and_eq_true] at hg
  have h := List.all_eq_true.1 hg.2 q (List.mem_range.2 hq)
  simp only [zfd_, Bool.and_eq_true, decide_eq_true_eq] at h
  refine ⟨by have := h.1.1.2; omega, fun x hx => ?_⟩
  have := List.all_eq_true.1 h.1.2 x hx
  simpa [symB, inB] using this
where
  any_congr' {l : List RuleL} {p q : RuleL → Bool} (h : ∀ r ∈ l, p r = q r) : l.any p = l.any q := by
    rw [Bool.eq_iff_iff, List.any_eq_true, List.any_eq_true]
    constructor
    · rintro ⟨r, hr, h1⟩
      exact ⟨r, hr, by rw [← h r hr]; exact h1⟩
    · rintro ⟨r, hr, h1⟩
      exact ⟨r, hr, by rw [h r hr]; exact h1⟩
structure SetOk (P : Nat → Prop) (nons : Nat) (out : List Int) : Prop where
  rise : RiseI out
  ok : ∀ x ∈ out, ∃ A : Nat, x = A ∧ A < nons ∧ P A
theorem SetOk.len {P : Nat → Prop} {nons : Nat} {out : List Int} (h : SetOk P nons out) : out.length ≤ nons := by
  have := rise_len (a := 0) (n := nons) h.rise (fun x hx => by obtain ⟨A, rfl, h1, _⟩ := h.ok x hx; omega) (by omega)
  omega
theorem SetOk.put {P : Nat → Prop} {nons A : Nat} {out : List Int} (h : SetOk P nons out) (hA : A < nons) (hP : P A) : SetOk P nons (putL (A : Int) out) :=
  ⟨putL_rise h.rise, fun x hx => by
    rcases putL_mem.1 hx with rfl | hx
    · exact ⟨A, rfl, hA, hP⟩
    · exact h.ok x hx⟩
theorem SetOk.eq {P : Nat → Prop} {nons : Nat} {out : List Int} (h : SetOk P nons out) (hc : ∀ A : Nat, A < nons → P A → (A : Int) ∈ out) : out = setL nons P := by
  refine rise_ext h.rise (setL_rise _ _) fun m => ?_
  rw [setL_mem]
  constructor
  · exact fun hm => by
      obtain ⟨A, e, h1, h2⟩ := h.ok m hm
      exact ⟨A, e, h1, h2⟩
  · rintro ⟨A, rfl, h1, h2⟩
    exact hc A h1 h2
theorem SetOk.nil (P : Nat → Prop) (nons : Nat) : SetOk P nons [] := ⟨.nil, fun x hx => by simp at hx⟩
end Go.Sh
namespace Go.Proofs.Ytegcjkhebecgbaa
open Go Go.Sh Go.RowKit
section
variable {w : World} {Y : Option Addr} {cy : Nat} {gm : Gram} {k : Value → World → Prop}
end
end Go.Proofs.Ytegcjkhebecgbaa

namespace Go.Sh
open Go
inductive Gro (rs : List RuleL) : Nat → Prop
  | tok {A : Nat} {r : RuleL} {x : Int} : r ∈ rs → r.1 = (A : Int) → (∀ x ∈ r.2, ¬ x < 0 → Clo rs true x.toNat) → x ∈ r.2 → x < 0 → Gro rs A
  | non {A : Nat} {r : RuleL} {x : Int} : r ∈ rs → r.1 = (A : Int) → (∀ x ∈ r.2, ¬ x < 0 → Clo rs true x.toNat) → x ∈ r.2 → ¬ x < 0 → Gro rs x.toNat → Gro rs A
end Go.Sh
namespace Go.Proofs.Ytegcjkhebecgbaa
open Go Go.Sh Go.RowKit
section
variable {w : World} {Y : Option Addr} {cy : Nat} {gm : Gram} {k : Value → World → Prop}
end
end Go.Proofs.Ytegcjkhebecgbaa

namespace Go.Sh
open Go
end Go.Sh
namespace Go.Proofs.Ytegcjkhebecgbaa
open Go Go.Sh Go.RowKit
section
variable {w : World} {Y : Option Addr} {cy : Nat} {gm : Gram} {k : Value → World → Prop}
end
end Go.Proofs.Ytegcjkhebecgbaa

namespace Go.Sh
open Go
section
variable {F : Nat → Prop} {w w' : World} {rs : List RuleL} {cells : List Value}
end
noncomputable def usefulG (gm : Gram) : Gram := ⟨gm.nons, gm.toks, usefulR gm.rules⟩
end Go.Sh
namespace Go.Proofs.Ytegcjkhebecgbaa
open Go Go.Sh Go.RowKit
section
variable {w0 w : World} {L : List Thing} {k : Value → World → Prop}
end
section
variable {w : World} {Y : Option Addr} {cy : Nat} {gm : Gram} {k : Value → World → Prop}
end
end Go.Proofs.Ytegcjkhebecgbaa

namespace Go.Sh
open Go
theorem RulesF.same {F : Nat → Prop} {w w' : World} {X : Option Addr} {rs : List RuleL} (h : RulesF F w X rs) (hs : ∀ q, F q → w'.heap[q]? = w.heap[q]?) : RulesF F w' X rs := by
  refine ⟨h.le, h.ptr, h.foot, fun j hj => ?_⟩
  obtain ⟨Y, c, h1, h2, h3, h4⟩ := h.row j hj
  have hb : w'.heap[(ad X).block]? = w.heap[(ad X).block]? := hs _ (h.foot (by omega))
  have cell : ∀ i, w'.cell? ((ad X).add i) = w.cell? ((ad X).add i) := fun i => by
    unfold World.cell?
    rw [zhd_, hb]
  exact ⟨Y, c, by rw [cell]; exact h1, by rw [cell]; exact h2, h3, h4.same' hs⟩
theorem OwnR.readG {e1 e2 : Nat} {w : World} {B c : Nat} {X : Option Addr} {rs : List RuleL} {ps : Nat → Option Addr × Nat} (h : OwnR e1 e2 w B X c rs ps) : rs.length ≤ c ∧ RulesF (fun b => B ≤ b ∧ b < w.heap.size) w X rs :=
  ⟨by
    obtain ⟨⟨cells, hr, _⟩, _⟩ := h
    exact hr.cap.1, h.read⟩
end Go.Sh
namespace Go.Proofs.Ytegcjkhebecgbaa
open Go Go.Sh Go.RowKit
section
variable {w : World} {Y X Z : Option Addr} {cy cx cz : Nat} {gm g2 : Gram} {ws : List Int} {k : Value → World → Prop}
theorem sameRules_c {rs qs : List RuleL} (hx : RulesF (fun _ => True) w X rs) (hy : RulesF (fun _ => True) w Y qs) (hk : ∀ w', Gr w w' → k (.bool (decide (rs = qs))) w') :
    CallK Try.prog 172 [.slice X rs.length cx, .slice Y qs.length cy] k w := by
  refine enter172 ?_
  unfold S172
  simp only [zq18, zq19, zq20, zq21, zq22, zq23, zq24, zq25, zq26, zq27, zq28, zq4, zq3, zq1, zq2, zq0, zq29, zq30, zq14, zq15, zq16, zq17, zq13, zq10, zq12, zq11, zq7, zq5, zq6, zq9, zq8, zq31, zq32, ite_T, ite_F, zq33, zq34, zq35, Nat.reduceEqDiff, len22, len24, fa26_0, fa26_1, fa26_2, len27, fa33_0, fa33_1, len35, fa114_0, fa114_1, fa114_2, fa124_0, fa124_1, len134]
  by_cases hl : rs.length = qs.length
  · simp only [Int.ofNat_inj, hl, decide_true, Bool.not_true, zq18, zq19, zq20, zq21, zq22, zq23, zq24, zq25, zq26, zq27, zq28, zq4, zq3, zq1, zq2, zq0, zq29, zq30, zq14, zq15, zq16, zq17, zq13, zq10, zq12, zq11, zq7, zq5, zq6, zq9, zq8, zq31, zq32, ite_T, ite_F, zq33, zq34, zq35, Nat.reduceEqDiff, len22, len24, fa26_0, fa26_1, fa26_2, len27, fa33_0, fa33_1, len35, fa114_0, fa114_1, fa114_2, fa124_0, fa124_1, len134]
    rw [← hl]
    refine ztb_ rs.length 0 (fun i f w' => i ≤ rs.length ∧ f 13 = .int .i64 i ∧ Gr w w' ∧ rs.take i = qs.take i) ⟨Nat.zero_le _, rfl, Gr.refl w, rfl⟩ ?_
    rintro i f w1 N hag ⟨hi, h13, hg, hpre⟩ hN
    have h0 : f 0 = .slice X rs.length cx := hag 0 (by decide)
    have h1 : f 1 = .slice Y rs.length cy := hag 1 (by decide)
    have h12 : f 12 = .int .i64 rs.length := hag 12 (by decide)
    simp only [h0, h1, h12, h13, zq18, zq19, zq20, zq21, zq22, zq23, zq24, zq25, zq26, zq27, zq28, zq4, zq3, zq1, zq2, zq0, zq29, zq30, zq14, zq15, zq16, zq17, zq13, zq10, zq12, zq11, zq7, zq5, zq6, zq9, zq8, zq31, zq32, ite_T, ite_F, zq33, zq34, zq35, Nat.reduceEqDiff, len22, len24, fa26_0, fa26_1, fa26_2, len27, fa33_0, fa33_1, len35, fa114_0, fa114_1, fa114_2, fa124_0, fa124_1, len134]
    by_cases hlt : i < rs.length
    · have hlt' : (i : Int) < rs.length := by omega
      have := hx.le
      simp only [hlt', decide_true, zq18, zq19, zq20, zq21, zq22, zq23, zq24, zq25, zq26, zq27, zq28, zq4, zq3, zq1, zq2, zq0, zq29, zq30, zq14, zq15, zq16, zq17, zq13, zq10, zq12, zq11, zq7, zq5, zq6, zq9, zq8, zq31, zq32, ite_T, ite_F, zq33, zq34, zq35, Nat.reduceEqDiff, len22, len24, fa26_0, fa26_1, fa26_2, len27, fa33_0, fa33_1, len35, fa114_0, fa114_1, fa114_2, fa124_0, fa124_1, len134]
      have g' := zd_ hg (zfc_ w1)
      obtain ⟨U, cu, u1, u2, u3, u4⟩ := (hx.gr g').row i hlt
      obtain ⟨V, cv, v1, v2, v3, v4⟩ := (hy.gr g').row i (by omega)
      have e1 : rul rs i = rs[i] := zpc_ hlt
      have e2 : rul qs i = qs[i] := zpc_ (by omega)
      have hpr : rs.take (i + 1) = qs.take (i + 1) ↔ rul rs i = rul qs i := by
        have hlt2 : i < qs.length := by omega
        have e3 : rs.take (i + 1) = rs.take i ++ [rs[i]] := List.take_succ_eq_append_getElem hlt
        have e4 : qs.take (i + 1) = qs.take i ++ [qs[i]] := List.take_succ_eq_append_getElem hlt2
        rw [e3, e4, hpre, e1, e2]
        constructor
        · exact fun h => by
            have := List.append_cancel_left h
            exact List.singleton_inj.1 this
        · exact fun h => by rw [h]
      refine rdi (zic_ hx.ptr hlt) ?_
      rw [fa33_0, zbc_, Nat.add_zero, ld3 u1]
      refine rdi (zic_ (hl ▸ hy.ptr) hlt) ?_
      rw [fa33_0, zbc_, Nat.add_zero, ld3 v1]
      simp only [zq18, zq19, zq20, zq21, zq22, zq23, zq24, zq25, zq26, zq27, zq28, zq4, zq3, zq1, zq2, zq0, zq29, zq30, zq14, zq15, zq16, zq17, zq13, zq10, zq12, zq11, zq7, zq5, zq6, zq9, zq8, zq31, zq32, ite_T, ite_F, zq33, zq34, zq35, Nat.reduceEqDiff, len22, len24, fa26_0, fa26_1, fa26_2, len27, fa33_0, fa33_1, len35, fa114_0, fa114_1, fa114_2, fa124_0, fa124_1, len134]
      by_cases hf : (rul rs i).1 = (rul qs i).1
      · simp only [hf, decide_true, Bool.not_true, zq18, zq19, zq20, zq21, zq22, zq23, zq24, zq25, zq26, zq27, zq28, zq4, zq3, zq1, zq2, zq0, zq29, zq30, zq14, zq15, zq16, zq17, zq13, zq10, zq12, zq11, zq7, zq5, zq6, zq9, zq8, zq31, zq32, ite_T, ite_F, zq33, zq34, zq35, Nat.reduceEqDiff, len22, len24, fa26_0, fa26_1, fa26_2, len27, fa33_0, fa33_1, len35, fa114_0, fa114_1, fa114_2, fa124_0, fa124_1, len134]
        refine rdi (zic_ hx.ptr hlt) ?_
        simp only [zq18, zq19, zq20, zq21, zq22, zq23, zq24, zq25, zq26, zq27, zq28, zq4, zq3, zq1, zq2, zq0, zq29, zq30, zq14, zq15, zq16, zq17, zq13, zq10, zq12, zq11, zq7, zq5, zq6, zq9, zq8, zq31, zq32, ite_T, ite_F, zq33, zq34, zq35, Nat.reduceEqDiff, len22, len24, fa26_0, fa26_1, fa26_2, len27, fa33_0, fa33_1, len35, fa114_0, fa114_1, fa114_2, fa124_0, fa124_1, len134]
        rw [zbc_, ld27 u2]
        refine rdi (zic_ (hl ▸ hy.ptr) hlt) ?_
        simp only [zq18, zq19, zq20, zq21, zq22, zq23, zq24, zq25, zq26, zq27, zq28, zq4, zq3, zq1, zq2, zq0, zq29, zq30, zq14, zq15, zq16, zq17, zq13, zq10, zq12, zq11, zq7, zq5, zq6, zq9, zq8, zq31, zq32, ite_T, ite_F, zq33, zq34, zq35, Nat.reduceEqDiff, len22, len24, fa26_0, fa26_1, fa26_2, len27, fa33_0, fa33_1, len35, fa114_0, fa114_1, fa114_2, fa124_0, fa124_1, len134]
        rw [zbc_, ld27 v2]
        refine zvm_ u4.is v4.is fun w2 g2 => ?_
        by_cases hr : (rul rs i).2 = (rul qs i).2
        · rw [decide_eq_true hr]
          simp only [Bool.not_true, zq18, zq19, zq20, zq21, zq22, zq23, zq24, zq25, zq26, zq27, zq28, zq4, zq3, zq1, zq2, zq0, zq29, zq30, zq14, zq15, zq16, zq17, zq13, zq10, zq12, zq11, zq7, zq5, zq6, zq9, zq8, zq31, zq32, ite_T, ite_F, zq33, zq34, zq35, Nat.reduceEqDiff, len22, len24, fa26_0, fa26_1, fa26_2, len27, fa33_0, fa33_1, len35, fa114_0, fa114_1, fa114_2, fa124_0, fa124_1, len134]
          rw [zt_ (by omega) (by omega)]
          exact hN _ _ hlt ⟨by omega, rfl, zd_ g' g2, hpr.2 (Prod.ext hf hr)⟩
        · rw [decide_eq_false hr]
          simp only [Bool.not_false, zq18, zq19, zq20, zq21, zq22, zq23, zq24, zq25, zq26, zq27, zq28, zq4, zq3, zq1, zq2, zq0, zq29, zq30, zq14, zq15, zq16, zq17, zq13, zq10, zq12, zq11, zq7, zq5, zq6, zq9, zq8, zq31, zq32, ite_T, ite_F, zq33, zq34, zq35, Nat.reduceEqDiff, len22, len24, fa26_0, fa26_1, fa26_2, len27, fa33_0, fa33_1, len35, fa114_0, fa114_1, fa114_2, fa124_0, fa124_1, len134]
          have := hk _ (zd_ g' g2)
          rwa [decide_eq_false (fun e => hr (by rw [e]))] at this
      · simp only [hf, decide_false, Bool.not_false, zq18, zq19, zq20, zq21, zq22, zq23, zq24, zq25, zq26, zq27, zq28, zq4, zq3, zq1, zq2, zq0, zq29, zq30, zq14, zq15, zq16, zq17, zq13, zq10, zq12, zq11, zq7, zq5, zq6, zq9, zq8, zq31, zq32, ite_T, ite_F, zq33, zq34, zq35, Nat.reduceEqDiff, len22, len24, fa26_0, fa26_1, fa26_2, len27, fa33_0, fa33_1, len35, fa114_0, fa114_1, fa114_2, fa124_0, fa124_1, len134]
        have := hk _ g'
        rwa [decide_eq_false (fun e => hf (by rw [e]))] at this
    · simp only [show ¬ (i : Int) < rs.length from by omega, decide_false, zq18, zq19, zq20, zq21, zq22, zq23, zq24, zq25, zq26, zq27, zq28, zq4, zq3, zq1, zq2, zq0, zq29, zq30, zq14, zq15, zq16, zq17, zq13, zq10, zq12, zq11, zq7, zq5, zq6, zq9, zq8, zq31, zq32, ite_T, ite_F, zq33, zq34, zq35, Nat.reduceEqDiff, len22, len24, fa26_0, fa26_1, fa26_2, len27, fa33_0, fa33_1, len35, fa114_0, fa114_1, fa114_2, fa124_0, fa124_1, len134]
      have := hk _ hg
      rwa [decide_eq_true] at this
      rwa [List.take_of_length_le (by omega), List.take_of_length_le (by omega)] at hpre
  · simp only [Int.ofNat_inj, hl, decide_false, Bool.not_false, zq18, zq19, zq20, zq21, zq22, zq23, zq24, zq25, zq26, zq27, zq28, zq4, zq3, zq1, zq2, zq0, zq29, zq30, zq14, zq15, zq16, zq17, zq13, zq10, zq12, zq11, zq7, zq5, zq6, zq9, zq8, zq31, zq32, ite_T, ite_F, zq33, zq34, zq35, Nat.reduceEqDiff, len22, len24, fa26_0, fa26_1, fa26_2, len27, fa33_0, fa33_1, len35, fa114_0, fa114_1, fa114_2, fa124_0, fa124_1, len134]
    have := hk _ (Gr.refl w)
    rwa [decide_eq_false (fun e => hl (by rw [e]))] at this
theorem zpf_ (hx : kG X cx gm.rules w) (hy : kG Y cy g2.rules w) (hk : ∀ w', Gr w w' → k (.bool (decide (gm = g2))) w') :
    CallK Try.prog 41 [grv gm X cx, grv g2 Y cy] k w := by
  refine enter41 ?_
  unfold S41
  have H := ((Kn.nil w).addG hx.1 hx.2).addG hy.1 hy.2
  refine zwb_ fun b1 w1 g1 hb1 B1 => ?_
  have H := (H.step g1).addB B1
  refine zwb_ fun b2 w2 gg hb2 B2 => ?_
  have H := (H.step gg).addB B2
  simp only [List.cons_append, List.nil_append] at H
  obtain ⟨n1, t1, r1⟩ := gm
  obtain ⟨n2, t2, r2⟩ := g2
  simp only [zq18, zq19, zq20, zq21, zq22, zq23, zq24, zq25, zq26, zq27, zq28, zq4, zq3, zq1, zq2, zq0, zq29, zq30, zq14, zq15, zq16, zq17, zq13, zq10, zq12, zq11, zq7, zq5, zq6, zq9, zq8, zq31, zq32, ite_T, ite_F, zq33, zq34, zq35, Nat.reduceEqDiff, len22, len24, fa26_0, fa26_1, fa26_2, len27, fa33_0, fa33_1, len35, fa114_0, fa114_1, fa114_2, fa124_0, fa124_1, len134]
  rw [ldB3 (H.get 3 rfl) rfl, ldB3 (H.get 4 rfl) rfl]
  simp only [zq18, zq19, zq20, zq21, zq22, zq23, zq24, zq25, zq26, zq27, zq28, zq4, zq3, zq1, zq2, zq0, zq29, zq30, zq14, zq15, zq16, zq17, zq13, zq10, zq12, zq11, zq7, zq5, zq6, zq9, zq8, zq31, zq32, ite_T, ite_F, zq33, zq34, zq35, Nat.reduceEqDiff, len22, len24, fa26_0, fa26_1, fa26_2, len27, fa33_0, fa33_1, len35, fa114_0, fa114_1, fa114_2, fa124_0, fa124_1, len134]
  by_cases hn : n1 = n2
  case neg =>
    simp only [hn, decide_false, zq18, zq19, zq20, zq21, zq22, zq23, zq24, zq25, zq26, zq27, zq28, zq4, zq3, zq1, zq2, zq0, zq29, zq30, zq14, zq15, zq16, zq17, zq13, zq10, zq12, zq11, zq7, zq5, zq6, zq9, zq8, zq31, zq32, ite_T, ite_F, zq33, zq34, zq35, Nat.reduceEqDiff, len22, len24, fa26_0, fa26_1, fa26_2, len27, fa33_0, fa33_1, len35, fa114_0, fa114_1, fa114_2, fa124_0, fa124_1, len134]
    have := hk _ (H.get 0 rfl)
    rwa [decide_eq_false (fun e => hn (by injection e))] at this
  simp only [hn, decide_true, zq18, zq19, zq20, zq21, zq22, zq23, zq24, zq25, zq26, zq27, zq28, zq4, zq3, zq1, zq2, zq0, zq29, zq30, zq14, zq15, zq16, zq17, zq13, zq10, zq12, zq11, zq7, zq5, zq6, zq9, zq8, zq31, zq32, ite_T, ite_F, zq33, zq34, zq35, Nat.reduceEqDiff, len22, len24, fa26_0, fa26_1, fa26_2, len27, fa33_0, fa33_1, len35, fa114_0, fa114_1, fa114_2, fa124_0, fa124_1, len134]
  rw [ldB3 (H.get 3 rfl) rfl, ldB3 (H.get 4 rfl) rfl]
  simp only [zq18, zq19, zq20, zq21, zq22, zq23, zq24, zq25, zq26, zq27, zq28, zq4, zq3, zq1, zq2, zq0, zq29, zq30, zq14, zq15, zq16, zq17, zq13, zq10, zq12, zq11, zq7, zq5, zq6, zq9, zq8, zq31, zq32, ite_T, ite_F, zq33, zq34, zq35, Nat.reduceEqDiff, len22, len24, fa26_0, fa26_1, fa26_2, len27, fa33_0, fa33_1, len35, fa114_0, fa114_1, fa114_2, fa124_0, fa124_1, len134]
  by_cases ht : t1 = t2
  case neg =>
    simp only [ht, decide_false, zq18, zq19, zq20, zq21, zq22, zq23, zq24, zq25, zq26, zq27, zq28, zq4, zq3, zq1, zq2, zq0, zq29, zq30, zq14, zq15, zq16, zq17, zq13, zq10, zq12, zq11, zq7, zq5, zq6, zq9, zq8, zq31, zq32, ite_T, ite_F, zq33, zq34, zq35, Nat.reduceEqDiff, len22, len24, fa26_0, fa26_1, fa26_2, len27, fa33_0, fa33_1, len35, fa114_0, fa114_1, fa114_2, fa124_0, fa124_1, len134]
    have := hk _ (H.get 0 rfl)
    rwa [decide_eq_false (fun e => ht (by injection e))] at this
  simp only [ht, decide_true, zq18, zq19, zq20, zq21, zq22, zq23, zq24, zq25, zq26, zq27, zq28, zq4, zq3, zq1, zq2, zq0, zq29, zq30, zq14, zq15, zq16, zq17, zq13, zq10, zq12, zq11, zq7, zq5, zq6, zq9, zq8, zq31, zq32, ite_T, ite_F, zq33, zq34, zq35, Nat.reduceEqDiff, len22, len24, fa26_0, fa26_1, fa26_2, len27, fa33_0, fa33_1, len35, fa114_0, fa114_1, fa114_2, fa124_0, fa124_1, len134]
  rw [zyb_ (H.get 3 rfl) rfl, zyb_ (H.get 4 rfl) rfl]
  refine sameRules_c (H.get 1 rfl).2 (H.get 2 rfl).2 fun w3 g3 => ?_
  have H := H.step g3
  simp only [zq18, zq19, zq20, zq21, zq22, zq23, zq24, zq25, zq26, zq27, zq28, zq4, zq3, zq1, zq2, zq0, zq29, zq30, zq14, zq15, zq16, zq17, zq13, zq10, zq12, zq11, zq7, zq5, zq6, zq9, zq8, zq31, zq32, ite_T, ite_F, zq33, zq34, zq35, Nat.reduceEqDiff, len22, len24, fa26_0, fa26_1, fa26_2, len27, fa33_0, fa33_1, len35, fa114_0, fa114_1, fa114_2, fa124_0, fa124_1, len134]
  have := hk _ (H.get 0 rfl)
  rwa [show decide ((⟨n1, t1, r1⟩ : Gram) = ⟨n2, t2, r2⟩) = decide (r1 = r2) from by
    rw [Bool.eq_iff_iff, decide_eq_true_eq, decide_eq_true_eq]
    exact ⟨fun e => by injection e, fun e => by rw [hn, ht, e]⟩] at this
theorem zfj_ (hx : kG X cx gm.rules w) (hk : ∀ w', Gr w w' → k (.bool (zv_ gm)) w') : CallK Try.prog 42 [grv gm X cx] k w := by
  refine enter42 ?_
  unfold S42
  have H := (Kn.nil w).addG hx.1 hx.2
  refine zwb_ fun b1 w1 g1 hb1 B1 => ?_
  have H := (H.step g1).addB B1
  rw [zj_ zu_ sz26 rfl (H.get 2 rfl)]
  refine zae_ (gvK (H.get 1 rfl)) fun w2 g => ?_
  have H := H.step g
  exact hk _ (H.get 0 rfl)
theorem zbi_ (hx : kG X cx gm.rules w) (hw : kI Z ws cz w) (hk : ∀ w', Gr w w' → k (.bool (wordG gm ws)) w') : CallK Try.prog 44 [grv gm X cx, .slice Z ws.length cz] k w := by
  refine enter44 ?_
  unfold S44
  have H := ((Kn.nil w).addG hx.1 hx.2).addI hw.1 hw.2
  refine zwb_ fun b1 w1 g1 hb1 B1 => ?_
  have H := (H.step g1).addB B1
  rw [zj_ zu_ sz26 rfl (H.get 3 rfl)]
  refine zae_ (gvK (H.get 1 rfl)) fun w2 g => ?_
  have H := H.step g
  unfold wordG at hk
  cases hg : zv_ gm
  · simp only [zq18, zq19, zq20, zq21, zq22, zq23, zq24, zq25, zq26, zq27, zq28, zq4, zq3, zq1, zq2, zq0, zq29, zq30, zq14, zq15, zq16, zq17, zq13, zq10, zq12, zq11, zq7, zq5, zq6, zq9, zq8, zq31, zq32, ite_T, ite_F, zq33, zq34, zq35, Nat.reduceEqDiff, len22, len24, fa26_0, fa26_1, fa26_2, len27, fa33_0, fa33_1, len35, fa114_0, fa114_1, fa114_2, fa124_0, fa124_1, len134]
    rw [hg, Bool.false_and] at hk
    exact hk _ (H.get 0 rfl)
  rw [hg, Bool.true_and] at hk
  have ht := zve_ hg
  simp only [zq18, zq19, zq20, zq21, zq22, zq23, zq24, zq25, zq26, zq27, zq28, zq4, zq3, zq1, zq2, zq0, zq29, zq30, zq14, zq15, zq16, zq17, zq13, zq10, zq12, zq11, zq7, zq5, zq6, zq9, zq8, zq31, zq32, ite_T, ite_F, zq33, zq34, zq35, Nat.reduceEqDiff, len22, len24, fa26_0, fa26_1, fa26_2, len27, fa33_0, fa33_1, len35, fa114_0, fa114_1, fa114_2, fa124_0, fa124_1, len134]
  rw [ldB3 (H.get 3 rfl) rfl]
  refine isWord_c (H.get 2 rfl).1 rfl (by omega) (by omega) fun w3 g => ?_
  have H := H.step g
  exact hk _ (H.get 0 rfl)
end
end Go.Proofs.Ytegcjkhebecgbaa

namespace Go.Sh
open Go
noncomputable def usefulV (gm : Gram) : Gram × Bool := if zv_ gm = true then (usefulG gm, true) else (⟨0, 0, []⟩, false)
end Go.Sh
namespace Go.Proofs.Ytegcjkhebecgbaa
open Go Go.Sh Go.RowKit
section
variable {w : World} {Y : Option Addr} {cy : Nat} {gm : Gram} {k : Value → World → Prop}
end
structure Dr (gm : Gram) : Prop where
  nons : 0 ≤ gm.nons ∧ gm.nons ≤ 1000
  toks : 0 ≤ gm.toks ∧ gm.toks ≤ 1000
theorem Dr.of {m : Nat} {gm : Gram} (h : Drawn m gm) : Dr gm := ⟨h.nons, h.toks⟩
theorem Dr.useful {gm : Gram} (h : Dr gm) : Dr (usefulV gm).1 := by
  unfold usefulV
  split
  · exact ⟨h.nons, h.toks⟩
  · exact ⟨by simp, by simp⟩
section
variable {w0 w : World} {E : List Thing} {bc N cap : Nat} {C : Option Addr} {bs : List Int} {k : Value → World → Prop}
theorem drawGood_c (hC : Byts w C bs) (hk : ∀ w' gm ft Y cy, Drawn 101 gm → Apt w w' [gth ft Y cy gm.rules] → k (grv gm Y cy) w') :
    CallK Try.prog 173 [.slice C bs.length cap] k w := by
  refine enter173 ?_
  unfold S173
  refine draw0 fun b1 b4 w1 H => ?_
  refine any_c H hC (by omega) fun w2 gm ft Y cy hd H => ?_
  refine zub_ H 2 rfl sz26 rfl rfl rfl fun w3 H => ?_
  have H : Apt w w3 [cur b4 (.slice C bs.length cap) (0 + 600), gth ft Y cy gm.rules, bx b1 [.int .i64 gm.nons, .int .i64 gm.toks, .slice Y gm.rules.length cy] 26] := H
  rw [zcb_, zj_ zu_ sz26 rfl (H.box 2 rfl)]
  have H := (H.erase 2).erase 0
  simp only [List.eraseIdx_cons_zero, List.eraseIdx_cons_succ] at H
  exact hk w3 gm ft Y cy hd H
end
open Go Go.Sh

def pl125 : Plans := fun _ => ⟨false, [], .nil⟩
def S125 (v0 : Value) (k : Value → World → Prop) (w : World) : Prop :=
 Do Try.prog (sBox 26 v0) (fun t1 w2 =>
 Do Try.prog (zw_ 26) (fun t3 w4 =>
 Rd Try.prog (WS.at w4) (zc_ 26 t1) fun t5 =>
 CallK Try.prog 148 [t5] (fun t6 w7 =>
 Rd Try.prog (WS.at w7) (sUn .not t6) fun t8 =>
 zm_ t8
  (Rd Try.prog (WS.at w7) (zy_ 26 []) fun t9 =>
  Do Try.prog (zi_ 26 t3 t9) (fun _ w10 =>
  Rd Try.prog (WS.at w10) (zib_ 26 t3) fun t11 => k (.tuple #[t11, (.bool false)]) w10) w7)
  (Rd Try.prog (WS.at w7) (zc_ 26 t1) fun t12 =>
  CallK Try.prog 234 [t12] (fun t13 w14 =>
  Do Try.prog (zw_ 26) (fun t15 w16 =>
  Do Try.prog (zi_ 26 t15 t13) (fun _ w17 =>
  Rd Try.prog (WS.at w17) (za_ 26 t15 2) fun t18 =>
  Rd Try.prog (WS.at w17) (zc_ 24 t18) fun t19 =>
  Rd Try.prog (WS.at w17) (ze_ .len #[24] 3 [false] [t19]) fun t20 =>
  zrb_ [17, 18, 19, 6, 20, 21, 22, 23, 16] (fun Q21 f22 w23 =>
   Rd Try.prog (WS.at w23) (sBin .lss 3 false (f22 16) (f22 15)) fun t24 =>
   zm_ t24
    (Rd Try.prog (WS.at w23) (zf_ 24 (f22 14) (f22 16)) fun t25 =>
    Rd Try.prog (WS.at w23) (zc_ 33 t25) fun t26 =>
    Do Try.prog (zw_ 33) (fun t27 w28 =>
    Do Try.prog (zi_ 33 t27 t26) (fun _ w29 =>
    Rd Try.prog (WS.at w29) (za_ 33 t27 1) fun t30 =>
    Rd Try.prog (WS.at w29) (zc_ 27 t30) fun t31 =>
    CallK Try.prog 235 [t31] (fun t32 w33 =>
    Rd Try.prog (WS.at w33) (sBin .add 3 true (f22 16) (.int .i64 1)) fun t34 =>
    Q21 .normal (F.upd (F.upd (F.upd (F.upd (F.upd (F.upd (F.upd (F.upd (F.upd f22 17 t24) 18 t25) 19 t26) 6 t27) 20 t30) 21 t31) 22 t32) 23 t34) 16 t34) w33) w29) w28) w23)
    (Q21 (.exit 0) (F.upd f22 17 t24) w23))
   (zx_ 0 (seqQ (fun f35 w36 =>
  Rd Try.prog (WS.at w36) (zc_ 26 (f35 4)) fun t37 =>
  Do Try.prog (zi_ 26 (f35 2) t37) (fun _ w38 =>
  Rd Try.prog (WS.at w38) (zib_ 26 (f35 2)) fun t39 => k (.tuple #[t39, (.bool true)]) w38) w36) (zr_ Try.prog [.cell 2 26, .tmp 3] k)))
   (F.upd (F.upd (F.upd (F.upd (F.upd (F.upd (F.upd (F.upd (F.upd (F.upd (F.upd (F.upd (F.upd (zp_ [v0]) 1 t1) 2 t3) 3 (.bool false)) 7 t5) 8 t6) 9 t8) 11 t12) 12 t13) 4 t15) 13 t18) 14 t19) 15 t20) 16 (.int .i64 0)) w17) w16) w14) w7)) w4) w2) w
theorem body125 : Try.f125.body = some (zg_ Try.f125) := by kernel_rfl
theorem same125 (v0 : Value) (k : Value → World → Prop) (w : World) : wpF Try.prog pl125 (zg_ Try.f125) (zr_ Try.prog Try.f125.results.toList k) (zp_ [v0]) w = S125 v0 k w := by kernel_rfl
theorem enter125 {v0 : Value} {k : Value → World → Prop} {w : World} (h : S125 v0 k w) : CallK Try.prog 125 [v0] k w :=
  call_of_wpF (pl := pl125) mixed Try.func125 body125 (by kernel_rfl) (of_decide_eq_true (by kernel_rfl)) (by kernel_rfl) (by kernel_rfl) (Eq.mpr (same125 v0 k w) h)

def pl126 : Plans := fun i => match i with
  | 7 => ⟨true, [12], .step 0 .any (.step 1 .held (.step 2 .any (.step 3 .any (.step 4 .held (.step 5 .any (.step 6 .any (.step 7 .any (.step 8 .held (.step 9 .one (.step 10 .any (.step 11 .any (.step 12 .last (.nil)))))))))))))⟩
  | _ => ⟨false, [], .nil⟩
def S126 (v0 : Value) (k : Value → World → Prop) (w : World) : Prop :=
 Do Try.prog (sBox 26 v0) (fun t1 w2 =>
 Do Try.prog (zw_ 26) (fun t3 w4 =>
 Rd Try.prog (WS.at w4) (zc_ 26 t1) fun t5 =>
 CallK Try.prog 127 [t5] (fun t6 w7 =>
 Rd Try.prog (WS.at w7) (sUn .not t6) fun t8 =>
 zm_ t8
  (Rd Try.prog (WS.at w7) (zy_ 26 []) fun t9 =>
  Do Try.prog (zi_ 26 t3 t9) (fun _ w10 =>
  Rd Try.prog (WS.at w10) (zib_ 26 t3) fun t11 => k (.tuple #[t11, (.bool false)]) w10) w7)
  (Rd Try.prog (WS.at w7) (zc_ 26 t1) fun t12 =>
  CallK Try.prog 236 [t12] (fun t13 w14 =>
  Do Try.prog (zw_ 26) (fun t15 w16 =>
  Do Try.prog (zi_ 26 t15 t13) (fun _ w17 =>
  Rd Try.prog (WS.at w17) (za_ 26 t15 2) fun t18 =>
  Rd Try.prog (WS.at w17) (zc_ 24 t18) fun t19 =>
  Rd Try.prog (WS.at w17) (ze_ .len #[24] 3 [false] [t19]) fun t20 =>
  zrb_ [16, 17, 5, 18, 19, 20, 21, 22, 23, 24, 25, 26, 27, 28, 29, 30, 15] (fun Q21 f22 w23 =>
   Rd Try.prog (WS.at w23) (sBin .lss 3 false (f22 15) (f22 14)) fun t24 =>
   zm_ t24
    (∃ U25 : World → Prop, ∃ h26 : U25 w23.drew,
    Rd Try.prog WS.any (za_ 26 (f22 4) 2) fun t27 =>
    Rd Try.prog ⟨U25, w23.drew, h26⟩ (zc_ 24 t27) fun t28 =>
    Rd Try.prog WS.any (za_ 26 (f22 4) 2) fun t29 =>
    Rd Try.prog ⟨U25, w23.drew, h26⟩ (zc_ 24 t29) fun t30 =>
    Rd Try.prog WS.any (zf_ 24 t30 (f22 15)) fun t31 =>
    Rd Try.prog WS.any (za_ 33 t31 1) fun t32 =>
    Rd Try.prog ⟨U25, w23.drew, h26⟩ (zc_ 27 t32) fun t33 =>
    CallK Try.prog 237 [t33] (fun t34 w35 =>
    U25 w35 ∧ Rd Try.prog WS.any (zf_ 24 t28 (f22 15)) fun t36 =>
    Rd Try.prog WS.any (za_ 33 t36 1) fun t37 =>
    Do Try.prog (zi_ 27 t37 t34) (fun _ w38 =>
    Rd Try.prog (WS.at w38) (sBin .add 3 true (f22 15) (.int .i64 1)) fun t39 =>
    Q21 .normal (F.upd (F.upd (F.upd (F.upd (F.upd (F.upd (F.upd (F.upd (F.upd (F.upd (F.upd (F.upd (F.upd (F.upd (F.upd (F.upd (F.upd f22 16 t24) 17 (f22 15)) 5 (f22 15)) 18 t27) 19 t28) 20 (f22 15)) 21 t29) 22 t30) 23 (f22 15)) 24 t31) 25 t32) 26 t33) 27 t34) 28 t36) 29 t37) 30 t39) 15 t39) w38) w35) w23.drew)
    (Q21 (.exit 0) (F.upd f22 16 t24) w23))
   (zx_ 0 (seqQ (fun f40 w41 =>
  Rd Try.prog (WS.at w41) (zc_ 26 (f40 4)) fun t42 =>
  Do Try.prog (zi_ 26 (f40 2) t42) (fun _ w43 =>
  Rd Try.prog (WS.at w43) (zib_ 26 (f40 2)) fun t44 => k (.tuple #[t44, (.bool true)]) w43) w41) (zr_ Try.prog [.cell 2 26, .tmp 3] k)))
   (F.upd (F.upd (F.upd (F.upd (F.upd (F.upd (F.upd (F.upd (F.upd (F.upd (F.upd (F.upd (F.upd (zp_ [v0]) 1 t1) 2 t3) 3 (.bool false)) 6 t5) 7 t6) 8 t8) 10 t12) 11 t13) 4 t15) 12 t18) 13 t19) 14 t20) 15 (.int .i64 0)) w17) w16) w14) w7)) w4) w2) w
theorem body126 : Try.f126.body = some (zg_ Try.f126) := by kernel_rfl
theorem same126 (v0 : Value) (k : Value → World → Prop) (w : World) : wpF Try.prog pl126 (zg_ Try.f126) (zr_ Try.prog Try.f126.results.toList k) (zp_ [v0]) w = S126 v0 k w := by kernel_rfl
theorem enter126 {v0 : Value} {k : Value → World → Prop} {w : World} (h : S126 v0 k w) : CallK Try.prog 126 [v0] k w :=
  call_of_wpF (pl := pl126) mixed Try.func126 body126 (by kernel_rfl) (of_decide_eq_true (by kernel_rfl)) (by kernel_rfl) (by kernel_rfl) (Eq.mpr (same126 v0 k w) h)

def pl129 : Plans := fun _ => ⟨false, [], .nil⟩
def S129 (v0 : Value) (k : Value → World → Prop) (w : World) : Prop :=
 Rd Try.prog (WS.at w) (ze_ .len #[27] 3 [false] [v0]) fun t1 =>
 Rd Try.prog (WS.at w) (sBin .sub 3 true t1 (.int .i64 1)) fun t2 =>
 zrb_ [8, 9, 12, 13, 14, 15, 16, 17, 18, 3, 10, 11, 4] (fun Q3 f4 w5 =>
  Rd Try.prog (WS.at w5) (sBin .geq 3 true (f4 4) (.int .i64 0)) fun t6 =>
  zm_ t6
   (Rd Try.prog (WS.at w5) (zf_ 27 (f4 0) (f4 4)) fun t7 =>
   Rd Try.prog (WS.at w5) (zc_ 3 t7) fun t8 =>
   Do Try.prog (zh_ 27 1 [(0, t8)]) (fun t9 w10 =>
   Do Try.prog (ze_ .append #[27, 27] 27 [false, false] [(f4 3), t9]) (fun t11 w12 =>
   Rd Try.prog (WS.at w12) (sBin .sub 3 true (f4 4) (.int .i64 1)) fun t13 =>
   Q3 .normal (F.upd (F.upd (F.upd (F.upd (F.upd (F.upd (F.upd (F.upd (F.upd (F.upd (F.upd (F.upd (F.upd f4 8 (f4 4)) 9 t6) 12 (f4 3)) 13 (f4 0)) 14 (f4 4)) 15 t7) 16 t8) 17 t9) 18 t11) 3 t11) 10 (f4 4)) 11 t13) 4 t13) w12) w10) w5)
   (Q3 (.exit 0) (F.upd (F.upd f4 8 (f4 4)) 9 t6) w5))
  (zx_ 0 (seqQ (fun f14 w15 =>
 k (f14 3) w15) (zr_ Try.prog [.tmp 2] k)))
  (F.upd (F.upd (F.upd (F.upd (F.upd (F.upd (zp_ [v0]) 2 (.slice none 0 0)) 3 (.slice none 0 0)) 5 v0) 6 t1) 7 t2) 4 t2) w
theorem body129 : Try.f129.body = some (zg_ Try.f129) := by kernel_rfl
theorem same129 (v0 : Value) (k : Value → World → Prop) (w : World) : wpF Try.prog pl129 (zg_ Try.f129) (zr_ Try.prog Try.f129.results.toList k) (zp_ [v0]) w = S129 v0 k w := by kernel_rfl
theorem enter129 {v0 : Value} {k : Value → World → Prop} {w : World} (h : S129 v0 k w) : CallK Try.prog 129 [v0] k w :=
  call_of_wpF (pl := pl129) mixed Try.func129 body129 (by kernel_rfl) (of_decide_eq_true (by kernel_rfl)) (by kernel_rfl) (by kernel_rfl) (Eq.mpr (same129 v0 k w) h)

def pl130 : Plans := fun _ => ⟨false, [], .nil⟩
def S130 (v0 : Value) (k : Value → World → Prop) (w : World) : Prop :=
 Do Try.prog (sBox 26 v0) (fun t1 w2 =>
 Rd Try.prog (WS.at w2) (zc_ 26 t1) fun t3 =>
 CallK Try.prog 148 [t3] (fun t4 w5 =>
 Rd Try.prog (WS.at w5) (sUn .not t4) fun t6 =>
 zm_ t6
  (k (.tuple #[(.int .i64 0), (.bool false)]) w5)
  (Rd Try.prog (WS.at w5) (za_ 26 t1 2) fun t7 =>
  Rd Try.prog (WS.at w5) (zc_ 24 t7) fun t8 =>
  Rd Try.prog (WS.at w5) (ze_ .len #[24] 3 [false] [t8]) fun t9 =>
  Rd Try.prog (WS.at w5) (za_ 26 t1 2) fun t10 =>
  Rd Try.prog (WS.at w5) (zc_ 24 t10) fun t11 =>
  Rd Try.prog (WS.at w5) (ze_ .len #[24] 3 [false] [t11]) fun t12 =>
  zrb_ [17, 18, 19, 6, 20, 21, 22, 23, 24, 4, 25, 16] (fun Q13 f14 w15 =>
   Rd Try.prog (WS.at w15) (sBin .lss 3 false (f14 16) (f14 15)) fun t16 =>
   zm_ t16
    (Rd Try.prog (WS.at w15) (zf_ 24 (f14 14) (f14 16)) fun t17 =>
    Rd Try.prog (WS.at w15) (zc_ 33 t17) fun t18 =>
    Do Try.prog (zw_ 33) (fun t19 w20 =>
    Do Try.prog (zi_ 33 t19 t18) (fun _ w21 =>
    Rd Try.prog (WS.at w21) (za_ 33 t19 1) fun t22 =>
    Rd Try.prog (WS.at w21) (zc_ 27 t22) fun t23 =>
    Rd Try.prog (WS.at w21) (ze_ .len #[27] 3 [false] [t23]) fun t24 =>
    Rd Try.prog (WS.at w21) (sBin .add 3 false (f14 4) t24) fun t25 =>
    Rd Try.prog (WS.at w21) (sBin .add 3 true (f14 16) (.int .i64 1)) fun t26 =>
    Q13 .normal (F.upd (F.upd (F.upd (F.upd (F.upd (F.upd (F.upd (F.upd (F.upd (F.upd (F.upd (F.upd f14 17 t16) 18 t17) 19 t18) 6 t19) 20 (f14 4)) 21 t22) 22 t23) 23 t24) 24 t25) 4 t25) 25 t26) 16 t26) w21) w20) w15)
    (Q13 (.exit 0) (F.upd f14 17 t16) w15))
   (zx_ 0 (seqQ (fun f27 w28 =>
  k (.tuple #[(f27 4), (.bool true)]) w28) (zr_ Try.prog [.tmp 2, .tmp 3] k)))
   (F.upd (F.upd (F.upd (F.upd (F.upd (F.upd (F.upd (F.upd (F.upd (F.upd (F.upd (F.upd (F.upd (F.upd (zp_ [v0]) 1 t1) 2 (.int .i64 0)) 3 (.bool false)) 7 t3) 8 t4) 9 t6) 10 t7) 11 t8) 12 t9) 4 t9) 13 t10) 14 t11) 15 t12) 16 (.int .i64 0)) w5)) w2) w
theorem body130 : Try.f130.body = some (zg_ Try.f130) := by kernel_rfl
theorem same130 (v0 : Value) (k : Value → World → Prop) (w : World) : wpF Try.prog pl130 (zg_ Try.f130) (zr_ Try.prog Try.f130.results.toList k) (zp_ [v0]) w = S130 v0 k w := by kernel_rfl
theorem enter130 {v0 : Value} {k : Value → World → Prop} {w : World} (h : S130 v0 k w) : CallK Try.prog 130 [v0] k w :=
  call_of_wpF (pl := pl130) mixed Try.func130 body130 (by kernel_rfl) (of_decide_eq_true (by kernel_rfl)) (by kernel_rfl) (by kernel_rfl) (Eq.mpr (same130 v0 k w) h)

def pl131 : Plans := fun _ => ⟨false, [], .nil⟩
def S131 (v0 v1 : Value) (k : Value → World → Prop) (w : World) : Prop :=
 Do Try.prog (sBox 26 v0) (fun t1 w2 =>
 Do Try.prog (sBox 26 v1) (fun t3 w4 =>
 Rd Try.prog (WS.at w4) (za_ 26 t1 0) fun t5 =>
 Rd Try.prog (WS.at w4) (zc_ 3 t5) fun t6 =>
 Rd Try.prog (WS.at w4) (za_ 26 t3 0) fun t7 =>
 Rd Try.prog (WS.at w4) (zc_ 3 t7) fun t8 =>
 Rd Try.prog (WS.at w4) (sBin .eql 3 false t6 t8) fun t9 =>
 zb_ t9 true (fun k w' => Rd Try.prog (WS.at w4) (za_ 26 t1 1) fun v => k v w') (fun t10 w11 =>
 zb_ t9 true (fun k w' => Rd Try.prog (WS.at w11) (zc_ 3 t10) fun v => k v w') (fun t12 w13 =>
 zb_ t9 true (fun k w' => Rd Try.prog (WS.at w13) (za_ 26 t3 1) fun v => k v w') (fun t14 w15 =>
 zb_ t9 true (fun k w' => Rd Try.prog (WS.at w15) (zc_ 3 t14) fun v => k v w') (fun t16 w17 =>
 zb_ t9 true (fun k w' => Rd Try.prog (WS.at w17) (sBin .eql 3 false t12 t16) fun v => k v w') (fun t18 w19 =>
 Rd Try.prog (WS.at w19) (zeb_ t9 t18 (.bool false)) fun t20 =>
 zb_ t20 true (fun k w' => Rd Try.prog (WS.at w19) (za_ 26 t1 2) fun v => k v w') (fun t21 w22 =>
 zb_ t20 true (fun k w' => Rd Try.prog (WS.at w22) (zc_ 24 t21) fun v => k v w') (fun t23 w24 =>
 zb_ t20 true (fun k w' => Rd Try.prog (WS.at w24) (za_ 26 t3 2) fun v => k v w') (fun t25 w26 =>
 zb_ t20 true (fun k w' => Rd Try.prog (WS.at w26) (zc_ 24 t25) fun v => k v w') (fun t27 w28 =>
 zb_ t20 true (fun k w' => CallK Try.prog 241 [t23, t27, (.func (.func 242) #[] #[])] k w') (fun t29 w30 =>
 Rd Try.prog (WS.at w30) (zeb_ t20 t29 (.bool false)) fun t31 =>
 k t31 w30) w28) w26) w24) w22) w19) w17) w15) w13) w11) w4) w2) w
theorem body131 : Try.f131.body = some (zg_ Try.f131) := by kernel_rfl
theorem same131 (v0 v1 : Value) (k : Value → World → Prop) (w : World) : wpF Try.prog pl131 (zg_ Try.f131) (zr_ Try.prog Try.f131.results.toList k) (zp_ [v0, v1]) w = S131 v0 v1 k w := by kernel_rfl
theorem enter131 {v0 v1 : Value} {k : Value → World → Prop} {w : World} (h : S131 v0 v1 k w) : CallK Try.prog 131 [v0, v1] k w :=
  call_of_wpF (pl := pl131) mixed Try.func131 body131 (by kernel_rfl) (of_decide_eq_true (by kernel_rfl)) (by kernel_rfl) (by kernel_rfl) (Eq.mpr (same131 v0 v1 k w) h)

def pl133 : Plans := fun i => match i with
  | 21 => ⟨false, [10], .step 0 .any (.step 1 .any (.step 2 .any (.step 3 .held (.step 4 .any (.step 5 .any (.step 6 .any (.step 7 .any (.step 8 .held (.step 9 .any (.step 10 .last (.nil)))))))))))⟩
  | _ => ⟨false, [], .nil⟩
def S133 (v0 v1 : Value) (k : Value → World → Prop) (w : World) : Prop :=
 Do Try.prog (sBox 26 v0) (fun t1 w2 =>
 Do Try.prog (zw_ 26) (fun t3 w4 =>
 Do Try.prog (zh_ 27 0 []) (fun t5 w6 =>
 Do Try.prog (ze_ .append #[27, 27] 27 [false, false] [t5, v1]) (fun t7 w8 =>
 CallK Try.prog 243 [t7] (fun t9 w10 =>
 Rd Try.prog (WS.at w10) (zc_ 26 t1) fun t11 =>
 CallK Try.prog 148 [t11] (fun t12 w13 =>
 Rd Try.prog (WS.at w13) (sUn .not t12) fun t14 =>
 zb_ t14 false (fun k w' => k v1 w') (fun t15 w16 =>
 zb_ t14 false (fun k w' => Rd Try.prog (WS.at w16) (ze_ .len #[27] 3 [false] [t15]) fun v => k v w') (fun t17 w18 =>
 zb_ t14 false (fun k w' => Rd Try.prog (WS.at w18) (za_ 26 t1 0) fun v => k v w') (fun t19 w20 =>
 zb_ t14 false (fun k w' => Rd Try.prog (WS.at w20) (zc_ 3 t19) fun v => k v w') (fun t21 w22 =>
 zb_ t14 false (fun k w' => Rd Try.prog (WS.at w22) (sBin .neq 3 false t17 t21) fun v => k v w') (fun t23 w24 =>
 Rd Try.prog (WS.at w24) (zeb_ t14 (.bool true) t23) fun t25 =>
 zb_ t25 false (fun k w' => k v1 w') (fun t26 w27 =>
 zb_ t25 false (fun k w' => Rd Try.prog (WS.at w27) (zf_ 27 t26 (.int .i64 0)) fun v => k v w') (fun t28 w29 =>
 zb_ t25 false (fun k w' => Rd Try.prog (WS.at w29) (zc_ 3 t28) fun v => k v w') (fun t30 w31 =>
 zb_ t25 false (fun k w' => Rd Try.prog (WS.at w31) (sBin .neq 3 true t30 (.int .i64 0)) fun v => k v w') (fun t32 w33 =>
 Rd Try.prog (WS.at w33) (zeb_ t25 (.bool true) t32) fun t34 =>
 zm_ t34
  (Rd Try.prog (WS.at w33) (zy_ 26 []) fun t35 =>
  Do Try.prog (zi_ 26 t3 t35) (fun _ w36 =>
  Rd Try.prog (WS.at w36) (zib_ 26 t3) fun t37 => k (.tuple #[t37, (.bool false)]) w36) w33)
  (Rd Try.prog (WS.at w33) (ze_ .len #[27] 3 [false] [t7]) fun t38 =>
  zrb_ [39, 40, 41, 42, 7, 8, 43, 44, 45, 46, 5, 47, 38] (fun Q39 f40 w41 =>
   Rd Try.prog (WS.at w41) (sBin .lss 3 false (f40 38) (f40 37)) fun t42 =>
   zm_ t42
    (Rd Try.prog (WS.at w41) (zf_ 27 (f40 36) (f40 38)) fun t43 =>
    Rd Try.prog (WS.at w41) (zc_ 3 t43) fun t44 =>
    Rd Try.prog (WS.at w41) (sBin .neq 3 false (f40 38) t44) fun t45 =>
    zm_ t45
     (Rd Try.prog (WS.at w41) (zy_ 26 []) fun t46 =>
     Do Try.prog (zi_ 26 (f40 4) t46) (fun _ w47 =>
     Q39 .ret (F.upd (F.upd (F.upd (F.upd (F.upd (F.upd (F.upd (F.upd (F.upd (F.upd (F.upd f40 39 t42) 40 (f40 38)) 41 t43) 42 t44) 7 (f40 38)) 8 t44) 43 (f40 38)) 44 t44) 45 t45) 46 t46) 5 (.bool false)) w47) w41)
     (Rd Try.prog (WS.at w41) (sBin .add 3 true (f40 38) (.int .i64 1)) fun t48 =>
     Q39 .normal (F.upd (F.upd (F.upd (F.upd (F.upd (F.upd (F.upd (F.upd (F.upd (F.upd (F.upd f40 39 t42) 40 (f40 38)) 41 t43) 42 t44) 7 (f40 38)) 8 t44) 43 (f40 38)) 44 t44) 45 t45) 47 t48) 38 t48) w41))
    (Q39 (.exit 0) (F.upd f40 39 t42) w41))
   (zx_ 0 (seqQ (fun f49 w50 =>
  Rd Try.prog (WS.at w50) (zc_ 26 (f49 2)) fun t51 =>
  CallK Try.prog 234 [t51] (fun t52 w53 =>
  Do Try.prog (zw_ 26) (fun t54 w55 =>
  Do Try.prog (zi_ 26 t54 t52) (fun _ w56 =>
  Rd Try.prog (WS.at w56) (za_ 26 t54 2) fun t57 =>
  Rd Try.prog (WS.at w56) (zc_ 24 t57) fun t58 =>
  Rd Try.prog (WS.at w56) (ze_ .len #[24] 3 [false] [t58]) fun t59 =>
  zrb_ [54, 55, 10, 56, 57, 58, 59, 11, 60, 61, 62, 63, 64, 65, 66, 67, 68, 69, 70, 71, 72, 73, 74, 75, 76, 77, 78, 79, 12, 13, 80, 81, 82, 83, 84, 85, 86, 87, 88, 89, 90, 91, 92, 75, 93, 53] (fun Q60 f61 w62 =>
   Rd Try.prog (WS.at w62) (sBin .lss 3 false (f61 53) (f61 52)) fun t63 =>
   zm_ t63
    (Rd Try.prog (WS.at w62) (za_ 26 (f61 9) 2) fun t64 =>
    Rd Try.prog (WS.at w62) (zc_ 24 t64) fun t65 =>
    Rd Try.prog (WS.at w62) (zf_ 24 t65 (f61 53)) fun t66 =>
    Rd Try.prog (WS.at w62) (zvb_ t66) fun t67 =>
    Rd Try.prog (WS.at w62) (za_ 33 t67 0) fun t68 =>
    Rd Try.prog (WS.at w62) (zc_ 3 t68) fun t69 =>
    Rd Try.prog (WS.at w62) (zf_ 27 (f61 1) t69) fun t70 =>
    Rd Try.prog (WS.at w62) (zc_ 3 t70) fun t71 =>
    Rd Try.prog (WS.at w62) (zvb_ t66) fun t72 =>
    Rd Try.prog (WS.at w62) (za_ 33 t72 0) fun t73 =>
    Do Try.prog (zi_ 3 t73 t71) (fun _ w74 =>
    Rd Try.prog (WS.at w74) (zvb_ t66) fun t75 =>
    Rd Try.prog (WS.at w74) (za_ 33 t75 1) fun t76 =>
    Rd Try.prog (WS.at w74) (zc_ 27 t76) fun t77 =>
    Rd Try.prog (WS.at w74) (ze_ .len #[27] 3 [false] [t77]) fun t78 =>
    zrb_ [76, 77, 78, 79, 12, 13, 80, 81, 82, 83, 84, 85, 86, 87, 88, 89, 90, 91, 92, 75] (fun Q79 f80 w81 =>
     Rd Try.prog (WS.at w81) (sBin .lss 3 false (f80 75) (f80 74)) fun t82 =>
     zm_ t82
      (Join (fun K83 =>
      Rd Try.prog (WS.at w81) (zf_ 27 (f80 73) (f80 75)) fun t86 =>
      Rd Try.prog (WS.at w81) (zc_ 3 t86) fun t87 =>
      Rd Try.prog (WS.at w81) (sBin .geq 3 true t87 (.int .i64 0)) fun t88 =>
      zm_ t88
       (Rd Try.prog WS.any (zvb_ (f80 11)) fun t89 =>
       Rd Try.prog WS.any (za_ 33 t89 1) fun t90 =>
       Rd Try.prog (WS.at w81.drew) (zc_ 27 t90) fun t91 =>
       Rd Try.prog WS.any (zf_ 27 (f80 1) t87) fun t92 =>
       Rd Try.prog (WS.at w81.drew) (zc_ 3 t92) fun t93 =>
       Rd Try.prog WS.any (zf_ 27 t91 (f80 75)) fun t94 =>
       Do Try.prog (zi_ 3 t94 t93) (fun _ w95 =>
       K83 (F.upd (F.upd (F.upd (F.upd (F.upd (F.upd (F.upd (F.upd (F.upd (F.upd (F.upd (F.upd (F.upd (F.upd (F.upd (F.upd (F.upd (F.upd f80 76 t82) 77 (f80 75)) 78 t86) 79 t87) 12 (f80 75)) 13 t87) 80 t87) 81 t88) 82 (f80 11)) 83 t89) 84 t90) 85 t91) 86 (f80 75)) 87 (f80 1)) 88 t87) 89 t92) 90 t93) 91 t94) w95) w81.drew)
       (K83 (F.upd (F.upd (F.upd (F.upd (F.upd (F.upd (F.upd (F.upd f80 76 t82) 77 (f80 75)) 78 t86) 79 t87) 12 (f80 75)) 13 t87) 80 t87) 81 t88) w81)) (fun f84 w85 =>
      Rd Try.prog (WS.at w85) (sBin .add 3 true (f84 75) (.int .i64 1)) fun t96 =>
      Q79 .normal (F.upd (F.upd f84 92 t96) 75 t96) w85))
      (Q79 (.exit 4) (F.upd f80 76 t82) w81))
     (zx_ 4 (zx_ 3 (seqQ (fun f97 w98 =>
    Rd Try.prog (WS.at w98) (sBin .add 3 true (f97 53) (.int .i64 1)) fun t99 =>
    Q60 .normal (F.upd (F.upd f97 93 t99) 53 t99) w98) Q60)))
     (F.upd (F.upd (F.upd (F.upd (F.upd (F.upd (F.upd (F.upd (F.upd (F.upd (F.upd (F.upd (F.upd (F.upd (F.upd (F.upd (F.upd (F.upd (F.upd (F.upd (F.upd (F.upd (F.upd (F.upd f61 54 t63) 55 (f61 53)) 10 (f61 53)) 56 t64) 57 t65) 58 (f61 53)) 59 t66) 11 t66) 60 t66) 61 (f61 1)) 62 t66) 63 t67) 64 t68) 65 t69) 66 t70) 67 t71) 68 t72) 69 t73) 70 t66) 71 t75) 72 t76) 73 t77) 74 t78) 75 (.int .i64 0)) w74) w62)
    (Q60 (.exit 2) (F.upd f61 54 t63) w62))
   (zx_ 2 (seqQ (fun f100 w101 =>
  Rd Try.prog (WS.at w101) (zc_ 26 (f100 9)) fun t102 =>
  Do Try.prog (zi_ 26 (f100 4) t102) (fun _ w103 =>
  Rd Try.prog (WS.at w103) (zib_ 26 (f100 4)) fun t104 => k (.tuple #[t104, (.bool true)]) w103) w101) (zr_ Try.prog [.cell 4 26, .tmp 5] k)))
   (F.upd (F.upd (F.upd (F.upd (F.upd (F.upd (F.upd f49 48 t51) 49 t52) 9 t54) 50 t57) 51 t58) 52 t59) 53 (.int .i64 0)) w56) w55) w53) w50) (zr_ Try.prog [.cell 4 26, .tmp 5] k)))
   (F.upd (F.upd (F.upd (F.upd (F.upd (F.upd (F.upd (F.upd (F.upd (F.upd (F.upd (F.upd (F.upd (F.upd (F.upd (F.upd (F.upd (F.upd (F.upd (F.upd (F.upd (F.upd (F.upd (F.upd (F.upd (F.upd (F.upd (F.upd (zp_ [v0, v1]) 2 t1) 4 t3) 5 (.bool false)) 14 t5) 15 v1) 16 t7) 6 t7) 17 t7) 18 t9) 19 t11) 20 t12) 21 t14) 22 t14) 23 t15) 24 t17) 25 t19) 26 t21) 27 t23) 28 t25) 29 t25) 30 t26) 31 t28) 32 t30) 33 t32) 34 t34) 36 t7) 37 t38) 38 (.int .i64 0)) w33)) w31) w29) w27) w24) w22) w20) w18) w16) w13) w10) w8) w6) w4) w2) w
theorem body133 : Try.f133.body = some (zg_ Try.f133) := by kernel_rfl
theorem same133 (v0 v1 : Value) (k : Value → World → Prop) (w : World) : wpF Try.prog pl133 (zg_ Try.f133) (zr_ Try.prog Try.f133.results.toList k) (zp_ [v0, v1]) w = S133 v0 v1 k w := by kernel_rfl
theorem enter133 {v0 v1 : Value} {k : Value → World → Prop} {w : World} (h : S133 v0 v1 k w) : CallK Try.prog 133 [v0, v1] k w :=
  call_of_wpF (pl := pl133) mixed Try.func133 body133 (by kernel_rfl) (of_decide_eq_true (by kernel_rfl)) (by kernel_rfl) (by kernel_rfl) (Eq.mpr (same133 v0 v1 k w) h)

def pl134 : Plans := fun i => match i with
  | 13 => ⟨false, [10], .step 0 .any (.step 1 .held (.step 2 .any (.step 3 .any (.step 4 .any (.step 5 .held (.step 6 .any (.step 7 .held (.step 8 .any (.step 9 .any (.step 10 .last (.nil)))))))))))⟩
  | 18 => ⟨false, [12], .step 0 .any (.step 1 .held (.step 2 .any (.step 3 .any (.step 4 .any (.step 5 .held (.step 6 .any (.step 7 .any (.step 8 .any (.step 9 .any (.step 10 .held (.step 11 .any (.step 12 .last (.nil)))))))))))))⟩
  | _ => ⟨false, [], .nil⟩
def S134 (v0 v1 : Value) (k : Value → World → Prop) (w : World) : Prop :=
 Do Try.prog (sBox 26 v0) (fun t1 w2 =>
 Do Try.prog (zw_ 26) (fun t3 w4 =>
 Rd Try.prog (WS.at w4) (zc_ 26 t1) fun t5 =>
 CallK Try.prog 127 [t5] (fun t6 w7 =>
 Rd Try.prog (WS.at w7) (sUn .not t6) fun t8 =>
 zb_ t8 false (fun k w' => k v1 w') (fun t9 w10 =>
 zb_ t8 false (fun k w' => Rd Try.prog (WS.at w10) (ze_ .len #[27] 3 [false] [t9]) fun v => k v w') (fun t11 w12 =>
 zb_ t8 false (fun k w' => Rd Try.prog (WS.at w12) (za_ 26 t1 0) fun v => k v w') (fun t13 w14 =>
 zb_ t8 false (fun k w' => Rd Try.prog (WS.at w14) (zc_ 3 t13) fun v => k v w') (fun t15 w16 =>
 zb_ t8 false (fun k w' => Rd Try.prog (WS.at w16) (sBin .neq 3 false t11 t15) fun v => k v w') (fun t17 w18 =>
 Rd Try.prog (WS.at w18) (zeb_ t8 (.bool true) t17) fun t19 =>
 zb_ t19 false (fun k w' => k v1 w') (fun t20 w21 =>
 zb_ t19 false (fun k w' => Rd Try.prog (WS.at w21) (za_ 26 t1 0) fun v => k v w') (fun t22 w23 =>
 zb_ t19 false (fun k w' => Rd Try.prog (WS.at w23) (zc_ 3 t22) fun v => k v w') (fun t24 w25 =>
 zb_ t19 false (fun k w' => Rd Try.prog (WS.at w25) (sBin .sub 3 true t24 (.int .i64 1)) fun v => k v w') (fun t26 w27 =>
 zb_ t19 false (fun k w' => CallK Try.prog 230 [t20, (.int .i64 0), t26] k w') (fun t28 w29 =>
 zb_ t19 false (fun k w' => Rd Try.prog (WS.at w29) (sUn .not t28) fun v => k v w') (fun t30 w31 =>
 Rd Try.prog (WS.at w31) (zeb_ t19 (.bool true) t30) fun t32 =>
 zb_ t32 false (fun k w' => k v1 w') (fun t33 w34 =>
 zb_ t32 false (fun k w' => Rd Try.prog (WS.at w34) (zf_ 27 t33 (.int .i64 0)) fun v => k v w') (fun t35 w36 =>
 zb_ t32 false (fun k w' => Rd Try.prog (WS.at w36) (zc_ 3 t35) fun v => k v w') (fun t37 w38 =>
 zb_ t32 false (fun k w' => Rd Try.prog (WS.at w38) (sBin .neq 3 true t37 (.int .i64 0)) fun v => k v w') (fun t39 w40 =>
 Rd Try.prog (WS.at w40) (zeb_ t32 (.bool true) t39) fun t41 =>
 zm_ t41
  (Rd Try.prog (WS.at w40) (zy_ 26 []) fun t42 =>
  Do Try.prog (zi_ 26 t3 t42) (fun _ w43 =>
  Rd Try.prog (WS.at w43) (zib_ 26 t3) fun t44 => k (.tuple #[t44, (.bool false)]) w43) w40)
  (Rd Try.prog (WS.at w40) (ze_ .len #[27] 3 [false] [v1]) fun t45 =>
  zrb_ [41, 42, 43, 44, 6, 7, 45, 46, 47, 48, 49, 50, 5, 51, 40] (fun Q46 f47 w48 =>
   Rd Try.prog (WS.at w48) (sBin .lss 3 false (f47 40) (f47 39)) fun t49 =>
   zm_ t49
    (Rd Try.prog (WS.at w48) (zf_ 27 (f47 38) (f47 40)) fun t50 =>
    Rd Try.prog (WS.at w48) (zc_ 3 t50) fun t51 =>
    Rd Try.prog (WS.at w48) (zec_ 27 (f47 1) none (some (f47 40)) none) fun t52 =>
    CallK Try.prog 244 [t52, t51] (fun t53 w54 =>
    zm_ t53
     (Rd Try.prog (WS.at w54) (zy_ 26 []) fun t55 =>
     Do Try.prog (zi_ 26 (f47 4) t55) (fun _ w56 =>
     Q46 .ret (F.upd (F.upd (F.upd (F.upd (F.upd (F.upd (F.upd (F.upd (F.upd (F.upd (F.upd (F.upd (F.upd f47 41 t49) 42 (f47 40)) 43 t50) 44 t51) 6 (f47 40)) 7 t51) 45 (f47 1)) 46 (f47 40)) 47 t52) 48 t51) 49 t53) 50 t55) 5 (.bool false)) w56) w54)
     (Rd Try.prog (WS.at w54) (sBin .add 3 true (f47 40) (.int .i64 1)) fun t57 =>
     Q46 .normal (F.upd (F.upd (F.upd (F.upd (F.upd (F.upd (F.upd (F.upd (F.upd (F.upd (F.upd (F.upd (F.upd f47 41 t49) 42 (f47 40)) 43 t50) 44 t51) 6 (f47 40)) 7 t51) 45 (f47 1)) 46 (f47 40)) 47 t52) 48 t51) 49 t53) 51 t57) 40 t57) w54)) w48)
    (Q46 (.exit 0) (F.upd f47 41 t49) w48))
   (zx_ 0 (seqQ (fun f58 w59 =>
  Rd Try.prog (WS.at w59) (zc_ 26 (f58 2)) fun t60 =>
  CallK Try.prog 236 [t60] (fun t61 w62 =>
  Do Try.prog (zw_ 26) (fun t63 w64 =>
  Do Try.prog (zi_ 26 t63 t61) (fun _ w65 =>
  Rd Try.prog (WS.at w65) (za_ 26 t63 2) fun t66 =>
  Rd Try.prog (WS.at w65) (zc_ 24 t66) fun t67 =>
  Rd Try.prog (WS.at w65) (ze_ .len #[24] 3 [false] [t67]) fun t68 =>
  zrb_ [58, 59, 60, 61, 10, 9, 62, 63, 64, 65, 66, 67, 68, 69, 70, 71, 72, 73, 74, 75, 76, 77, 78, 79, 11, 12, 80, 81, 82, 83, 84, 85, 86, 87, 88, 89, 90, 91, 92, 93, 94, 75, 95, 57] (fun Q69 f70 w71 =>
   Rd Try.prog (WS.at w71) (sBin .lss 3 false (f70 57) (f70 56)) fun t72 =>
   zm_ t72
    (Rd Try.prog (WS.at w71) (zf_ 24 (f70 55) (f70 57)) fun t73 =>
    Rd Try.prog (WS.at w71) (zc_ 33 t73) fun t74 =>
    Do Try.prog (zw_ 33) (fun t75 w76 =>
    Do Try.prog (zi_ 33 t75 t74) (fun _ w77 =>
    Rd Try.prog WS.any (za_ 26 (f70 8) 2) fun t78 =>
    Rd Try.prog (WS.at w77.drew) (zc_ 24 t78) fun t79 =>
    Rd Try.prog WS.any (za_ 33 t75 0) fun t80 =>
    Rd Try.prog (WS.at w77.drew) (zc_ 3 t80) fun t81 =>
    Rd Try.prog WS.any (zf_ 27 (f70 1) t81) fun t82 =>
    Rd Try.prog (WS.at w77.drew) (zc_ 3 t82) fun t83 =>
    Rd Try.prog WS.any (zf_ 24 t79 (f70 57)) fun t84 =>
    Rd Try.prog WS.any (za_ 33 t84 0) fun t85 =>
    Do Try.prog (zi_ 3 t85 t83) (fun _ w86 =>
    Rd Try.prog (WS.at w86) (za_ 33 t75 1) fun t87 =>
    Rd Try.prog (WS.at w86) (zc_ 27 t87) fun t88 =>
    Rd Try.prog (WS.at w86) (ze_ .len #[27] 3 [false] [t88]) fun t89 =>
    zrb_ [76, 77, 78, 79, 11, 12, 80, 81, 82, 83, 84, 85, 86, 87, 88, 89, 90, 91, 92, 93, 94, 75] (fun Q90 f91 w92 =>
     Rd Try.prog (WS.at w92) (sBin .lss 3 false (f91 75) (f91 74)) fun t93 =>
     zm_ t93
      (Join (fun K94 =>
      Rd Try.prog (WS.at w92) (zf_ 27 (f91 73) (f91 75)) fun t97 =>
      Rd Try.prog (WS.at w92) (zc_ 3 t97) fun t98 =>
      Rd Try.prog (WS.at w92) (sBin .geq 3 true t98 (.int .i64 0)) fun t99 =>
      zm_ t99
       (Rd Try.prog WS.any (za_ 26 (f91 8) 2) fun t100 =>
       Rd Try.prog (WS.at w92.drew) (zc_ 24 t100) fun t101 =>
       Rd Try.prog WS.any (zf_ 24 t101 (f91 9)) fun t102 =>
       Rd Try.prog WS.any (za_ 33 t102 1) fun t103 =>
       Rd Try.prog (WS.at w92.drew) (zc_ 27 t103) fun t104 =>
       Rd Try.prog WS.any (zf_ 27 (f91 1) t98) fun t105 =>
       Rd Try.prog (WS.at w92.drew) (zc_ 3 t105) fun t106 =>
       Rd Try.prog WS.any (zf_ 27 t104 (f91 75)) fun t107 =>
       Do Try.prog (zi_ 3 t107 t106) (fun _ w108 =>
       K94 (F.upd (F.upd (F.upd (F.upd (F.upd (F.upd (F.upd (F.upd (F.upd (F.upd (F.upd (F.upd (F.upd (F.upd (F.upd (F.upd (F.upd (F.upd (F.upd (F.upd f91 76 t93) 77 (f91 75)) 78 t97) 79 t98) 11 (f91 75)) 12 t98) 80 t98) 81 t99) 82 t100) 83 t101) 84 (f91 9)) 85 t102) 86 t103) 87 t104) 88 (f91 75)) 89 (f91 1)) 90 t98) 91 t105) 92 t106) 93 t107) w108) w92.drew)
       (K94 (F.upd (F.upd (F.upd (F.upd (F.upd (F.upd (F.upd (F.upd f91 76 t93) 77 (f91 75)) 78 t97) 79 t98) 11 (f91 75)) 12 t98) 80 t98) 81 t99) w92)) (fun f95 w96 =>
      Rd Try.prog (WS.at w96) (sBin .add 3 true (f95 75) (.int .i64 1)) fun t109 =>
      Q90 .normal (F.upd (F.upd f95 94 t109) 75 t109) w96))
      (Q90 (.exit 4) (F.upd f91 76 t93) w92))
     (zx_ 4 (zx_ 3 (seqQ (fun f110 w111 =>
    Rd Try.prog (WS.at w111) (sBin .add 3 true (f110 57) (.int .i64 1)) fun t112 =>
    Q69 .normal (F.upd (F.upd f110 95 t112) 57 t112) w111) Q69)))
     (F.upd (F.upd (F.upd (F.upd (F.upd (F.upd (F.upd (F.upd (F.upd (F.upd (F.upd (F.upd (F.upd (F.upd (F.upd (F.upd (F.upd (F.upd (F.upd (F.upd f70 58 t72) 59 (f70 57)) 60 t73) 61 t74) 10 t75) 9 (f70 57)) 62 t78) 63 t79) 64 (f70 57)) 65 (f70 1)) 66 t80) 67 t81) 68 t82) 69 t83) 70 t84) 71 t85) 72 t87) 73 t88) 74 t89) 75 (.int .i64 0)) w86) w77.drew) w76) w71)
    (Q69 (.exit 2) (F.upd f70 58 t72) w71))
   (zx_ 2 (seqQ (fun f113 w114 =>
  Rd Try.prog (WS.at w114) (zc_ 26 (f113 8)) fun t115 =>
  Do Try.prog (zi_ 26 (f113 4) t115) (fun _ w116 =>
  Rd Try.prog (WS.at w116) (zib_ 26 (f113 4)) fun t117 => k (.tuple #[t117, (.bool true)]) w116) w114) (zr_ Try.prog [.cell 4 26, .tmp 5] k)))
   (F.upd (F.upd (F.upd (F.upd (F.upd (F.upd (F.upd f58 52 t60) 53 t61) 8 t63) 54 t66) 55 t67) 56 t68) 57 (.int .i64 0)) w65) w64) w62) w59) (zr_ Try.prog [.cell 4 26, .tmp 5] k)))
   (F.upd (F.upd (F.upd (F.upd (F.upd (F.upd (F.upd (F.upd (F.upd (F.upd (F.upd (F.upd (F.upd (F.upd (F.upd (F.upd (F.upd (F.upd (F.upd (F.upd (F.upd (F.upd (F.upd (F.upd (F.upd (F.upd (F.upd (F.upd (F.upd (F.upd (zp_ [v0, v1]) 2 t1) 4 t3) 5 (.bool false)) 13 t5) 14 t6) 15 t8) 16 t8) 17 t9) 18 t11) 19 t13) 20 t15) 21 t17) 22 t19) 23 t19) 24 t20) 25 t22) 26 t24) 27 t26) 28 t28) 29 t30) 30 t32) 31 t32) 32 t33) 33 t35) 34 t37) 35 t39) 36 t41) 38 v1) 39 t45) 40 (.int .i64 0)) w40)) w38) w36) w34) w31) w29) w27) w25) w23) w21) w18) w16) w14) w12) w10) w7) w4) w2) w
theorem body134 : Try.f134.body = some (zg_ Try.f134) := by kernel_rfl
theorem same134 (v0 v1 : Value) (k : Value → World → Prop) (w : World) : wpF Try.prog pl134 (zg_ Try.f134) (zr_ Try.prog Try.f134.results.toList k) (zp_ [v0, v1]) w = S134 v0 v1 k w := by kernel_rfl
theorem enter134 {v0 v1 : Value} {k : Value → World → Prop} {w : World} (h : S134 v0 v1 k w) : CallK Try.prog 134 [v0, v1] k w :=
  call_of_wpF (pl := pl134) mixed Try.func134 body134 (by kernel_rfl) (of_decide_eq_true (by kernel_rfl)) (by kernel_rfl) (by kernel_rfl) (Eq.mpr (same134 v0 v1 k w) h)

def pl137 : Plans := fun _ => ⟨false, [], .nil⟩
def S137 (v0 : Value) (k : Value → World → Prop) (w : World) : Prop :=
 Do Try.prog (sBox 26 v0) (fun t1 w2 =>
 Rd Try.prog (WS.at w2) (zc_ 26 t1) fun t3 =>
 CallK Try.prog 127 [t3] (fun t4 w5 =>
 Rd Try.prog (WS.at w5) (sUn .not t4) fun t6 =>
 zm_ t6
  (k (.tuple #[(.int .i64 0), (.bool false)]) w5)
  (Rd Try.prog (WS.at w5) (za_ 26 t1 2) fun t7 =>
  Rd Try.prog (WS.at w5) (zc_ 24 t7) fun t8 =>
  Rd Try.prog (WS.at w5) (ze_ .len #[24] 3 [false] [t8]) fun t9 =>
  Rd Try.prog (WS.at w5) (za_ 26 t1 2) fun t10 =>
  Rd Try.prog (WS.at w5) (zc_ 24 t10) fun t11 =>
  Rd Try.prog (WS.at w5) (ze_ .len #[24] 3 [false] [t11]) fun t12 =>
  zrb_ [17, 18, 19, 6, 20, 21, 22, 23, 24, 4, 25, 16] (fun Q13 f14 w15 =>
   Rd Try.prog (WS.at w15) (sBin .lss 3 false (f14 16) (f14 15)) fun t16 =>
   zm_ t16
    (Rd Try.prog (WS.at w15) (zf_ 24 (f14 14) (f14 16)) fun t17 =>
    Rd Try.prog (WS.at w15) (zc_ 33 t17) fun t18 =>
    Do Try.prog (zw_ 33) (fun t19 w20 =>
    Do Try.prog (zi_ 33 t19 t18) (fun _ w21 =>
    Rd Try.prog (WS.at w21) (za_ 33 t19 1) fun t22 =>
    Rd Try.prog (WS.at w21) (zc_ 27 t22) fun t23 =>
    Rd Try.prog (WS.at w21) (ze_ .len #[27] 3 [false] [t23]) fun t24 =>
    Rd Try.prog (WS.at w21) (sBin .add 3 false (f14 4) t24) fun t25 =>
    Rd Try.prog (WS.at w21) (sBin .add 3 true (f14 16) (.int .i64 1)) fun t26 =>
    Q13 .normal (F.upd (F.upd (F.upd (F.upd (F.upd (F.upd (F.upd (F.upd (F.upd (F.upd (F.upd (F.upd f14 17 t16) 18 t17) 19 t18) 6 t19) 20 (f14 4)) 21 t22) 22 t23) 23 t24) 24 t25) 4 t25) 25 t26) 16 t26) w21) w20) w15)
    (Q13 (.exit 0) (F.upd f14 17 t16) w15))
   (zx_ 0 (seqQ (fun f27 w28 =>
  k (.tuple #[(f27 4), (.bool true)]) w28) (zr_ Try.prog [.tmp 2, .tmp 3] k)))
   (F.upd (F.upd (F.upd (F.upd (F.upd (F.upd (F.upd (F.upd (F.upd (F.upd (F.upd (F.upd (F.upd (F.upd (zp_ [v0]) 1 t1) 2 (.int .i64 0)) 3 (.bool false)) 7 t3) 8 t4) 9 t6) 10 t7) 11 t8) 12 t9) 4 t9) 13 t10) 14 t11) 15 t12) 16 (.int .i64 0)) w5)) w2) w
theorem body137 : Try.f137.body = some (zg_ Try.f137) := by kernel_rfl
theorem same137 (v0 : Value) (k : Value → World → Prop) (w : World) : wpF Try.prog pl137 (zg_ Try.f137) (zr_ Try.prog Try.f137.results.toList k) (zp_ [v0]) w = S137 v0 k w := by kernel_rfl
theorem enter137 {v0 : Value} {k : Value → World → Prop} {w : World} (h : S137 v0 k w) : CallK Try.prog 137 [v0] k w :=
  call_of_wpF (pl := pl137) mixed Try.func137 body137 (by kernel_rfl) (of_decide_eq_true (by kernel_rfl)) (by kernel_rfl) (by kernel_rfl) (Eq.mpr (same137 v0 k w) h)

def pl139 : Plans := fun _ => ⟨false, [], .nil⟩
def S139 (v0 v1 : Value) (k : Value → World → Prop) (w : World) : Prop :=
 Do Try.prog (sBox 26 v0) (fun t1 w2 =>
 Rd Try.prog (WS.at w2) (zc_ 26 t1) fun t3 =>
 CallK Try.prog 148 [t3] (fun t4 w5 =>
 Rd Try.prog (WS.at w5) (sUn .not t4) fun t6 =>
 zb_ t6 false (fun k w' => k v1 w') (fun t7 w8 =>
 zb_ t6 false (fun k w' => Rd Try.prog (WS.at w8) (za_ 26 t1 0) fun v => k v w') (fun t9 w10 =>
 zb_ t6 false (fun k w' => Rd Try.prog (WS.at w10) (zc_ 3 t9) fun v => k v w') (fun t11 w12 =>
 zb_ t6 false (fun k w' => Rd Try.prog (WS.at w12) (sBin .sub 3 true t11 (.int .i64 1)) fun v => k v w') (fun t13 w14 =>
 zb_ t6 false (fun k w' => CallK Try.prog 149 [t7, (.int .i64 0), t13] k w') (fun t15 w16 =>
 zb_ t6 false (fun k w' => Rd Try.prog (WS.at w16) (sUn .not t15) fun v => k v w') (fun t17 w18 =>
 Rd Try.prog (WS.at w18) (zeb_ t6 (.bool true) t17) fun t19 =>
 zm_ t19
  (k (.tuple #[(.slice none 0 0), (.bool false)]) w18)
  (Do Try.prog (zh_ 27 0 []) (fun t20 w21 =>
  Rd Try.prog (WS.at w21) (za_ 26 t1 2) fun t22 =>
  Rd Try.prog (WS.at w21) (zc_ 24 t22) fun t23 =>
  Rd Try.prog (WS.at w21) (ze_ .len #[24] 3 [false] [t23]) fun t24 =>
  zrb_ [25, 26, 27, 28, 8, 7, 29, 30, 31, 32, 33, 34, 35, 36, 6, 37, 24] (fun Q25 f26 w27 =>
   Rd Try.prog (WS.at w27) (sBin .lss 3 false (f26 24) (f26 23)) fun t28 =>
   zm_ t28
    (Join (fun K29 =>
    Rd Try.prog (WS.at w27) (zf_ 24 (f26 22) (f26 24)) fun t32 =>
    Rd Try.prog (WS.at w27) (zc_ 33 t32) fun t33 =>
    Do Try.prog (zw_ 33) (fun t34 w35 =>
    Do Try.prog (zi_ 33 t34 t33) (fun _ w36 =>
    Rd Try.prog (WS.at w36) (za_ 33 t34 0) fun t37 =>
    Rd Try.prog (WS.at w36) (zc_ 3 t37) fun t38 =>
    Rd Try.prog (WS.at w36) (sBin .eql 3 false t38 (f26 1)) fun t39 =>
    zm_ t39
     (Do Try.prog (zh_ 27 1 [(0, (f26 24))]) (fun t40 w41 =>
     Do Try.prog (ze_ .append #[27, 27] 27 [false, false] [(f26 6), t40]) (fun t42 w43 =>
     K29 (F.upd (F.upd (F.upd (F.upd (F.upd (F.upd (F.upd (F.upd (F.upd (F.upd (F.upd (F.upd (F.upd (F.upd (F.upd f26 25 t28) 26 (f26 24)) 27 t32) 28 t33) 8 t34) 7 (f26 24)) 29 t37) 30 t38) 31 (f26 1)) 32 t39) 33 (f26 6)) 34 (f26 24)) 35 t40) 36 t42) 6 t42) w43) w41) w36)
     (K29 (F.upd (F.upd (F.upd (F.upd (F.upd (F.upd (F.upd (F.upd (F.upd (F.upd f26 25 t28) 26 (f26 24)) 27 t32) 28 t33) 8 t34) 7 (f26 24)) 29 t37) 30 t38) 31 (f26 1)) 32 t39) w36)) w35) w27) (fun f30 w31 =>
    Rd Try.prog (WS.at w31) (sBin .add 3 true (f30 24) (.int .i64 1)) fun t44 =>
    Q25 .normal (F.upd (F.upd f30 37 t44) 24 t44) w31))
    (Q25 (.exit 0) (F.upd f26 25 t28) w27))
   (zx_ 0 (seqQ (fun f45 w46 =>
  k (.tuple #[(f45 6), (.bool true)]) w46) (zr_ Try.prog [.tmp 4, .tmp 5] k)))
   (F.upd (F.upd (F.upd (F.upd (F.upd (F.upd (F.upd (F.upd (F.upd (F.upd (F.upd (F.upd (F.upd (F.upd (F.upd (F.upd (F.upd (F.upd (F.upd (F.upd (zp_ [v0, v1]) 2 t1) 4 (.slice none 0 0)) 5 (.bool false)) 9 t3) 10 t4) 11 t6) 12 t6) 13 t7) 14 t9) 15 t11) 16 t13) 17 t15) 18 t17) 19 t19) 20 t20) 6 t20) 21 t22) 22 t23) 23 t24) 24 (.int .i64 0)) w21) w18)) w16) w14) w12) w10) w8) w5) w2) w
theorem body139 : Try.f139.body = some (zg_ Try.f139) := by kernel_rfl
theorem same139 (v0 v1 : Value) (k : Value → World → Prop) (w : World) : wpF Try.prog pl139 (zg_ Try.f139) (zr_ Try.prog Try.f139.results.toList k) (zp_ [v0, v1]) w = S139 v0 v1 k w := by kernel_rfl
theorem enter139 {v0 v1 : Value} {k : Value → World → Prop} {w : World} (h : S139 v0 v1 k w) : CallK Try.prog 139 [v0, v1] k w :=
  call_of_wpF (pl := pl139) mixed Try.func139 body139 (by kernel_rfl) (of_decide_eq_true (by kernel_rfl)) (by kernel_rfl) (by kernel_rfl) (Eq.mpr (same139 v0 v1 k w) h)

def pl140 : Plans := fun _ => ⟨false, [], .nil⟩
def S140 (v0 v1 : Value) (k : Value → World → Prop) (w : World) : Prop :=
 Do Try.prog (sBox 26 v0) (fun t1 w2 =>
 Rd Try.prog (WS.at w2) (zc_ 26 t1) fun t3 =>
 CallK Try.prog 127 [t3] (fun t4 w5 =>
 Rd Try.prog (WS.at w5) (sUn .not t4) fun t6 =>
 zb_ t6 false (fun k w' => k v1 w') (fun t7 w8 =>
 zb_ t6 false (fun k w' => Rd Try.prog (WS.at w8) (za_ 26 t1 0) fun v => k v w') (fun t9 w10 =>
 zb_ t6 false (fun k w' => Rd Try.prog (WS.at w10) (zc_ 3 t9) fun v => k v w') (fun t11 w12 =>
 zb_ t6 false (fun k w' => Rd Try.prog (WS.at w12) (sBin .sub 3 true t11 (.int .i64 1)) fun v => k v w') (fun t13 w14 =>
 zb_ t6 false (fun k w' => CallK Try.prog 152 [t7, (.int .i64 0), t13] k w') (fun t15 w16 =>
 zb_ t6 false (fun k w' => Rd Try.prog (WS.at w16) (sUn .not t15) fun v => k v w') (fun t17 w18 =>
 Rd Try.prog (WS.at w18) (zeb_ t6 (.bool true) t17) fun t19 =>
 zm_ t19
  (k (.tuple #[(.slice none 0 0), (.bool false)]) w18)
  (Rd Try.prog (WS.at w18) (zc_ 26 t1) fun t20 =>
  CallK Try.prog 175 [t20, v1] (fun t21 w22 =>
  k (.tuple #[t21, (.bool true)]) w22) w18)) w16) w14) w12) w10) w8) w5) w2) w
theorem body140 : Try.f140.body = some (zg_ Try.f140) := by kernel_rfl
theorem same140 (v0 v1 : Value) (k : Value → World → Prop) (w : World) : wpF Try.prog pl140 (zg_ Try.f140) (zr_ Try.prog Try.f140.results.toList k) (zp_ [v0, v1]) w = S140 v0 v1 k w := by kernel_rfl
theorem enter140 {v0 v1 : Value} {k : Value → World → Prop} {w : World} (h : S140 v0 v1 k w) : CallK Try.prog 140 [v0, v1] k w :=
  call_of_wpF (pl := pl140) mixed Try.func140 body140 (by kernel_rfl) (of_decide_eq_true (by kernel_rfl)) (by kernel_rfl) (by kernel_rfl) (Eq.mpr (same140 v0 v1 k w) h)

def pl142 : Plans := fun _ => ⟨false, [], .nil⟩
def S142 (v0 v1 : Value) (k : Value → World → Prop) (w : World) : Prop :=
 Do Try.prog (sBox 26 v0) (fun t1 w2 =>
 Do Try.prog (zw_ 26) (fun t3 w4 =>
 Rd Try.prog (WS.at w4) (zc_ 26 t1) fun t5 =>
 CallK Try.prog 148 [t5] (fun t6 w7 =>
 Rd Try.prog (WS.at w7) (sUn .not t6) fun t8 =>
 zb_ t8 false (fun k w' => k v1 w') (fun t9 w10 =>
 zb_ t8 false (fun k w' => Rd Try.prog (WS.at w10) (za_ 26 t1 2) fun v => k v w') (fun t11 w12 =>
 zb_ t8 false (fun k w' => Rd Try.prog (WS.at w12) (zc_ 24 t11) fun v => k v w') (fun t13 w14 =>
 zb_ t8 false (fun k w' => Rd Try.prog (WS.at w14) (ze_ .len #[24] 3 [false] [t13]) fun v => k v w') (fun t15 w16 =>
 zb_ t8 false (fun k w' => Rd Try.prog (WS.at w16) (sBin .sub 3 true t15 (.int .i64 1)) fun v => k v w') (fun t17 w18 =>
 zb_ t8 false (fun k w' => CallK Try.prog 149 [t9, (.int .i64 0), t17] k w') (fun t19 w20 =>
 zb_ t8 false (fun k w' => Rd Try.prog (WS.at w20) (sUn .not t19) fun v => k v w') (fun t21 w22 =>
 Rd Try.prog (WS.at w22) (zeb_ t8 (.bool true) t21) fun t23 =>
 zm_ t23
  (Rd Try.prog (WS.at w22) (zy_ 26 []) fun t24 =>
  Do Try.prog (zi_ 26 t3 t24) (fun _ w25 =>
  Rd Try.prog (WS.at w25) (zib_ 26 t3) fun t26 => k (.tuple #[t26, (.bool false)]) w25) w22)
  (Rd Try.prog (WS.at w22) (zc_ 26 t1) fun t27 =>
  CallK Try.prog 234 [t27] (fun t28 w29 =>
  Do Try.prog (zw_ 26) (fun t30 w31 =>
  Do Try.prog (zi_ 26 t30 t28) (fun _ w32 =>
  Rd Try.prog (WS.at w32) (za_ 26 t30 2) fun t33 =>
  Rd Try.prog (WS.at w32) (zc_ 24 t33) fun t34 =>
  Rd Try.prog (WS.at w32) (sBin .add 3 true v1 (.int .i64 1)) fun t35 =>
  CallK Try.prog 245 [t34, v1, t35] (fun t36 w37 =>
  Rd Try.prog (WS.at w37) (za_ 26 t30 2) fun t38 =>
  Do Try.prog (zi_ 24 t38 t36) (fun _ w39 =>
  Rd Try.prog (WS.at w39) (zc_ 26 t30) fun t40 =>
  Do Try.prog (zi_ 26 t3 t40) (fun _ w41 =>
  Rd Try.prog (WS.at w41) (zib_ 26 t3) fun t42 => k (.tuple #[t42, (.bool true)]) w41) w39) w37) w32) w31) w29) w22)) w20) w18) w16) w14) w12) w10) w7) w4) w2) w
theorem body142 : Try.f142.body = some (zg_ Try.f142) := by kernel_rfl
theorem same142 (v0 v1 : Value) (k : Value → World → Prop) (w : World) : wpF Try.prog pl142 (zg_ Try.f142) (zr_ Try.prog Try.f142.results.toList k) (zp_ [v0, v1]) w = S142 v0 v1 k w := by kernel_rfl
theorem enter142 {v0 v1 : Value} {k : Value → World → Prop} {w : World} (h : S142 v0 v1 k w) : CallK Try.prog 142 [v0, v1] k w :=
  call_of_wpF (pl := pl142) mixed Try.func142 body142 (by kernel_rfl) (of_decide_eq_true (by kernel_rfl)) (by kernel_rfl) (by kernel_rfl) (Eq.mpr (same142 v0 v1 k w) h)

def pl143 : Plans := fun _ => ⟨false, [], .nil⟩
def S143 (v0 v1 : Value) (k : Value → World → Prop) (w : World) : Prop :=
 Do Try.prog (sBox 26 v0) (fun t1 w2 =>
 Do Try.prog (zw_ 26) (fun t3 w4 =>
 Rd Try.prog (WS.at w4) (zc_ 26 t1) fun t5 =>
 CallK Try.prog 127 [t5] (fun t6 w7 =>
 Rd Try.prog (WS.at w7) (sUn .not t6) fun t8 =>
 zb_ t8 false (fun k w' => k v1 w') (fun t9 w10 =>
 zb_ t8 false (fun k w' => Rd Try.prog (WS.at w10) (za_ 26 t1 2) fun v => k v w') (fun t11 w12 =>
 zb_ t8 false (fun k w' => Rd Try.prog (WS.at w12) (zc_ 24 t11) fun v => k v w') (fun t13 w14 =>
 zb_ t8 false (fun k w' => Rd Try.prog (WS.at w14) (ze_ .len #[24] 3 [false] [t13]) fun v => k v w') (fun t15 w16 =>
 zb_ t8 false (fun k w' => Rd Try.prog (WS.at w16) (sBin .sub 3 true t15 (.int .i64 1)) fun v => k v w') (fun t17 w18 =>
 zb_ t8 false (fun k w' => CallK Try.prog 152 [t9, (.int .i64 0), t17] k w') (fun t19 w20 =>
 zb_ t8 false (fun k w' => Rd Try.prog (WS.at w20) (sUn .not t19) fun v => k v w') (fun t21 w22 =>
 Rd Try.prog (WS.at w22) (zeb_ t8 (.bool true) t21) fun t23 =>
 zm_ t23
  (Rd Try.prog (WS.at w22) (zy_ 26 []) fun t24 =>
  Do Try.prog (zi_ 26 t3 t24) (fun _ w25 =>
  Rd Try.prog (WS.at w25) (zib_ 26 t3) fun t26 => k (.tuple #[t26, (.bool false)]) w25) w22)
  (Rd Try.prog (WS.at w22) (zc_ 26 t1) fun t27 =>
  CallK Try.prog 236 [t27] (fun t28 w29 =>
  Do Try.prog (zw_ 26) (fun t30 w31 =>
  Do Try.prog (zi_ 26 t30 t28) (fun _ w32 =>
  Do Try.prog (zh_ 24 0 []) (fun t33 w34 =>
  Rd Try.prog (WS.at w34) (za_ 26 t30 2) fun t35 =>
  Rd Try.prog (WS.at w34) (zc_ 24 t35) fun t36 =>
  Rd Try.prog (WS.at w34) (zec_ 24 t36 none (some v1) none) fun t37 =>
  Do Try.prog (ze_ .append #[24, 24] 24 [false, false] [t33, t37]) (fun t38 w39 =>
  Rd Try.prog (WS.at w39) (za_ 26 t30 2) fun t40 =>
  Rd Try.prog (WS.at w39) (zc_ 24 t40) fun t41 =>
  Rd Try.prog (WS.at w39) (sBin .add 3 true v1 (.int .i64 1)) fun t42 =>
  Rd Try.prog (WS.at w39) (zec_ 24 t41 (some t42) none none) fun t43 =>
  Do Try.prog (ze_ .append #[24, 24] 24 [false, false] [t38, t43]) (fun t44 w45 =>
  Rd Try.prog (WS.at w45) (za_ 26 t30 2) fun t46 =>
  Do Try.prog (zi_ 24 t46 t44) (fun _ w47 =>
  Rd Try.prog (WS.at w47) (zc_ 26 t30) fun t48 =>
  Do Try.prog (zi_ 26 t3 t48) (fun _ w49 =>
  Rd Try.prog (WS.at w49) (zib_ 26 t3) fun t50 => k (.tuple #[t50, (.bool true)]) w49) w47) w45) w39) w34) w32) w31) w29) w22)) w20) w18) w16) w14) w12) w10) w7) w4) w2) w
theorem body143 : Try.f143.body = some (zg_ Try.f143) := by kernel_rfl
theorem same143 (v0 v1 : Value) (k : Value → World → Prop) (w : World) : wpF Try.prog pl143 (zg_ Try.f143) (zr_ Try.prog Try.f143.results.toList k) (zp_ [v0, v1]) w = S143 v0 v1 k w := by kernel_rfl
theorem enter143 {v0 v1 : Value} {k : Value → World → Prop} {w : World} (h : S143 v0 v1 k w) : CallK Try.prog 143 [v0, v1] k w :=
  call_of_wpF (pl := pl143) mixed Try.func143 body143 (by kernel_rfl) (of_decide_eq_true (by kernel_rfl)) (by kernel_rfl) (by kernel_rfl) (Eq.mpr (same143 v0 v1 k w) h)

def pl144 : Plans := fun i => match i with
  | 6 => ⟨false, [10], .step 0 .any (.step 1 .held (.step 2 .any (.step 3 .any (.step 4 .held (.step 5 .any (.step 6 .held (.step 7 .any (.step 8 .any (.step 9 .held (.step 10 .last (.step 11 .any (.nil))))))))))))⟩
  | _ => ⟨false, [], .nil⟩
def S144 (v0 v1 : Value) (k : Value → World → Prop) (w : World) : Prop :=
 Do Try.prog (sBox 26 v0) (fun t1 w2 =>
 Do Try.prog (sBox 26 v1) (fun t3 w4 =>
 Rd Try.prog (WS.at w4) (za_ 26 t1 0) fun t5 =>
 Rd Try.prog (WS.at w4) (zc_ 3 t5) fun t6 =>
 Rd Try.prog (WS.at w4) (za_ 26 t3 0) fun t7 =>
 Rd Try.prog (WS.at w4) (zc_ 3 t7) fun t8 =>
 Rd Try.prog (WS.at w4) (sBin .neq 3 false t6 t8) fun t9 =>
 zb_ t9 false (fun k w' => Rd Try.prog (WS.at w4) (za_ 26 t1 1) fun v => k v w') (fun t10 w11 =>
 zb_ t9 false (fun k w' => Rd Try.prog (WS.at w11) (zc_ 3 t10) fun v => k v w') (fun t12 w13 =>
 zb_ t9 false (fun k w' => Rd Try.prog (WS.at w13) (za_ 26 t3 1) fun v => k v w') (fun t14 w15 =>
 zb_ t9 false (fun k w' => Rd Try.prog (WS.at w15) (zc_ 3 t14) fun v => k v w') (fun t16 w17 =>
 zb_ t9 false (fun k w' => Rd Try.prog (WS.at w17) (sBin .neq 3 false t12 t16) fun v => k v w') (fun t18 w19 =>
 Rd Try.prog (WS.at w19) (zeb_ t9 (.bool true) t18) fun t20 =>
 zb_ t20 false (fun k w' => Rd Try.prog (WS.at w19) (za_ 26 t1 2) fun v => k v w') (fun t21 w22 =>
 zb_ t20 false (fun k w' => Rd Try.prog (WS.at w22) (zc_ 24 t21) fun v => k v w') (fun t23 w24 =>
 zb_ t20 false (fun k w' => Rd Try.prog (WS.at w24) (ze_ .len #[24] 3 [false] [t23]) fun v => k v w') (fun t25 w26 =>
 zb_ t20 false (fun k w' => Rd Try.prog (WS.at w26) (za_ 26 t3 2) fun v => k v w') (fun t27 w28 =>
 zb_ t20 false (fun k w' => Rd Try.prog (WS.at w28) (zc_ 24 t27) fun v => k v w') (fun t29 w30 =>
 zb_ t20 false (fun k w' => Rd Try.prog (WS.at w30) (ze_ .len #[24] 3 [false] [t29]) fun v => k v w') (fun t31 w32 =>
 zb_ t20 false (fun k w' => Rd Try.prog (WS.at w32) (sBin .neq 3 false t25 t31) fun v => k v w') (fun t33 w34 =>
 Rd Try.prog (WS.at w34) (zeb_ t20 (.bool true) t33) fun t35 =>
 zm_ t35
  (k (.bool false) w34)
  (Rd Try.prog (WS.at w34) (za_ 26 t1 2) fun t36 =>
  Rd Try.prog (WS.at w34) (zc_ 24 t36) fun t37 =>
  Rd Try.prog (WS.at w34) (ze_ .len #[24] 3 [false] [t37]) fun t38 =>
  zrb_ [31, 32, 5, 33, 34, 35, 36, 37, 38, 39, 40, 41, 42, 43, 44, 4, 45, 30] (fun Q39 f40 w41 =>
   Rd Try.prog (WS.at w41) (sBin .lss 3 false (f40 30) (f40 29)) fun t42 =>
   zm_ t42
    (Rd Try.prog WS.any (za_ 26 (f40 2) 2) fun t43 =>
    Rd Try.prog (WS.at w41.drew) (zc_ 24 t43) fun t44 =>
    Rd Try.prog WS.any (zf_ 24 t44 (f40 30)) fun t45 =>
    Rd Try.prog (WS.at w41.drew) (zc_ 33 t45) fun t46 =>
    Rd Try.prog WS.any (za_ 26 (f40 3) 2) fun t47 =>
    Rd Try.prog (WS.at w41.drew) (zc_ 24 t47) fun t48 =>
    Rd Try.prog WS.any (zf_ 24 t48 (f40 30)) fun t49 =>
    Rd Try.prog (WS.at w41.drew) (zc_ 33 t49) fun t50 =>
    CallK Try.prog 239 [t46, t50] (fun t51 w52 =>
    Rd Try.prog WS.any (sUn .not t51) fun t53 =>
    zm_ t53
     (Q39 .ret (F.upd (F.upd (F.upd (F.upd (F.upd (F.upd (F.upd (F.upd (F.upd (F.upd (F.upd (F.upd (F.upd (F.upd (F.upd (F.upd f40 31 t42) 32 (f40 30)) 5 (f40 30)) 33 t43) 34 t44) 35 (f40 30)) 36 t45) 37 t46) 38 t47) 39 t48) 40 (f40 30)) 41 t49) 42 t50) 43 t51) 44 t53) 4 (.bool false)) w52)
     (Rd Try.prog (WS.at w52) (sBin .add 3 true (f40 30) (.int .i64 1)) fun t54 =>
     Q39 .normal (F.upd (F.upd (F.upd (F.upd (F.upd (F.upd (F.upd (F.upd (F.upd (F.upd (F.upd (F.upd (F.upd (F.upd (F.upd (F.upd (F.upd f40 31 t42) 32 (f40 30)) 5 (f40 30)) 33 t43) 34 t44) 35 (f40 30)) 36 t45) 37 t46) 38 t47) 39 t48) 40 (f40 30)) 41 t49) 42 t50) 43 t51) 44 t53) 45 t54) 30 t54) w52)) w41.drew)
    (Q39 (.exit 0) (F.upd f40 31 t42) w41))
   (zx_ 0 (seqQ (fun f55 w56 =>
  k (.bool true) w56) (zr_ Try.prog [.tmp 4] k)))
   (F.upd (F.upd (F.upd (F.upd (F.upd (F.upd (F.upd (F.upd (F.upd (F.upd (F.upd (F.upd (F.upd (F.upd (F.upd (F.upd (F.upd (F.upd (F.upd (F.upd (F.upd (F.upd (F.upd (F.upd (F.upd (F.upd (F.upd (F.upd (zp_ [v0, v1]) 2 t1) 3 t3) 4 (.bool false)) 6 t5) 7 t6) 8 t7) 9 t8) 10 t9) 11 t9) 12 t10) 13 t12) 14 t14) 15 t16) 16 t18) 17 t20) 18 t20) 19 t21) 20 t23) 21 t25) 22 t27) 23 t29) 24 t31) 25 t33) 26 t35) 27 t36) 28 t37) 29 t38) 30 (.int .i64 0)) w34)) w32) w30) w28) w26) w24) w22) w19) w17) w15) w13) w11) w4) w2) w
theorem body144 : Try.f144.body = some (zg_ Try.f144) := by kernel_rfl
theorem same144 (v0 v1 : Value) (k : Value → World → Prop) (w : World) : wpF Try.prog pl144 (zg_ Try.f144) (zr_ Try.prog Try.f144.results.toList k) (zp_ [v0, v1]) w = S144 v0 v1 k w := by kernel_rfl
theorem enter144 {v0 v1 : Value} {k : Value → World → Prop} {w : World} (h : S144 v0 v1 k w) : CallK Try.prog 144 [v0, v1] k w :=
  call_of_wpF (pl := pl144) mixed Try.func144 body144 (by kernel_rfl) (of_decide_eq_true (by kernel_rfl)) (by kernel_rfl) (by kernel_rfl) (Eq.mpr (same144 v0 v1 k w) h)


def pl236 : Plans := fun i => match i with
  | 5 => ⟨true, [9, 11], .step 0 .any (.step 1 .held (.step 2 .any (.step 3 .held (.step 4 .any (.step 5 .held (.step 6 .one (.step 7 .any (.step 8 .one (.step 9 .last (.step 10 .any (.step 11 .last (.nil))))))))))))⟩
  | _ => ⟨false, [], .nil⟩
def S236 (v0 : Value) (k : Value → World → Prop) (w : World) : Prop :=
 Do Try.prog (sBox 26 v0) (fun t1 w2 =>
 Do Try.prog (zw_ 26) (fun t3 w4 =>
 Rd Try.prog (WS.at w4) (za_ 26 t1 0) fun t5 =>
 Rd Try.prog (WS.at w4) (zc_ 3 t5) fun t6 =>
 Rd Try.prog (WS.at w4) (za_ 26 t1 1) fun t7 =>
 Rd Try.prog (WS.at w4) (zc_ 3 t7) fun t8 =>
 Rd Try.prog (WS.at w4) (zy_ 26 [(0, t6), (1, t8)]) fun t9 =>
 Do Try.prog (zw_ 26) (fun t10 w11 =>
 Do Try.prog (zi_ 26 t10 t9) (fun _ w12 =>
 Rd Try.prog (WS.at w12) (za_ 26 t1 2) fun t13 =>
 Rd Try.prog (WS.at w12) (zc_ 24 t13) fun t14 =>
 Rd Try.prog (WS.at w12) (ze_ .len #[24] 3 [false] [t14]) fun t15 =>
 zrb_ [15, 16, 17, 5, 18, 19, 20, 21, 22, 23, 24, 25, 26, 27, 28, 29, 14] (fun Q16 f17 w18 =>
  Rd Try.prog (WS.at w18) (sBin .lss 3 false (f17 14) (f17 13)) fun t19 =>
  zm_ t19
   (Rd Try.prog (WS.at w18) (zf_ 24 (f17 12) (f17 14)) fun t20 =>
   Rd Try.prog (WS.at w18) (zc_ 33 t20) fun t21 =>
   Do Try.prog (zw_ 33) (fun t22 w23 =>
   Do Try.prog (zi_ 33 t22 t21) (fun _ w24 =>
   ∃ U25 : World → Prop, ∃ h26 : U25 w24.drew,
   Rd Try.prog WS.any (za_ 26 (f17 3) 2) fun t27 =>
   Rd Try.prog ⟨U25, w24.drew, h26⟩ (zc_ 24 t27) fun t28 =>
   Rd Try.prog WS.any (za_ 33 t22 0) fun t29 =>
   Rd Try.prog ⟨U25, w24.drew, h26⟩ (zc_ 3 t29) fun t30 =>
   Rd Try.prog WS.any (za_ 33 t22 1) fun t31 =>
   Rd Try.prog ⟨U25, w24.drew, h26⟩ (zc_ 27 t31) fun t32 =>
   CallK Try.prog 158 [t32] (fun t33 w34 =>
   U25 w34 ∧ Rd Try.prog WS.any (zy_ 33 [(0, t30), (1, t33)]) fun t35 =>
   Do Try.prog (zh_ 24 1 [(0, t35)]) (fun t36 w37 =>
   U25 w37 ∧ Do Try.prog (ze_ .append #[24, 24] 24 [false, false] [t28, t36]) (fun t38 w39 =>
   Rd Try.prog WS.any (za_ 26 (f17 3) 2) fun t40 =>
   Do Try.prog (zi_ 24 t40 t38) (fun _ w41 =>
   Rd Try.prog (WS.at w41) (sBin .add 3 true (f17 14) (.int .i64 1)) fun t42 =>
   Q16 .normal (F.upd (F.upd (F.upd (F.upd (F.upd (F.upd (F.upd (F.upd (F.upd (F.upd (F.upd (F.upd (F.upd (F.upd (F.upd (F.upd (F.upd f17 15 t19) 16 t20) 17 t21) 5 t22) 18 t27) 19 t28) 20 t29) 21 t30) 22 t31) 23 t32) 24 t33) 25 t35) 26 t36) 27 t38) 28 t40) 29 t42) 14 t42) w41) w39) w37) w34) w24.drew) w23) w18)
   (Q16 (.exit 0) (F.upd f17 15 t19) w18))
  (zx_ 0 (seqQ (fun f43 w44 =>
 Rd Try.prog (WS.at w44) (zc_ 26 (f43 3)) fun t45 =>
 Do Try.prog (zi_ 26 (f43 2) t45) (fun _ w46 =>
 Rd Try.prog (WS.at w46) (zib_ 26 (f43 2)) fun t47 => k t47 w46) w44) (zr_ Try.prog [.cell 2 26] k)))
  (F.upd (F.upd (F.upd (F.upd (F.upd (F.upd (F.upd (F.upd (F.upd (F.upd (F.upd (F.upd (zp_ [v0]) 1 t1) 2 t3) 6 t5) 7 t6) 8 t7) 9 t8) 10 t9) 3 t10) 11 t13) 12 t14) 13 t15) 14 (.int .i64 0)) w12) w11) w4) w2) w
theorem body236 : Try.f236.body = some (zg_ Try.f236) := by kernel_rfl
theorem same236 (v0 : Value) (k : Value → World → Prop) (w : World) : wpF Try.prog pl236 (zg_ Try.f236) (zr_ Try.prog Try.f236.results.toList k) (zp_ [v0]) w = S236 v0 k w := by kernel_rfl
theorem enter236 {v0 : Value} {k : Value → World → Prop} {w : World} (h : S236 v0 k w) : CallK Try.prog 236 [v0] k w :=
  call_of_wpF (pl := pl236) mixed Try.func236 body236 (by kernel_rfl) (of_decide_eq_true (by kernel_rfl)) (by kernel_rfl) (by kernel_rfl) (Eq.mpr (same236 v0 k w) h)

def pl237 : Plans := fun _ => ⟨false, [], .nil⟩
def S237 (v0 : Value) (k : Value → World → Prop) (w : World) : Prop :=
 Rd Try.prog (WS.at w) (ze_ .len #[27] 3 [false] [v0]) fun t1 =>
 Rd Try.prog (WS.at w) (sBin .sub 3 true t1 (.int .i64 1)) fun t2 =>
 zrb_ [8, 9, 12, 13, 14, 15, 16, 17, 18, 3, 10, 11, 4] (fun Q3 f4 w5 =>
  Rd Try.prog (WS.at w5) (sBin .geq 3 true (f4 4) (.int .i64 0)) fun t6 =>
  zm_ t6
   (Rd Try.prog (WS.at w5) (zf_ 27 (f4 0) (f4 4)) fun t7 =>
   Rd Try.prog (WS.at w5) (zc_ 3 t7) fun t8 =>
   Do Try.prog (zh_ 27 1 [(0, t8)]) (fun t9 w10 =>
   Do Try.prog (ze_ .append #[27, 27] 27 [false, false] [(f4 3), t9]) (fun t11 w12 =>
   Rd Try.prog (WS.at w12) (sBin .sub 3 true (f4 4) (.int .i64 1)) fun t13 =>
   Q3 .normal (F.upd (F.upd (F.upd (F.upd (F.upd (F.upd (F.upd (F.upd (F.upd (F.upd (F.upd (F.upd (F.upd f4 8 (f4 4)) 9 t6) 12 (f4 3)) 13 (f4 0)) 14 (f4 4)) 15 t7) 16 t8) 17 t9) 18 t11) 3 t11) 10 (f4 4)) 11 t13) 4 t13) w12) w10) w5)
   (Q3 (.exit 0) (F.upd (F.upd f4 8 (f4 4)) 9 t6) w5))
  (zx_ 0 (seqQ (fun f14 w15 =>
 k (f14 3) w15) (zr_ Try.prog [.tmp 2] k)))
  (F.upd (F.upd (F.upd (F.upd (F.upd (F.upd (zp_ [v0]) 2 (.slice none 0 0)) 3 (.slice none 0 0)) 5 v0) 6 t1) 7 t2) 4 t2) w
theorem body237 : Try.f237.body = some (zg_ Try.f237) := by kernel_rfl
theorem same237 (v0 : Value) (k : Value → World → Prop) (w : World) : wpF Try.prog pl237 (zg_ Try.f237) (zr_ Try.prog Try.f237.results.toList k) (zp_ [v0]) w = S237 v0 k w := by kernel_rfl
theorem enter237 {v0 : Value} {k : Value → World → Prop} {w : World} (h : S237 v0 k w) : CallK Try.prog 237 [v0] k w :=
  call_of_wpF (pl := pl237) mixed Try.func237 body237 (by kernel_rfl) (of_decide_eq_true (by kernel_rfl)) (by kernel_rfl) (by kernel_rfl) (Eq.mpr (same237 v0 k w) h)

def pl241 : Plans := fun _ => ⟨false, [], .nil⟩
def S241 (v0 v1 v2 : Value) (k : Value → World → Prop) (w : World) : Prop :=
 Rd Try.prog (WS.at w) (ze_ .len #[24] 3 [false] [v0]) fun t1 =>
 Rd Try.prog (WS.at w) (ze_ .len #[24] 3 [false] [v1]) fun t2 =>
 Rd Try.prog (WS.at w) (sBin .neq 3 false t1 t2) fun t3 =>
 zm_ t3
  (k (.bool false) w)
  (Rd Try.prog (WS.at w) (ze_ .len #[24] 3 [false] [v0]) fun t4 =>
  zrb_ [18, 19, 20, 21, 8, 7, 22, 23, 24, 25, 9, 26, 27, 28, 29, 30, 6, 31, 17] (fun Q5 f6 w7 =>
   Rd Try.prog (WS.at w7) (sBin .lss 3 false (f6 17) (f6 16)) fun t8 =>
   zm_ t8
    (Rd Try.prog (WS.at w7) (zf_ 24 (f6 15) (f6 17)) fun t9 =>
    Rd Try.prog (WS.at w7) (zc_ 33 t9) fun t10 =>
    Do Try.prog (zw_ 33) (fun t11 w12 =>
    Do Try.prog (zi_ 33 t11 t10) (fun _ w13 =>
    Rd Try.prog (WS.at w13) (zf_ 24 (f6 1) (f6 17)) fun t14 =>
    Rd Try.prog (WS.at w13) (zc_ 33 t14) fun t15 =>
    Do Try.prog (zw_ 33) (fun t16 w17 =>
    Do Try.prog (zi_ 33 t16 t15) (fun _ w18 =>
    Rd Try.prog (WS.at w18) (zc_ 33 t11) fun t19 =>
    Rd Try.prog (WS.at w18) (zc_ 33 t16) fun t20 =>
    Do Try.prog (zff_ (f6 2) [t19, t20] 4) (fun t21 w22 =>
    Rd Try.prog (WS.at w22) (sUn .not t21) fun t23 =>
    zm_ t23
     (Q5 .ret (F.upd (F.upd (F.upd (F.upd (F.upd (F.upd (F.upd (F.upd (F.upd (F.upd (F.upd (F.upd (F.upd (F.upd (F.upd (F.upd (F.upd f6 18 t8) 19 (f6 17)) 20 t9) 21 t10) 8 t11) 7 (f6 17)) 22 (f6 1)) 23 (f6 17)) 24 t14) 25 t15) 9 t16) 26 (f6 2)) 27 t19) 28 t20) 29 t21) 30 t23) 6 (.bool false)) w22)
     (Rd Try.prog (WS.at w22) (sBin .add 3 true (f6 17) (.int .i64 1)) fun t24 =>
     Q5 .normal (F.upd (F.upd (F.upd (F.upd (F.upd (F.upd (F.upd (F.upd (F.upd (F.upd (F.upd (F.upd (F.upd (F.upd (F.upd (F.upd (F.upd (F.upd f6 18 t8) 19 (f6 17)) 20 t9) 21 t10) 8 t11) 7 (f6 17)) 22 (f6 1)) 23 (f6 17)) 24 t14) 25 t15) 9 t16) 26 (f6 2)) 27 t19) 28 t20) 29 t21) 30 t23) 31 t24) 17 t24) w22)) w18) w17) w13) w12) w7)
    (Q5 (.exit 0) (F.upd f6 18 t8) w7))
   (zx_ 0 (seqQ (fun f25 w26 =>
  k (.bool true) w26) (zr_ Try.prog [.tmp 6] k)))
   (F.upd (F.upd (F.upd (F.upd (F.upd (F.upd (F.upd (F.upd (F.upd (zp_ [v0, v1, v2]) 6 (.bool false)) 10 v0) 11 t1) 12 v1) 13 t2) 14 t3) 15 v0) 16 t4) 17 (.int .i64 0)) w)
theorem body241 : Try.f241.body = some (zg_ Try.f241) := by kernel_rfl
theorem same241 (v0 v1 v2 : Value) (k : Value → World → Prop) (w : World) : wpF Try.prog pl241 (zg_ Try.f241) (zr_ Try.prog Try.f241.results.toList k) (zp_ [v0, v1, v2]) w = S241 v0 v1 v2 k w := by kernel_rfl
theorem enter241 {v0 v1 v2 : Value} {k : Value → World → Prop} {w : World} (h : S241 v0 v1 v2 k w) : CallK Try.prog 241 [v0, v1, v2] k w :=
  call_of_wpF (pl := pl241) mixed Try.func241 body241 (by kernel_rfl) (of_decide_eq_true (by kernel_rfl)) (by kernel_rfl) (by kernel_rfl) (Eq.mpr (same241 v0 v1 v2 k w) h)

end Go.Proofs.Ytegcjkhebecgbaa

namespace Go.Sh
open Go
def zud_ (gm : Gram) : Gram × Bool := if zv_ gm then (⟨gm.nons, gm.toks, gm.rules.map revR⟩, true) else (⟨0, 0, []⟩, false)
theorem zjg_ {rs qs : List RuleL} {i : Nat} (hl : rs.length = qs.length) : (rs.take i ++ qs.drop i).length = qs.length := by
  simp only [List.length_append, List.length_take, List.length_drop]
  omega
section
variable {P : Program} {w : World} {e1 e2 B c t j : Nat} {X : Option Addr} {rs : List RuleL} {ps : Nat → Option Addr × Nat}
theorem OwnR.cell2 (h : OwnR e1 e2 w B X c rs ps) (hj : j < rs.length) : w.cell? ((ad X).add (j * 2)) = some (.int .i64 (rul rs j).1) ∧ w.cell? ((ad X).add (j * 2 + 1)) = some (.slice (ps j).1 (rul rs j).2.length (ps j).2) := by
  obtain ⟨cells, hr, hc⟩ := h.cells
  obtain ⟨h1, h2⟩ := hc.2 j hj
  exact ⟨(Row.src hr).cell _ _ h1, (Row.src hr).cell _ _ h2⟩
theorem OwnR.ptr (h : OwnR e1 e2 w B X c rs ps) : 0 < rs.length → X = some (ad X) := h.read.ptr
theorem ld_ruleO (ht : agg P t) (hs : szOf P t 2) (h : OwnR e1 e2 w B X c rs ps) (hj : j < rs.length) {k : Value → Prop} :
    Rd P (WS.at w) (zc_ t (.pointer (some ((ad X).add (j * 2))))) k = k (.agg #[.int .i64 (rul rs j).1, .slice (ps j).1 (rul rs j).2.length (ps j).2]) := by
  obtain ⟨h1, h2⟩ := h.cell2 hj
  rw [zfh_ ht hs (cs := [.int .i64 (rul rs j).1, .slice (ps j).1 (rul rs j).2.length (ps j).2]) rfl]
  intro i hi
  match i, hi with
  | 0, _ => rw [zbc_, Nat.add_zero]; exact h1
  | 1, _ => rw [zbc_]; exact h2
end
end Go.Sh
namespace Go.Proofs.Ytegcjkhebecgbaa
open Go Go.Sh Go.RowKit
theorem zwp_ {F : Nat → Prop} {w : World} {v : Value} {gm : Gram} (hv : GramV F w v gm) (hgl : gm.rules.length ≤ 1000) (hgr : ∀ i, i < gm.rules.length → (rul gm.rules i).2.length ≤ 1000) {k : Value → World → Prop}
    (hk : ∀ v w', Gr w w' → GramO w' w.heap.size v gm → k v w') : CallK Try.prog 236 [v] k w := by
  obtain ⟨Y, c, rfl, hc, hy⟩ := hv
  refine enter236 ?_
  unfold S236
  refine zwb_ fun b1 w1 g1 hb1 h1 => ?_
  refine zmb_ zdc_ fun b3 w2 g2 hb3 h3 => ?_
  have n3 := h1.ne hb3
  have h1 := h1.gr g2
  have q3 := Nat.le_trans g1.size hb3
  simp only [go_sem, Nat.reduceEqDiff]
  rw [ldB3 h1 rfl, ldB3 h1 rfl]
  rw [bd26 (cells := #[.int .i64 gm.nons, .int .i64 gm.toks, .slice none 0 0]) rfl]
  refine zmb_ zdc_ fun b4 w4 g4 hb4 h4 => ?_
  have n4 := h3.ne hb4
  have n14 := h1.ne hb4
  have q4 := Nat.le_trans (zd_ g1 g2).size hb4
  refine zfb_ sz26 rfl (by intro u hu; simp [Value.cells] at hu; rcases hu with rfl | rfl | rfl <;> rfl) h4 (by simp [Value.cells]) fun w5 g5 s5 h4 => ?_
  have h1 := (h1.gr g4).put g5 n14
  have h3 := (h3.gr g4).put g5 n4
  have g := zpb_ (zd_ (zd_ g1 g2) g4) g5 q4
  rw [zyb_ h1 rfl]
  simp only [go_sem, Nat.reduceEqDiff]
  refine ⟨fun f w' => ∃ (i : Nat) (X : Option Addr) (e : Nat) (ps : Nat → Option Addr × Nat), i ≤ gm.rules.length ∧ f 14 = .int .i64 i ∧ Gr w w' ∧ Box w' b3 [.int .i64 0, .int .i64 0, .slice none 0 0] 26 ∧ Box w' b4 [.int .i64 gm.nons, .int .i64 gm.toks, .slice X i e] 26 ∧ OwnR 33 3 w' w.heap.size X e (gm.rules.take i) ps, fun f _ => gm.rules.length - (intOf (f 14)).toNat,
    ⟨0, none, 0, fun _ => (none, 0), Nat.zero_le _, rfl, g, h3, h4, ⟨[], Row.nil _ _ _ _, fun j hj => by simp at hj⟩, fun j hj => by simp at hj, fun i j hi => by simp at hi⟩, ?_⟩
  rintro f w6 hag ⟨i, X, e, ps, hi, h14, g6, hb3', hb4', o6⟩
  have f2 : f 2 = .pointer (some ⟨b3, 0, none⟩) := hag 2 (by decide)
  have f3 : f 3 = .pointer (some ⟨b4, 0, none⟩) := hag 3 (by decide)
  have f12 : f 12 = .slice Y gm.rules.length c := hag 12 (by decide)
  have f13 : f 13 = .int .i64 gm.rules.length := hag 13 (by decide)
  have hlen : (gm.rules.take i).length = i := by simp; omega
  simp only [f2, f3, f12, f13, h14, go_sem, Nat.reduceEqDiff]
  by_cases hlt : i < gm.rules.length
  rotate_left
  · simp only [show ¬ (i : Int) < gm.rules.length from by omega, decide_false, go_sem, Nat.reduceEqDiff]
    obtain rfl : i = gm.rules.length := by omega
    rw [List.take_length] at o6
    rw [zj_ zu_ sz26 rfl hb4']
    refine zfb_ sz26 rfl (by intro u hu; simp [Value.cells] at hu; rcases hu with rfl | rfl | rfl <;> rfl) hb3' (by simp [Value.cells]) fun w7 g7 s7 h7 => ?_
    rw [zcb_, zj_ zu_ sz26 rfl h7]
    exact hk _ w7 (zpb_ g6 g7 q3) ⟨X, e, ps, rfl, o6.put hb3' (by decide) (by decide) g7⟩
  have hlt' : (i : Int) < gm.rules.length := by omega
  simp only [hlt', decide_true, go_sem, Nat.reduceEqDiff]
  rw [zic_ hy.ptr hlt]
  refine zce_ zhc_ sz33 (hy.gr g6) hlt fun v hv => ?_
  obtain ⟨Z, z, rfl, hz0, hz⟩ := hv
  have hz4 := hgr i hlt
  refine zmb_ zxb_ fun b7 w7 g7 hb7 h7 => ?_
  refine zfb_ sz33 rfl (by intro u hu; simp [Value.cells] at hu; rcases hu with rfl | rfl <;> rfl) h7 (by simp [Value.cells]) fun w8 g8 s8 h8 => ?_
  have g68 := zpb_ g7 g8 hb7
  have gd := zfc_ w8
  have g6d := zd_ g68 gd
  refine ⟨fun w' => Gr w8.drew w', Gr.refl _, ?_⟩
  simp only [go_sem, Nat.reduceEqDiff]
  rw [ldS24 (fun w' hw' => ((hb4'.gr g6d).gr hw').cell 2), ldS3 (fun w' hw' => ((h8.gr gd).gr hw').cell 0), ldS27 (fun w' hw' => ((h8.gr gd).gr hw').cell 1)]
  refine zyh_ (hz.is.gr g6d) rfl (by omega) fun U u w10 gd10 o10 => ?_
  refine ⟨gd10, ?_⟩
  rw [bd33 (cells := #[.int .i64 (rul gm.rules i).1, .slice U (rul gm.rules i).2.length u]) rfl]
  refine bs24 [.int .i64 (rul gm.rules i).1, .slice U (rul gm.rules i).2.length u] (by decide) (by simp [Instr.fill, madeCells, Value.cells, rng2]) rfl fun b11 w11 hb11 hb11' g11 hbox11 hrow11 => ?_
  have gd11 := zd_ gd10 g11
  refine ⟨gd11, ?_⟩
  have g611 := zd_ g6d gd11
  have gw11 := zd_ g6 g611
  have hN : RCells [.int .i64 (rul gm.rules i).1, .slice U (rul gm.rules i).2.length u] [rul gm.rules i] (fun _ => (U, u)) := ⟨rfl, fun j hj => by
    obtain rfl : j = 0 := by simpa using hj
    exact ⟨rfl, rfl⟩⟩
  have hX4 : blk X ≠ some b4 ∧ blk X ≠ some b3 := by
    obtain ⟨cells, hr, _⟩ := (o6.gr g611).cells
    exact ⟨zrc_ (hb4'.gr g611) hr (by decide), zrc_ (hb3'.gr g611) hr (by decide)⟩
  refine zjh_ (ps := ps) (rs := gm.rules.take i) (qs := [rul gm.rules i]) u24 zxb_ rfl (by decide) hlen.symm rfl (o6.gr g611) (Row.src (hrow11 _ (Nat.le_refl _))) hN (fun j hj => ?_) (fun i j hi hj hij => ?_) (fun i' j hi' hj => ?_) (by rw [hlen]; simp; omega) (by rw [hlen]; simp; omega) gw11.size fun X' c' w12 g12 o12 _ => ?_
  · obtain rfl : j = 0 := by simpa using hj
    exact Row.mono (Row.gr o10 g11) (zd_ g6 g6d).size
  · simp at hi hj
    omega
  · exact blk_ne (fun q hq => (Row.ge (o6.own i' hi') hq).2) (fun q hq => (Row.ge o10 hq).1) g6d.size
  have hb412 := (hb4'.gr g611).kept g12 hX4.1
  have hb312 := (hb3'.gr g611).kept g12 hX4.2
  refine zfb_ sz24 rfl (by intro u hu; simp [Value.cells] at hu; subst hu; rfl) hb412 (by simp [Value.cells]) fun w13 g13 s13 hb413 => ?_
  have gw12 : Gr w w12 := zaf_ gw11 g12 fun q hq => by
    obtain ⟨cells, hr, _⟩ := o6.row
    exact (Row.ge hr hq).1
  rw [zt_ (by omega) (by omega)]
  refine ⟨⟨i + 1, X', c', _, hlt, rfl, zpb_ gw12 g13 q4, hb312.put g13 n4, by simpa [Value.cells] using hb413, by
    rw [zck_ hlt]
    exact o12.put hb412 (by decide) (by decide) g13⟩, ?_⟩
  simp only [intOf]
  omega
theorem zuk_ {F : Nat → Prop} {w : World} {v : Value} {gm : Gram} (hv : GramV F w v gm) (hg : zv_ gm = true) {k : Value → World → Prop}
    (hk : ∀ v w', Gr w w' → GramO w' w.heap.size v gm → k v w') : CallK Try.prog 236 [v] k w :=
  zwp_ hv (by have := zyc_ hg; omega) (fun i hi => by have := zid_ hg i hi; omega) hk
theorem ownK {e1 e2 : Nat} {w : World} {B c : Nat} {X : Option Addr} {rs : List RuleL} {ps : Nat → Option Addr × Nat} (h : OwnR e1 e2 w B X c rs ps) : kG X c rs w := ⟨h.readG.1, h.readG.2.mono fun _ _ => trivial⟩
theorem kG_nil {w : World} : kG none 0 [] w := ⟨Nat.le_refl _, ⟨by simp, fun h => by simp at h, fun h => by simp at h, fun j hj => by simp at hj⟩⟩
theorem zap_ {F : Nat → Prop} {w : World} {v : Value} {gm : Gram} (hv : GramV F w v gm) {k : Value → World → Prop}
    (hk : ∀ w' Z d, Gr w w' → kG Z d (zud_ gm).1.rules w' → k (.tuple #[grv (zud_ gm).1 Z d, .bool (zud_ gm).2]) w') :
    CallK Try.prog 125 [v] k w := by
  obtain ⟨Y, c, rfl, hc, hy⟩ := hv
  refine enter125 ?_
  unfold S125
  refine zwb_ fun b1 w1 g1 hb1 h1 => ?_
  refine zmb_ zdc_ fun b3 w2 g2 hb3 h3 => ?_
  have h1 := h1.gr g2
  have q3 := Nat.le_trans g1.size hb3
  rw [zj_ zu_ sz26 rfl h1]
  have g := zd_ g1 g2
  refine zae_ (gm := gm) ⟨Y, c, rfl, hc, hy.gr g⟩ fun w4 g4 => ?_
  have g := zd_ g g4
  have h1 := h1.gr g4
  have h3 := h3.gr g4
  cases hg : zv_ gm
  · simp only [Bool.not_false, go_sem, Nat.reduceEqDiff]
    rw [bd26 (cells := #[.int .i64 0, .int .i64 0, .slice none 0 0]) rfl]
    refine zfb_ sz26 rfl (by intro u hu; simp [Value.cells] at hu; rcases hu with rfl | rfl | rfl <;> rfl) h3 (by simp [Value.cells]) fun w5 g5 s5 h5 => ?_
    rw [zcb_, zj_ zu_ sz26 rfl h5]
    have := hk w5 none 0 (zpb_ g g5 q3)
    simp only [zud_, hg] at this
    exact this kG_nil
  simp only [Bool.not_true, go_sem, Nat.reduceEqDiff]
  rw [zj_ zu_ sz26 rfl h1]
  have hlen := zyc_ hg
  refine zvg_ (gm := gm) ⟨Y, c, rfl, hc, hy.gr g⟩ hg fun v w5 g5 hv5 => ?_
  obtain ⟨X, cx, ps, rfl, o5⟩ := hv5
  have h3 := h3.gr g5
  refine zmb_ zdc_ fun b6 w6 g6 hb6 h6 => ?_
  have n36 := h3.ne hb6
  have q6 := Nat.le_trans (zd_ g g5).size hb6
  refine zfb_ sz26 rfl (by intro u hu; simp [Value.cells] at hu; rcases hu with rfl | rfl | rfl <;> rfl) h6 (by simp [Value.cells]) fun w7 g7 s7 h7 => ?_
  have h3 := (h3.gr g6).put g7 n36
  have o7 := ((o5.mono g.size).gr g6).put h6 (by decide) (by decide) g7
  have g := zpb_ (zd_ (zd_ g g5) g6) g7 q6
  simp only [go_sem, Nat.reduceEqDiff]
  rw [zyb_ h7 rfl]
  simp only [go_sem, Nat.reduceEqDiff]
  have hrl := (List.length_map revR : (gm.rules.map revR).length = gm.rules.length)
  refine ztb_ gm.rules.length 0 (fun i f w' => i ≤ gm.rules.length ∧ f 16 = .int .i64 i ∧ Gr w w' ∧ Box w' b3 [.int .i64 0, .int .i64 0, .slice none 0 0] 26 ∧ Box w' b6 [.int .i64 gm.nons, .int .i64 gm.toks, .slice X gm.rules.length cx] 26 ∧ OwnR 33 3 w' w.heap.size X cx ((gm.rules.map revR).take i ++ gm.rules.drop i) ps) ⟨Nat.zero_le _, rfl, g, h3, by simpa [Value.cells] using h7, by simpa using o7⟩ ?_
  rintro i f w8 N hag ⟨hi, h16, g, h3, h7, o7⟩ hN
  have f2 : f 2 = .pointer (some ⟨b3, 0, none⟩) := hag 2 (by decide)
  have f4 : f 4 = .pointer (some ⟨b6, 0, none⟩) := hag 4 (by decide)
  have f14 : f 14 = .slice X gm.rules.length cx := hag 14 (by decide)
  have f15 : f 15 = .int .i64 gm.rules.length := hag 15 (by decide)
  simp only [f2, f4, f14, f15, h16, go_sem, Nat.reduceEqDiff]
  have hpl := zjg_ (i := i) hrl
  by_cases hlt : i < gm.rules.length
  case neg =>
    simp only [show ¬ (i : Int) < gm.rules.length from by omega, decide_false, go_sem, Nat.reduceEqDiff]
    obtain rfl : i = gm.rules.length := by omega
    rw [List.take_of_length_le (by omega), List.drop_length, List.append_nil] at o7
    rw [zj_ zu_ sz26 rfl h7]
    refine zfb_ sz26 rfl (by intro u hu; simp [Value.cells] at hu; rcases hu with rfl | rfl | rfl <;> rfl) h3 (by simp [Value.cells]) fun w9 g9 s9 h9 => ?_
    rw [zcb_, zj_ zu_ sz26 rfl h9]
    have := hk w9 X cx (zpb_ g g9 q3)
    simp only [zud_, hg, if_true, grv, hrl] at this
    exact this (ownK (o7.put h3 (by decide) (by decide) g9))
  have hlt' : (i : Int) < gm.rules.length := by omega
  simp only [hlt', decide_true, go_sem, Nat.reduceEqDiff]
  rw [zic_ (fun h => o7.ptr (by omega)) hlt, ld_ruleO zhc_ sz33 o7 (by omega), zuf_ hrl hlt]
  refine zmb_ zxb_ fun b9 w9 g9 hb9 h9 => ?_
  refine zfb_ sz33 rfl (by intro u hu; simp [Value.cells] at hu; rcases hu with rfl | rfl <;> rfl) h9 (by simp [Value.cells]) fun w10 g10 s10 h10 => ?_
  have g810 := zpb_ g9 g10 hb9
  simp only [go_sem, Nat.reduceEqDiff]
  rw [zpe_ h10 rfl]
  have o10 := o7.gr g810
  have oi := o10.own i (by omega)
  rw [zuf_ hrl hlt] at oi
  refine reverseI_c oi rfl fun w11 g11 oi' => ?_
  have o11 := o10.right (by decide) (by omega) (by rw [zuf_ hrl hlt]; simp) oi' g11
  have he : rul (gm.rules.map revR) i = ((rul gm.rules i).1, (rul gm.rules i).2.reverse) := zbj_ hlt
  rw [zuf_ hrl hlt, ← he, zaj_ hlt hrl] at o11
  have h3 := (h3.gr g810).kept g11 (zrc_ (h3.gr g810) oi (by decide))
  have h7 := (h7.gr g810).kept g11 (zrc_ (h7.gr g810) oi (by decide))
  rw [zt_ (by omega) (by omega)]
  exact hN _ _ hlt ⟨by omega, rfl, zaf_ (zd_ g g810) g11 fun q hq => (Row.ge oi hq).1, h3, h7, o11⟩
end Go.Proofs.Ytegcjkhebecgbaa

namespace Go.Sh
abbrev CT := Nat → Nat → Nat → Option Nat
def CT.put (T : CT) (A i j n : Nat) : CT := fun A' i' j' => if A' = A ∧ i' = i ∧ j' = j then some n else T A' i' j'
def better (n : Nat) : Option Nat → Bool
  | none => true
  | some o => decide (n < o)
abbrev GS := CT × Bool
abbrev CandG := CT → Nat → Nat → Nat → Option Nat
def stepG (c : CandG) (rs : List RuleL) (q i : Nat) (s : GS) (j : Nat) : GS :=
  match c s.1 q i j with
  | none => s
  | some n => if better n (s.1 (rul rs q).1.toNat i j) then (s.1.put (rul rs q).1.toNat i j n, true) else s
def rowG (c : CandG) (rs : List RuleL) (n q : Nat) (s : GS) (i : Nat) : GS := (List.range' i (n - i)).foldl (stepG c rs q i) s
def ruleG (c : CandG) (rs : List RuleL) (n : Nat) (s : GS) (q : Nat) : GS := (List.range n).foldl (rowG c rs n q) s
def passG (c : CandG) (rs : List RuleL) (n : Nat) (s : GS) : GS := (List.range rs.length).foldl (ruleG c rs n) s
inductive FixG (c : CandG) (rs : List RuleL) (n : Nat) : CT → CT → Prop
  | done {T : CT} : (passG c rs n (T, false)).2 = false → FixG c rs n T (passG c rs n (T, false)).1
  | more {T U : CT} : (passG c rs n (T, false)).2 = true → FixG c rs n (passG c rs n (T, false)).1 U → FixG c rs n T U
theorem FixG.det {c : CandG} {rs : List RuleL} {n : Nat} {T U V : CT} (h : FixG c rs n T U) (g : FixG c rs n T V) : U = V := by
  induction h with
  | done h1 =>
    cases g with
    | done g1 => rfl
    | more g1 g2 => rw [h1] at g1; cases g1
  | more h1 h2 ih =>
    cases g with
    | done g1 => rw [h1] at g1; cases g1
    | more g1 g2 => exact ih g2
def eB : Nat → Nat
  | 0 => 1
  | s + 1 => 100 + 4 * eB s
def gB (l s : Nat) : Nat := if l = 0 then eB s else 6749808 * (l - 1) + 562484 * s + l
def cntG (T : CT) (i j : Nat) : Nat := sumN (fun A => if (T A i j).isSome then 1 else 0) 6
theorem sumN_le {f g : Nat → Nat} : ∀ {n : Nat}, (∀ k, k < n → f k ≤ g k) → sumN f n ≤ sumN g n := by
  intro n
  induction n with
  | zero => intro _; exact Nat.le_refl _
  | succ n ih =>
    intro h
    have := ih fun k hk => h k (by omega)
    have := h n (by omega)
    rw [sumN, sumN]
    omega
theorem sumN_one {f g : Nat → Nat} {p d : Nat} : ∀ {n : Nat}, p < n → (∀ k, k < n → k ≠ p → f k = g k) → f p + d = g p → sumN f n + d = sumN g n := by
  intro n
  induction n with
  | zero => intro h; omega
  | succ n ih =>
    intro h h1 h2
    rw [sumN, sumN]
    by_cases hp : p = n
    · subst hp
      rw [zeg_ fun k hk => h1 k (by omega) (by omega)]
      omega
    · have := ih (by omega) (fun k hk => h1 k (by omega)) h2
      have := h1 n (by omega) (by omega)
      omega
theorem cntG_le (T : CT) (i j : Nat) : cntG T i j ≤ 6 := by
  have := sumN_le (f := fun A => if (T A i j).isSome then 1 else 0) (g := fun _ => 1) (n := 6) (fun k _ => by split <;> omega)
  exact this
theorem eB_mono : ∀ {s t : Nat}, s ≤ t → eB s ≤ eB t := by
  intro s t h
  induction h with
  | refl => exact Nat.le_refl _
  | step _ ih => rw [eB]; omega
theorem eB6 : eB 6 = 140596 := by decide
theorem gB_mono {l s t : Nat} (h : s ≤ t) : gB l s ≤ gB l t := by
  unfold gB
  split
  · exact eB_mono h
  · omega
theorem gB_zero (s : Nat) : gB 0 s = eB s := if_pos rfl
theorem gB_pos {l s : Nat} (h : 0 < l) : gB l s = 6749808 * (l - 1) + 562484 * s + l := if_neg (by omega)
def SmallG (T : CT) : Prop := ∀ A i j n, i ≤ j → T A i j = some n → n ≤ gB (j - i) (cntG T i j)
theorem SmallG.six {T : CT} (h : SmallG T) {A i j n : Nat} (hij : i ≤ j) (hT : T A i j = some n) : n ≤ gB (j - i) 6 := Nat.le_trans (h A i j n hij hT) (gB_mono (cntG_le T i j))
section
variable {tok : Int → Nat → Nat → Option Nat} {nl : Nat → Nat → Option Nat} {T : CT}
end
theorem SmallG.le {T : CT} (h : SmallG T) {A i j n : Nat} (hij : i ≤ j) (hj : j ≤ 10) (hT : T A i j = some n) : n ≤ 100000000 := by
  have := h.six hij hT
  by_cases e : i = j
  · subst e
    rw [Nat.sub_self, gB_zero, eB6] at this
    omega
  · rw [gB_pos (by omega)] at this
    omega
theorem cntG_put {T : CT} {A i j n : Nat} (hA : A < 6) : cntG (T.put A i j n) i j + (if (T A i j).isSome then 1 else 0) = cntG T i j + 1 := by
  unfold cntG
  by_cases h : (T A i j).isSome
  · rw [if_pos h]
    congr 1
    refine zeg_ fun k hk => ?_
    unfold CT.put
    by_cases e : k = A
    · subst e
      simp [h]
    · simp [e]
  · rw [if_neg h]
    symm
    refine sumN_one (p := A) hA (fun k hk hne => ?_) ?_
    · simp [CT.put, hne]
    · simp [CT.put, h]
theorem cntG_other {T : CT} {A i j n i' j' : Nat} (h : ¬ (i' = i ∧ j' = j)) : cntG (T.put A i j n) i' j' = cntG T i' j' := by
  unfold cntG
  refine zeg_ fun k hk => ?_
  have : T.put A i j n k i' j' = T k i' j' := if_neg fun e => h e.2
  rw [this]
theorem smallG_put {T : CT} (h : SmallG T) {A i j n : Nat} (hA : A < 6) (hn : n ≤ gB (j - i) (cntG T i j + 1)) (hb : better n (T A i j) = true) : SmallG (T.put A i j n) := by
  intro A' i' j' m hij hm
  by_cases e : i' = i ∧ j' = j
  · obtain ⟨rfl, rfl⟩ := e
    have hc := cntG_put (T := T) (i := i') (j := j') (n := n) hA
    have hmono : gB (j' - i') (cntG T i' j') ≤ gB (j' - i') (cntG (T.put A i' j' n) i' j') := gB_mono (by split at hc <;> omega)
    unfold CT.put at hm
    by_cases e2 : A' = A
    · subst e2
      rw [if_pos ⟨rfl, rfl, rfl⟩] at hm
      cases hm
      cases ho : T A' i' j' with
      | none =>
        rw [ho] at hc
        rw [if_neg (by simp)] at hc
        rwa [show cntG (T.put A' i' j' n) i' j' = cntG T i' j' + 1 from by omega]
      | some o =>
        rw [ho] at hb
        have := h _ _ _ _ hij ho
        unfold better at hb
        have := of_decide_eq_true hb
        omega
    · rw [if_neg fun e => e2 e.1] at hm
      have := h _ _ _ _ hij hm
      omega
  · rw [cntG_other e]
    unfold CT.put at hm
    rw [if_neg fun e' => e e'.2] at hm
    exact h _ _ _ _ hij hm
def cellG (T : CT) (p : Nat) : Nat := match T (p / 121) (p / 11 % 11) (p % 11) with | none => 100000001 | some n => n
def sumG (T : CT) : Nat := sumN (cellG T) 726
theorem cellG_at {T : CT} {A i j : Nat} (hi : i < 11) (hj : j < 11) : cellG T (A * 121 + i * 11 + j) = match T A i j with | none => 100000001 | some n => n := by
  unfold cellG
  rw [show (A * 121 + i * 11 + j) / 121 = A from by omega, show (A * 121 + i * 11 + j) / 11 % 11 = i from by omega, show (A * 121 + i * 11 + j) % 11 = j from by omega]
theorem sumG_put {T : CT} {A i j n : Nat} (hA : A < 6) (hi : i < 11) (hj : j < 11) (hn : n ≤ 100000000) (hb : better n (T A i j) = true) : sumG (T.put A i j n) < sumG T := by
  unfold sumG
  have h1 : cellG (T.put A i j n) (A * 121 + i * 11 + j) = n := by
    rw [cellG_at hi hj]
    simp [CT.put]
  have h2 : n < cellG T (A * 121 + i * 11 + j) := by
    rw [cellG_at hi hj]
    cases ho : T A i j with
    | none => show n < 100000001; omega
    | some o =>
      rw [ho] at hb
      exact of_decide_eq_true hb
  have := sumN_one (f := cellG (T.put A i j n)) (g := cellG T) (p := A * 121 + i * 11 + j) (d := cellG T (A * 121 + i * 11 + j) - n) (n := 726) (by omega) (fun k hk hne => by
    unfold cellG CT.put
    rw [if_neg (by omega)]) (by omega)
  omega
def DropG (s s' : GS) : Prop := s' = s ∨ (s'.2 = true ∧ sumG s'.1 < sumG s.1)
theorem DropG.trans {a b c : GS} (h : DropG a b) (g : DropG b c) : DropG a c := by
  rcases h with rfl | ⟨h1, h2⟩
  · exact g
  · rcases g with rfl | ⟨g1, g2⟩
    · exact .inr ⟨h1, h2⟩
    · exact .inr ⟨g1, by omega⟩
theorem DropG.fold {α : Type} {I : CT → Prop} {f : GS → α → GS} : ∀ {l : List α} {s : GS}, (∀ a ∈ l, ∀ s, I s.1 → I (f s a).1 ∧ DropG s (f s a)) → I s.1 → I (l.foldl f s).1 ∧ DropG s (l.foldl f s) := by
  intro l
  induction l with
  | nil => intro s _ h; exact ⟨h, .inl rfl⟩
  | cons a l ih =>
    intro s hs h
    obtain ⟨h1, h2⟩ := hs a (List.mem_cons_self ..) s h
    obtain ⟨h3, h4⟩ := ih (fun b hb => hs b (List.mem_cons_of_mem _ hb)) h1
    exact ⟨h3, h2.trans h4⟩
def OfferG (c : CandG) (rs : List RuleL) (n : Nat) : Prop := (∀ q, q < rs.length → (rul rs q).1.toNat < 6) ∧ n ≤ 11 ∧ ∀ T q i j m, SmallG T → q < rs.length → i ≤ j → j < n → c T q i j = some m → m ≤ gB (j - i) (cntG T i j + 1)
section
variable {c : CandG} {rs : List RuleL} {n : Nat}
theorem stepG_drop (hc : OfferG c rs n) {q i j : Nat} (hq : q < rs.length) (hij : i ≤ j) (hj : j < n) {s : GS} (hs : SmallG s.1) : SmallG (stepG c rs q i s j).1 ∧ DropG s (stepG c rs q i s j) := by
  unfold stepG
  split
  · exact ⟨hs, .inl rfl⟩
  · rename_i m hm
    split
    · rename_i hb
      have h1 := smallG_put hs (hc.1 q hq) (hc.2.2 _ _ _ _ _ hs hq hij hj hm) hb
      refine ⟨h1, .inr ⟨rfl, sumG_put (hc.1 q hq) (by have := hc.2.1; omega) (by have := hc.2.1; omega) ?_ hb⟩⟩
      exact h1.le (A := (rul rs q).1.toNat) hij (by have := hc.2.1; omega) (by simp [CT.put])
    · exact ⟨hs, .inl rfl⟩
theorem rowG_drop (hc : OfferG c rs n) {q : Nat} (hq : q < rs.length) {s : GS} (hs : SmallG s.1) (i : Nat) : SmallG (rowG c rs n q s i).1 ∧ DropG s (rowG c rs n q s i) :=
  DropG.fold (I := SmallG) (fun j hj s hs => by
    rw [List.mem_range'_1] at hj
    exact stepG_drop hc hq hj.1 (by omega) hs) hs
theorem ruleG_drop (hc : OfferG c rs n) {q : Nat} (hq : q < rs.length) {s : GS} (hs : SmallG s.1) : SmallG (ruleG c rs n s q).1 ∧ DropG s (ruleG c rs n s q) :=
  DropG.fold (I := SmallG) (fun i hi s hs => rowG_drop hc hq hs i) hs
theorem zbh_ (hc : OfferG c rs n) {s : GS} (hs : SmallG s.1) : SmallG (passG c rs n s).1 ∧ DropG s (passG c rs n s) :=
  DropG.fold (I := SmallG) (fun q hq s hs => ruleG_drop hc (List.mem_range.1 hq) hs) hs
theorem FixG.small (hc : OfferG c rs n) {T U : CT} (h : FixG c rs n T U) (hT : SmallG T) : SmallG U := by
  induction h with
  | done h1 => exact (zbh_ hc (s := (_, false)) hT).1
  | more h1 h2 ih => exact ih (zbh_ hc (s := (_, false)) hT).1
theorem DropG.still {α : Type} {I : CT → Prop} {f : GS → α → GS} : ∀ {l : List α} {s : GS}, (∀ a ∈ l, ∀ s, I s.1 → I (f s a).1 ∧ DropG s (f s a)) → I s.1 → s.2 = false → (l.foldl f s).2 = false → ∀ a ∈ l, f s a = s := by
  intro l
  induction l with
  | nil => intro s _ _ _ _ a ha; simp at ha
  | cons b l ih =>
    intro s hs h0 h he a ha
    rw [List.foldl_cons] at he
    have hb : f s b = s := by
      rcases (hs b (List.mem_cons_self ..) s h0).2 with e | ⟨e, _⟩
      · exact e
      · exfalso
        rcases (DropG.fold (fun c hc => hs c (List.mem_cons_of_mem _ hc)) (hs b (List.mem_cons_self ..) s h0).1).2 with e' | ⟨e', _⟩
        · rw [e', e] at he
          cases he
        · rw [e'] at he
          cases he
    rcases List.mem_cons.1 ha with rfl | ha
    · exact hb
    · rw [hb] at he
      exact ih (fun c hc => hs c (List.mem_cons_of_mem _ hc)) h0 h he a ha
theorem FixG.closed (hc : OfferG c rs n) {T U : CT} (h : FixG c rs n T U) (hT : SmallG T) : (passG c rs n (U, false)).2 = false := by
  induction h with
  | done h1 =>
    rename_i T
    have h2 : (passG c rs n (T, false)).1 = T := by
      rcases (zbh_ hc (s := (T, false)) hT).2 with e | ⟨e, _⟩
      · rw [e]
      · rw [e] at h1
        cases h1
    rw [h2]
    exact h1
  | more h1 h2 ih => exact ih (zbh_ hc (s := (_, false)) hT).1
end
open Go
def costQ (cs : List Int) (q : Nat) : Nat := (cs.getD q 0).toNat
section
variable {rs : List RuleL} {ws cs : List Int} {T : CT}
end
structure TabE (enc : Option Nat → Int) (w : World) (U : Option Addr) (nons n : Nat) (T : CT) : Prop where
  ptr : 0 < nons → U = some (ad U)
  row : ∀ x, x < nons → ∃ R c, w.cell? ((ad U).add x) = some (.slice R (n * n) c) ∧ R = some (ad R) ∧ ∀ i j, i < n → j < n → w.cell? ((ad R).add (i * n + j)) = some (.int .i64 (enc (T x i j)))
  cap : ∀ x R c, x < nons → w.cell? ((ad U).add x) = some (.slice R (n * n) c) → n * n ≤ c
theorem TabE.gr {enc : Option Nat → Int} {w w' : World} {U : Option Addr} {nons n : Nat} {T : CT} (h : TabE enc w U nons n T) (g : Gr w w') : TabE enc w' U nons n T := ⟨h.ptr, fun x hx => by
  obtain ⟨R, c, h1, h2, h3⟩ := h.row x hx
  exact ⟨R, c, g.cell h1, h2, fun i j hi hj => g.cell (h3 i j hi hj)⟩, fun x R c hx hc => by
  obtain ⟨R', c', h1, _, _⟩ := h.row x hx
  have h4 := g.cell h1
  rw [hc] at h4
  cases h4
  exact h.cap x _ _ hx h1⟩
section
variable {enc : Option Nat → Int} {T : CT}
end
def rowN (enc : Option Nat → Int) (T : CT) (n x : Nat) : List Int := (List.range (n * n)).map fun p => enc (T x (p / n) (p % n))
theorem zvj_ (enc : Option Nat → Int) (T : CT) (n x : Nat) : (rowN enc T n x).length = n * n := by simp [rowN]
theorem TabE.ints {enc : Option Nat → Int} {w : World} {U : Option Addr} {nons n : Nat} {T : CT} (h : TabE enc w U nons n T) (hn : n ≤ 11) {x : Nat} (hx : x < nons) : ∃ R c, w.cell? ((ad U).add x) = some (.slice R (n * n) c) ∧ n * n ≤ c ∧ Ints w R (rowN enc T n x) := by
  obtain ⟨R, c, h1, h2, h3⟩ := h.row x hx
  have hnn : n * n ≤ 11 * 11 := Nat.mul_le_mul hn hn
  refine ⟨R, c, h1, h.cap x R c hx h1, by rw [zvj_]; omega, fun _ => h2, fun j hj => ?_⟩
  rw [zvj_] at hj
  have hn0 : 0 < n := by
    cases n with
    | zero => simp at hj
    | succ n => omega
  have h4 := h3 (j / n) (j % n) (Nat.div_lt_of_lt_mul hj) (Nat.mod_lt _ hn0)
  rw [Nat.mul_comm (j / n), Nat.div_add_mod] at h4
  rw [h4]
  congr 2
  simp [rowN, List.getD_eq_getElem?_getD, hj]
end Go.Sh
namespace Go.Proofs.Ytegcjkhebecgbaa
open Go Go.Sh Go.RowKit
open Go Go.Sh

end Go.Proofs.Ytegcjkhebecgbaa

namespace Go.Sh
open Go
end Go.Sh
namespace Go.Proofs.Ytegcjkhebecgbaa
open Go Go.Sh Go.RowKit
end Go.Proofs.Ytegcjkhebecgbaa

namespace Go.Sh
open Go
section
variable {c : CandG} {rs : List RuleL} {n : Nat}
end
end Go.Sh
namespace Go.Proofs.Ytegcjkhebecgbaa
open Go Go.Sh Go.RowKit
end Go.Proofs.Ytegcjkhebecgbaa

namespace Go.Sh
open Go
section
variable {ws cs : List Int} {rs : List RuleL} {n : Nat}
end
structure CostsOk (gm : Gram) (cs : List Int) : Prop where
  len : cs.length = gm.rules.length
  all : ∀ c ∈ cs, 1 ≤ c ∧ c ≤ 100
theorem CostsOk.at {gm : Gram} {cs : List Int} (h : CostsOk gm cs) {q : Nat} (hq : q < gm.rules.length) : cs.getD q 0 = (costQ cs q : Int) ∧ 0 < costQ cs q ∧ costQ cs q ≤ 100 := by
  have hq' : q < cs.length := by rw [h.len]; exact hq
  have hm : cs.getD q 0 ∈ cs := by
    rw [List.getD_eq_getElem?_getD, List.getElem?_eq_getElem hq', Option.getD_some]
    exact List.getElem_mem hq'
  have := h.all _ hm
  unfold costQ
  omega
end Go.Sh
namespace Go.Proofs.Ytegcjkhebecgbaa
open Go Go.Sh Go.RowKit
open Go Go.Sh

def pl175 : Plans := fun _ => ⟨false, [], .nil⟩
def S175 (v0 v1 : Value) (k : Value → World → Prop) (w : World) : Prop :=
 Do Try.prog (sBox 26 v0) (fun t1 w2 =>
 Rd Try.prog (WS.at w2) (za_ 26 t1 2) fun t3 =>
 Rd Try.prog (WS.at w2) (zc_ 24 t3) fun t4 =>
 Rd Try.prog (WS.at w2) (ze_ .len #[24] 3 [false] [t4]) fun t5 =>
 zrb_ [12, 13, 14, 15, 7, 6, 16, 17, 18, 19, 20, 21, 22, 23, 5, 24, 11] (fun Q6 f7 w8 =>
  Rd Try.prog (WS.at w8) (sBin .lss 3 false (f7 11) (f7 10)) fun t9 =>
  zm_ t9
   (Join (fun K10 =>
   Rd Try.prog (WS.at w8) (zf_ 24 (f7 9) (f7 11)) fun t13 =>
   Rd Try.prog (WS.at w8) (zc_ 33 t13) fun t14 =>
   Do Try.prog (zw_ 33) (fun t15 w16 =>
   Do Try.prog (zi_ 33 t15 t14) (fun _ w17 =>
   Rd Try.prog (WS.at w17) (za_ 33 t15 0) fun t18 =>
   Rd Try.prog (WS.at w17) (zc_ 3 t18) fun t19 =>
   Rd Try.prog (WS.at w17) (sBin .eql 3 false t19 (f7 1)) fun t20 =>
   zm_ t20
    (Do Try.prog (zh_ 27 1 [(0, (f7 11))]) (fun t21 w22 =>
    Do Try.prog (ze_ .append #[27, 27] 27 [false, false] [(f7 5), t21]) (fun t23 w24 =>
    K10 (F.upd (F.upd (F.upd (F.upd (F.upd (F.upd (F.upd (F.upd (F.upd (F.upd (F.upd (F.upd (F.upd (F.upd (F.upd f7 12 t9) 13 (f7 11)) 14 t13) 15 t14) 7 t15) 6 (f7 11)) 16 t18) 17 t19) 18 (f7 1)) 19 t20) 20 (f7 5)) 21 (f7 11)) 22 t21) 23 t23) 5 t23) w24) w22) w17)
    (K10 (F.upd (F.upd (F.upd (F.upd (F.upd (F.upd (F.upd (F.upd (F.upd (F.upd f7 12 t9) 13 (f7 11)) 14 t13) 15 t14) 7 t15) 6 (f7 11)) 16 t18) 17 t19) 18 (f7 1)) 19 t20) w17)) w16) w8) (fun f11 w12 =>
   Rd Try.prog (WS.at w12) (sBin .add 3 true (f11 11) (.int .i64 1)) fun t25 =>
   Q6 .normal (F.upd (F.upd f11 24 t25) 11 t25) w12))
   (Q6 (.exit 0) (F.upd f7 12 t9) w8))
  (zx_ 0 (seqQ (fun f26 w27 =>
 k (f26 5) w27) (zr_ Try.prog [.tmp 4] k)))
  (F.upd (F.upd (F.upd (F.upd (F.upd (F.upd (F.upd (zp_ [v0, v1]) 2 t1) 4 (.slice none 0 0)) 5 (.slice none 0 0)) 8 t3) 9 t4) 10 t5) 11 (.int .i64 0)) w2) w
theorem body175 : Try.f175.body = some (zg_ Try.f175) := by kernel_rfl
theorem same175 (v0 v1 : Value) (k : Value → World → Prop) (w : World) : wpF Try.prog pl175 (zg_ Try.f175) (zr_ Try.prog Try.f175.results.toList k) (zp_ [v0, v1]) w = S175 v0 v1 k w := by kernel_rfl
theorem enter175 {v0 v1 : Value} {k : Value → World → Prop} {w : World} (h : S175 v0 v1 k w) : CallK Try.prog 175 [v0, v1] k w :=
  call_of_wpF (pl := pl175) mixed Try.func175 body175 (by kernel_rfl) (of_decide_eq_true (by kernel_rfl)) (by kernel_rfl) (by kernel_rfl) (Eq.mpr (same175 v0 v1 k w) h)

end Go.Proofs.Ytegcjkhebecgbaa

namespace Go.Sh
open Go
def zmc_ (rs : List RuleL) (A : Nat) (n : Nat) : List Int := ((List.range n).filter fun q => decide ((rul rs q).1 = (A : Int))).map fun q : Nat => (q : Int)
theorem zwj_ {rs : List RuleL} {A n : Nat} (h : (rul rs n).1 = (A : Int)) : zmc_ rs A (n + 1) = zmc_ rs A n ++ [(n : Int)] := by
  unfold zmc_
  rw [List.range_succ, List.filter_append, List.map_append]
  simp [h]
theorem zhi_ {rs : List RuleL} {A n : Nat} (h : ¬ (rul rs n).1 = (A : Int)) : zmc_ rs A (n + 1) = zmc_ rs A n := by
  unfold zmc_
  rw [List.range_succ, List.filter_append, List.map_append]
  simp [h]
theorem zxj_ (rs : List RuleL) (A n : Nat) : (zmc_ rs A n).length ≤ n := by
  unfold zmc_
  rw [List.length_map]
  exact Nat.le_trans (List.length_filter_le _ _) (by simp)
end Go.Sh
namespace Go.Proofs.Ytegcjkhebecgbaa
open Go Go.Sh Go.RowKit
theorem l1Rules_c {F : Nat → Prop} {w : World} {v : Value} {gm : Gram} {A : Nat} (hv : GramV F w v gm) (hg : zv_ gm = true) {k : Value → World → Prop}
    (hk : ∀ w' U d, Gr w w' → Own 3 w' w.heap.size U d (zmc_ gm.rules A gm.rules.length) → k (.slice U (zmc_ gm.rules A gm.rules.length).length d) w') :
    CallK Try.prog 175 [v, .int .i64 A] k w := by
  obtain ⟨Y, cy, rfl, hc, hy⟩ := hv
  have hr16 := zyc_ hg
  have hn6 := zed_ hg
  refine enter175 ?_
  unfold S175
  have H := Apt.nil w
  refine boxH H fun b1 w1 H => ?_
  simp only [zq18, zq19, zq20, zq21, zq22, zq23, zq24, zq25, zq26, zq27, zq28, zq4, zq3, zq1, zq2, zq0, zq29, zq30, zq14, zq15, zq16, zq17, zq13, zq10, zq12, zq11, zq7, zq5, zq6, zq9, zq8, zq31, zq32, ite_T, ite_F, zq33, zq34, zq35, len27, len24, len35, fa26_0, fa26_1, fa26_2, fa33_0, fa33_1, fa124_0, fa124_1, Nat.reduceEqDiff]
  rw [zyb_ (H.box 0 rfl) rfl]
  simp only [zq18, zq19, zq20, zq21, zq22, zq23, zq24, zq25, zq26, zq27, zq28, zq4, zq3, zq1, zq2, zq0, zq29, zq30, zq14, zq15, zq16, zq17, zq13, zq10, zq12, zq11, zq7, zq5, zq6, zq9, zq8, zq31, zq32, ite_T, ite_F, zq33, zq34, zq35, len27, len24, len35, fa26_0, fa26_1, fa26_2, fa33_0, fa33_1, fa124_0, fa124_1, Nat.reduceEqDiff]
  have H := H.addOwn (Gr.refl w1) (show Own 3 w1 w1.heap.size none 0 [] from Row.nil _ _ _ _)
  simp only [List.nil_append, List.cons_append] at H
  refine ztb_ gm.rules.length 0 (fun q f w' => q ≤ gm.rules.length ∧ f 11 = .int .i64 q ∧ ∃ U d, f 5 = .slice U (zmc_ gm.rules A q).length d ∧ Apt w w' [bx b1 [.int .i64 gm.nons, .int .i64 gm.toks, .slice Y gm.rules.length cy] 26, ows U d (zmc_ gm.rules A q)])
    ⟨Nat.zero_le _, rfl, none, 0, rfl, H⟩ ?_
  clear H
  rintro q f w2 N hag ⟨hq, h11, U, d, h5, H⟩ hN
  have f9 : f 9 = .slice Y gm.rules.length cy := hag 9 (by decide)
  have f10 : f 10 = .int .i64 gm.rules.length := hag 10 (by decide)
  have f1 : f 1 = .int .i64 A := hag 1 (by decide)
  simp only [f9, f10, f1, h11, h5, zq18, zq19, zq20, zq21, zq22, zq23, zq24, zq25, zq26, zq27, zq28, zq4, zq3, zq1, zq2, zq0, zq29, zq30, zq14, zq15, zq16, zq17, zq13, zq10, zq12, zq11, zq7, zq5, zq6, zq9, zq8, zq31, zq32, ite_T, ite_F, zq33, zq34, zq35, len27, len24, len35, fa26_0, fa26_1, fa26_2, fa33_0, fa33_1, fa124_0, fa124_1, Nat.reduceEqDiff]
  by_cases hlq : q < gm.rules.length
  case neg =>
    simp only [show ¬ ((q : Int) < gm.rules.length) from by omega, decide_false, go_sem, Nat.reduceEqDiff]
    obtain rfl : q = gm.rules.length := by omega
    exact hk _ U d H.gr (H.own 1 rfl)
  simp only [show ((q : Int) < gm.rules.length) from by omega, decide_true, zq18, zq19, zq20, zq21, zq22, zq23, zq24, zq25, zq26, zq27, zq28, zq4, zq3, zq1, zq2, zq0, zq29, zq30, zq14, zq15, zq16, zq17, zq13, zq10, zq12, zq11, zq7, zq5, zq6, zq9, zq8, zq31, zq32, ite_T, ite_F, zq33, zq34, zq35, len27, len24, len35, fa26_0, fa26_1, fa26_2, fa33_0, fa33_1, fa124_0, fa124_1, Nat.reduceEqDiff]
  obtain ⟨Z, cz, t1, t2, t3, t4⟩ := hy.row q hlq
  have hleft := zwe_ hg hlq
  obtain ⟨xl, hxl⟩ : ∃ x : Nat, (rul gm.rules q).1 = x := ⟨(rul gm.rules q).1.toNat, by omega⟩
  rw [hxl] at t1
  refine zmd_ (fun g w' => g 11 = .int .i64 (q : Int) ∧ ∃ U d, g 5 = .slice U (zmc_ gm.rules A (q + 1)).length d ∧ Apt w w' [bx b1 [.int .i64 gm.nons, .int .i64 gm.toks, .slice Y gm.rules.length cy] 26, ows U d (zmc_ gm.rules A (q + 1))]) (fun K hK => ?_) ?_
  case refine_2 =>
    rintro g w' ⟨g11, U, d, g5, H⟩
    simp only [g11, go_sem, Nat.reduceEqDiff]
    rw [zt_ (by omega) (by omega)]
    exact hN _ _ hlq ⟨hlq, rfl, U, d, g5, H⟩
  refine rdi (zic_ hy.ptr hlq) ?_
  rw [zfh_ zhc_ sz33 (cs := [.int .i64 xl, .slice Z (rul gm.rules q).2.length cz]) rfl (fun j hj => by
    match j, hj with
    | 0, _ => rw [zbc_, Nat.add_zero]; exact H.gr.cell t1
    | 1, _ => rw [zbc_]; exact H.gr.cell t2)]
  refine zkc_ H zxb_ fun b3 w8 H => ?_
  refine zub_ H 2 rfl sz33 rfl rfl rfl fun w9 H => ?_
  simp only [List.nil_append, List.cons_append, List.set_cons_zero, List.set_cons_succ] at H
  simp only [zq18, zq19, zq20, zq21, zq22, zq23, zq24, zq25, zq26, zq27, zq28, zq4, zq3, zq1, zq2, zq0, zq29, zq30, zq14, zq15, zq16, zq17, zq13, zq10, zq12, zq11, zq7, zq5, zq6, zq9, zq8, zq31, zq32, ite_T, ite_F, zq33, zq34, zq35, len27, len24, len35, fa26_0, fa26_1, fa26_2, fa33_0, fa33_1, fa124_0, fa124_1, Nat.reduceEqDiff]
  rw [ldB3 (H.box 2 rfl) rfl]
  have H := H.take 2
  simp only [zq18, zq19, zq20, zq21, zq22, zq23, zq24, zq25, zq26, zq27, zq28, zq4, zq3, zq1, zq2, zq0, zq29, zq30, zq14, zq15, zq16, zq17, zq13, zq10, zq12, zq11, zq7, zq5, zq6, zq9, zq8, zq31, zq32, ite_T, ite_F, zq33, zq34, zq35, len27, len24, len35, fa26_0, fa26_1, fa26_2, fa33_0, fa33_1, fa124_0, fa124_1, Nat.reduceEqDiff]
  have hln := zxj_ gm.rules A q
  by_cases hA : xl = A
  · simp only [show ((xl : Int) = (A : Int)) from by omega, decide_true, zq18, zq19, zq20, zq21, zq22, zq23, zq24, zq25, zq26, zq27, zq28, zq4, zq3, zq1, zq2, zq0, zq29, zq30, zq14, zq15, zq16, zq17, zq13, zq10, zq12, zq11, zq7, zq5, zq6, zq9, zq8, zq31, zq32, ite_T, ite_F, zq33, zq34, zq35, len27, len24, len35, fa26_0, fa26_1, fa26_2, fa33_0, fa33_1, fa124_0, fa124_1, Nat.reduceEqDiff]
    refine pushH H 1 rfl rfl (by omega) fun t1 U1 d1 w10 H => ?_
    have e := zwj_ (rs := gm.rules) (A := A) (n := q) (by omega)
    exact hK _ _ ⟨h11, U1, d1, by rw [e]; rfl, by rw [e]; exact H⟩
  · simp only [show ¬ ((xl : Int) = (A : Int)) from by omega, decide_false, zq18, zq19, zq20, zq21, zq22, zq23, zq24, zq25, zq26, zq27, zq28, zq4, zq3, zq1, zq2, zq0, zq29, zq30, zq14, zq15, zq16, zq17, zq13, zq10, zq12, zq11, zq7, zq5, zq6, zq9, zq8, zq31, zq32, ite_T, ite_F, zq33, zq34, zq35, len27, len24, len35, fa26_0, fa26_1, fa26_2, fa33_0, fa33_1, fa124_0, fa124_1, Nat.reduceEqDiff]
    have e := zhi_ (rs := gm.rules) (A := A) (n := q) (by omega)
    exact hK _ _ ⟨h11, U, d, by rw [e]; exact h5, by rw [e]; exact H⟩
end Go.Proofs.Ytegcjkhebecgbaa

namespace Go.Sh
open Go
section
variable {P : Program} {w : World} {k : Value → World → Prop}
theorem do_store_rt {t e1 e2 B c d j : Nat} {X Y : Option Addr} {rs : List RuleL} {ps : Nat → Option Addr × Nat} {ys : List Int} (hs : szOf P t 1) (he : e1 ≠ e2) (hO : OwnR e1 e2 w B X c rs ps) (hj : j < rs.length) (ho : Own e2 w B Y d ys)
    (hne : ∀ i, i < rs.length → i ≠ j → blk Y = none ∨ blk Y ≠ blk (ps i).1)
    (h : ∀ w', w.grownBy w' (blk X) → OwnR e1 e2 w' B X c (rs.set j ((rul rs j).1, ys)) (fun i => if i = j then (Y, d) else ps i) → k undef w') :
    Do P (zi_ t (.pointer (some ((ad X).add (j * 2 + 1)))) (.slice Y ys.length d)) k w := by
  obtain ⟨cells, hr, hc⟩ := hO.cells
  have hl := hc.1
  refine zuc_ hs rfl rfl hr (by omega) fun w' g hsz hr' => h w' g ?_
  have hX : ∀ {Z : Option Addr} {n c : Nat} {xs : List Value}, Row w B e2 1 Z n c xs → blk Z = none ∨ blk Z ≠ blk X := fun hz => zue_ hz hr (fun e => he e.symm)
  refine ⟨⟨_, by rw [List.length_set]; exact hr', fun i hi => ?_⟩, fun i hi => ?_, fun i l hi hl hil => ?_⟩
  · rw [List.length_set] at hi
    obtain ⟨h1, h2⟩ := hc.2 i hi
    rw [zyf_ hj]
    by_cases hij : i = j
    · subst hij
      rw [if_pos rfl, if_pos rfl]
      exact ⟨by rw [List.getElem?_set_ne (by omega)]; exact h1, by rw [List.getElem?_set_self (by omega)]⟩
    · rw [if_neg hij, if_neg hij]
      exact ⟨by rw [List.getElem?_set_ne (by omega)]; exact h1, by rw [List.getElem?_set_ne (by omega)]; exact h2⟩
  · rw [List.length_set] at hi
    rw [zyf_ hj]
    by_cases hij : i = j
    · subst hij
      rw [if_pos rfl, if_pos rfl]
      exact Row.kept ho g (hX ho)
    · rw [if_neg hij, if_neg hij]
      exact Row.kept (hO.own i hi) g (hX (hO.own i hi))
  · rw [List.length_set] at hi hl
    by_cases hij : i = j
    · subst hij
      rw [if_pos rfl, if_neg (fun e => hil e.symm)]
      exact hne l hl (fun e => hil e.symm)
    · rw [if_neg hij]
      by_cases hlj : l = j
      · subst hlj
        rw [if_pos rfl]
        cases hq : blk (ps i).1 with
        | none => exact .inl rfl
        | some q =>
          refine .inr fun e => ?_
          rcases hne i hi hij with hy | hy
          · rw [hy] at e
            cases e
          · exact hy (by rw [hq, e])
      · rw [if_neg hlj]
        exact hO.two i l hi hl hil
end
end Go.Sh
namespace Go.Proofs.Ytegcjkhebecgbaa
open Go Go.Sh Go.RowKit
theorem l1Turned_c {w : World} {X : Option Addr} {c n : Nat} {xs : List Int} (hx : Ints w X xs) (hn : n = xs.length) (hb : xs.length ≤ 1000) {k : Value → World → Prop}
    (hk : ∀ w' U d, Gr w w' → Own 3 w' w.heap.size U d xs.reverse → k (.slice U xs.length d) w') : CallK Try.prog 237 [.slice X n c] k w := by
  subst hn
  refine enter237 ?_
  unfold S237
  have hle := hx.le
  simp only [zq18, zq19, zq20, zq21, zq22, zq23, zq24, zq25, zq26, zq27, zq28, zq4, zq3, zq1, zq2, zq0, zq29, zq30, zq14, zq15, zq16, zq17, zq13, zq10, zq12, zq11, zq7, zq5, zq6, zq9, zq8, zq31, zq32, ite_T, ite_F, zq33, zq34, zq35, Nat.reduceEqDiff, len22, len24, fa26_0, fa26_1, fa26_2, len27, fa33_0, fa33_1, len35, fa114_0, fa114_1, fa114_2, fa124_0, fa124_1, len134]
  rw [zt_ (by omega) (by omega)]
  have H := (Apt.nil w).addOwn (Gr.refl w) (show Own 3 w w.heap.size none 0 [] from Row.nil _ _ _ _)
  simp only [List.nil_append, List.cons_append] at H
  refine ztb_ (xs.length + 1) 0 (fun q f w' => q ≤ xs.length ∧ f 4 = .int .i64 ((xs.length : Int) - 1 - q) ∧ ∃ U d, f 3 = .slice U q d ∧ Apt w w' [ows U d (xs.reverse.take q)]) ⟨Nat.zero_le _, by simp; rfl, none, 0, rfl, by simpa using H⟩ ?_
  clear H
  rintro q f w1 N hag ⟨hq, h4, U, d, h3, H⟩ hN
  have f0 : f 0 = .slice X xs.length c := hag 0 (by decide)
  simp only [f0, h3, h4, zq18, zq19, zq20, zq21, zq22, zq23, zq24, zq25, zq26, zq27, zq28, zq4, zq3, zq1, zq2, zq0, zq29, zq30, zq14, zq15, zq16, zq17, zq13, zq10, zq12, zq11, zq7, zq5, zq6, zq9, zq8, zq31, zq32, ite_T, ite_F, zq33, zq34, zq35, Nat.reduceEqDiff, len22, len24, fa26_0, fa26_1, fa26_2, len27, fa33_0, fa33_1, len35, fa114_0, fa114_1, fa114_2, fa124_0, fa124_1, len134]
  by_cases hlt : q < xs.length
  case neg =>
    simp only [show ¬ ((xs.length : Int) - 1 - q ≥ 0) from by omega, decide_false, zq18, zq19, zq20, zq21, zq22, zq23, zq24, zq25, zq26, zq27, zq28, zq4, zq3, zq1, zq2, zq0, zq29, zq30, zq14, zq15, zq16, zq17, zq13, zq10, zq12, zq11, zq7, zq5, zq6, zq9, zq8, zq31, zq32, ite_T, ite_F, zq33, zq34, zq35, Nat.reduceEqDiff, len22, len24, fa26_0, fa26_1, fa26_2, len27, fa33_0, fa33_1, len35, fa114_0, fa114_1, fa114_2, fa124_0, fa124_1, len134]
    obtain rfl : q = xs.length := by omega
    have := H.own 0 rfl
    rw [List.take_of_length_le (by simp)] at this
    exact hk w1 U d H.gr this
  simp only [show ((xs.length : Int) - 1 - q ≥ 0) from by omega, decide_true, zq18, zq19, zq20, zq21, zq22, zq23, zq24, zq25, zq26, zq27, zq28, zq4, zq3, zq1, zq2, zq0, zq29, zq30, zq14, zq15, zq16, zq17, zq13, zq10, zq12, zq11, zq7, zq5, zq6, zq9, zq8, zq31, zq32, ite_T, ite_F, zq33, zq34, zq35, Nat.reduceEqDiff, len22, len24, fa26_0, fa26_1, fa26_2, len27, fa33_0, fa33_1, len35, fa114_0, fa114_1, fa114_2, fa124_0, fa124_1, len134]
  rw [show ((xs.length : Int) - 1 - q) = ((xs.length - 1 - q : Nat) : Int) from by omega]
  refine rdi (zcc_ hx.ptr (by omega)) (rdi (ld3 ((hx.gr H.gr).cell _ (by omega))) ?_)
  have hl : (xs.reverse.take q).length = q := by simp; omega
  refine pushH H 0 rfl hl.symm (by omega) fun t U' d' w2 H => ?_
  simp only [List.set_cons_zero] at H
  have he : xs.reverse.take q ++ [xs.getD (xs.length - 1 - q) 0] = xs.reverse.take (q + 1) := by
    rw [List.take_succ_eq_append_getElem (by simpa using hlt), List.getElem_reverse]
    simp [List.getD_eq_getElem?_getD, show xs.length - 1 - q < xs.length from by omega]
  rw [he] at H ⊢
  rw [zt_ (by omega) (by omega)]
  refine hN _ _ (by omega) ⟨by omega, ?_, U', d', ?_, H⟩
  · show Value.int .i64 _ = _
    congr 1
    omega
  · show Value.slice U' (xs.reverse.take (q + 1)).length d' = _
    rw [show (xs.reverse.take (q + 1)).length = q + 1 from by simp; omega]
theorem turned_c {w : World} {X : Option Addr} {c n : Nat} {xs : List Int} (hx : Ints w X xs) (hn : n = xs.length) (hb : xs.length ≤ 1000) {k : Value → World → Prop}
    (hk : ∀ w' U d, Gr w w' → Own 3 w' w.heap.size U d xs.reverse → k (.slice U xs.length d) w') : CallK Try.prog 129 [.slice X n c] k w := by
  subst hn
  refine enter129 ?_
  unfold S129
  have hle := hx.le
  simp only [zq18, zq19, zq20, zq21, zq22, zq23, zq24, zq25, zq26, zq27, zq28, zq4, zq3, zq1, zq2, zq0, zq29, zq30, zq14, zq15, zq16, zq17, zq13, zq10, zq12, zq11, zq7, zq5, zq6, zq9, zq8, zq31, zq32, ite_T, ite_F, zq33, zq34, zq35, Nat.reduceEqDiff, len22, len24, fa26_0, fa26_1, fa26_2, len27, fa33_0, fa33_1, len35, fa114_0, fa114_1, fa114_2, fa124_0, fa124_1, len134]
  rw [zt_ (by omega) (by omega)]
  have H := (Apt.nil w).addOwn (Gr.refl w) (show Own 3 w w.heap.size none 0 [] from Row.nil _ _ _ _)
  simp only [List.nil_append, List.cons_append] at H
  refine ztb_ (xs.length + 1) 0 (fun q f w' => q ≤ xs.length ∧ f 4 = .int .i64 ((xs.length : Int) - 1 - q) ∧ ∃ U d, f 3 = .slice U q d ∧ Apt w w' [ows U d (xs.reverse.take q)]) ⟨Nat.zero_le _, by simp; rfl, none, 0, rfl, by simpa using H⟩ ?_
  clear H
  rintro q f w1 N hag ⟨hq, h4, U, d, h3, H⟩ hN
  have f0 : f 0 = .slice X xs.length c := hag 0 (by decide)
  simp only [f0, h3, h4, zq18, zq19, zq20, zq21, zq22, zq23, zq24, zq25, zq26, zq27, zq28, zq4, zq3, zq1, zq2, zq0, zq29, zq30, zq14, zq15, zq16, zq17, zq13, zq10, zq12, zq11, zq7, zq5, zq6, zq9, zq8, zq31, zq32, ite_T, ite_F, zq33, zq34, zq35, Nat.reduceEqDiff, len22, len24, fa26_0, fa26_1, fa26_2, len27, fa33_0, fa33_1, len35, fa114_0, fa114_1, fa114_2, fa124_0, fa124_1, len134]
  by_cases hlt : q < xs.length
  case neg =>
    simp only [show ¬ ((xs.length : Int) - 1 - q ≥ 0) from by omega, decide_false, zq18, zq19, zq20, zq21, zq22, zq23, zq24, zq25, zq26, zq27, zq28, zq4, zq3, zq1, zq2, zq0, zq29, zq30, zq14, zq15, zq16, zq17, zq13, zq10, zq12, zq11, zq7, zq5, zq6, zq9, zq8, zq31, zq32, ite_T, ite_F, zq33, zq34, zq35, Nat.reduceEqDiff, len22, len24, fa26_0, fa26_1, fa26_2, len27, fa33_0, fa33_1, len35, fa114_0, fa114_1, fa114_2, fa124_0, fa124_1, len134]
    obtain rfl : q = xs.length := by omega
    have := H.own 0 rfl
    rw [List.take_of_length_le (by simp)] at this
    exact hk w1 U d H.gr this
  simp only [show ((xs.length : Int) - 1 - q ≥ 0) from by omega, decide_true, zq18, zq19, zq20, zq21, zq22, zq23, zq24, zq25, zq26, zq27, zq28, zq4, zq3, zq1, zq2, zq0, zq29, zq30, zq14, zq15, zq16, zq17, zq13, zq10, zq12, zq11, zq7, zq5, zq6, zq9, zq8, zq31, zq32, ite_T, ite_F, zq33, zq34, zq35, Nat.reduceEqDiff, len22, len24, fa26_0, fa26_1, fa26_2, len27, fa33_0, fa33_1, len35, fa114_0, fa114_1, fa114_2, fa124_0, fa124_1, len134]
  rw [show ((xs.length : Int) - 1 - q) = ((xs.length - 1 - q : Nat) : Int) from by omega]
  refine rdi (zcc_ hx.ptr (by omega)) (rdi (ld3 ((hx.gr H.gr).cell _ (by omega))) ?_)
  have hl : (xs.reverse.take q).length = q := by simp; omega
  refine pushH H 0 rfl hl.symm (by omega) fun t U' d' w2 H => ?_
  simp only [List.set_cons_zero] at H
  have he : xs.reverse.take q ++ [xs.getD (xs.length - 1 - q) 0] = xs.reverse.take (q + 1) := by
    rw [List.take_succ_eq_append_getElem (by simpa using hlt), List.getElem_reverse]
    simp [List.getD_eq_getElem?_getD, show xs.length - 1 - q < xs.length from by omega]
  rw [he] at H ⊢
  rw [zt_ (by omega) (by omega)]
  refine hN _ _ (by omega) ⟨by omega, ?_, U', d', ?_, H⟩
  · show Value.int .i64 _ = _
    congr 1
    omega
  · show Value.slice U' (xs.reverse.take (q + 1)).length d' = _
    rw [show (xs.reverse.take (q + 1)).length = q + 1 from by simp; omega]
end Go.Proofs.Ytegcjkhebecgbaa

namespace Go.Sh
open Go
def zre_ (gm : Gram) : Int × Bool := if zv_ gm then (((sizeR gm.rules : Nat) : Int), true) else (0, false)
def zee_ (gm : Gram) (non : Int) : List Int × Bool := if zv_ gm && inB non 0 (gm.nons - 1) then (zmc_ gm.rules non.toNat gm.rules.length, true) else ([], false)
theorem zth_ (w : World) : Ints w none [] := Own.ints (show Own 3 w w.heap.size none 0 [] from Row.nil _ _ _ _)
theorem zxp_ {gm : Gram} (hg : zv_ gm = true) : lens gm.rules ≤ 64 := by
  have h1 := zyc_ hg
  have h2 := zid_ hg
  have : ∀ i, i ≤ gm.rules.length → lens (gm.rules.take i) ≤ 4 * i := by
    intro i
    induction i with
    | zero => intro _; simp [lens]
    | succ i ih =>
      intro hi
      rw [zti_ hi]
      have := ih (by omega)
      have := h2 i hi
      omega
  have := this gm.rules.length (Nat.le_refl _)
  rw [List.take_length] at this
  omega
end Go.Sh
namespace Go.Proofs.Ytegcjkhebecgbaa
open Go Go.Sh Go.RowKit
theorem zyr_ {w : World} {Y : Option Addr} {cy : Nat} {gm : Gram} (hG : kG Y cy gm.rules w) {k : Value → World → Prop}
    (hk : ∀ w', Gr w w' → k (.tuple #[.int .i64 (zre_ gm).1, .bool (zre_ gm).2]) w') : CallK Try.prog 130 [grv gm Y cy] k w := by
  refine enter130 ?_
  unfold S130
  refine zwb_ fun b1 w1 g1 hb1 h1 => ?_
  rw [zj_ zu_ sz26 rfl h1]
  refine zae_ (gm := gm) (gvK ⟨hG.1, hG.2.gr g1⟩) fun w2 g => ?_
  have h1 := h1.gr g
  have g := zd_ g1 g
  cases hg : zv_ gm
  · simp only [Bool.not_false, zq18, zq19, zq20, zq21, zq22, zq23, zq24, zq25, zq26, zq27, zq28, zq4, zq3, zq1, zq2, zq0, zq29, zq30, zq14, zq15, zq16, zq17, zq13, zq10, zq12, zq11, zq7, zq5, zq6, zq9, zq8, zq31, zq32, ite_T, ite_F, zq33, zq34, zq35, Nat.reduceEqDiff, len22, len24, fa26_0, fa26_1, fa26_2, len27, fa33_0, fa33_1, len35, fa114_0, fa114_1, fa114_2, fa124_0, fa124_1, len134]
    have := hk w2 g
    simp only [zre_, hg] at this
    exact this
  simp only [Bool.not_true, zq18, zq19, zq20, zq21, zq22, zq23, zq24, zq25, zq26, zq27, zq28, zq4, zq3, zq1, zq2, zq0, zq29, zq30, zq14, zq15, zq16, zq17, zq13, zq10, zq12, zq11, zq7, zq5, zq6, zq9, zq8, zq31, zq32, ite_T, ite_F, zq33, zq34, zq35, Nat.reduceEqDiff, len22, len24, fa26_0, fa26_1, fa26_2, len27, fa33_0, fa33_1, len35, fa114_0, fa114_1, fa114_2, fa124_0, fa124_1, len134]
  rw [zyb_ h1 rfl]
  simp only [zq18, zq19, zq20, zq21, zq22, zq23, zq24, zq25, zq26, zq27, zq28, zq4, zq3, zq1, zq2, zq0, zq29, zq30, zq14, zq15, zq16, zq17, zq13, zq10, zq12, zq11, zq7, zq5, zq6, zq9, zq8, zq31, zq32, ite_T, ite_F, zq33, zq34, zq35, Nat.reduceEqDiff, len22, len24, fa26_0, fa26_1, fa26_2, len27, fa33_0, fa33_1, len35, fa114_0, fa114_1, fa114_2, fa124_0, fa124_1, len134]
  rw [zyb_ h1 rfl]
  simp only [zq18, zq19, zq20, zq21, zq22, zq23, zq24, zq25, zq26, zq27, zq28, zq4, zq3, zq1, zq2, zq0, zq29, zq30, zq14, zq15, zq16, zq17, zq13, zq10, zq12, zq11, zq7, zq5, zq6, zq9, zq8, zq31, zq32, ite_T, ite_F, zq33, zq34, zq35, Nat.reduceEqDiff, len22, len24, fa26_0, fa26_1, fa26_2, len27, fa33_0, fa33_1, len35, fa114_0, fa114_1, fa114_2, fa124_0, fa124_1, len134]
  have hr16 := zyc_ hg
  have hr4 := zid_ hg
  have hall : lens gm.rules ≤ 64 := zxp_ hg
  refine ztb_ gm.rules.length 0 (fun i f w' => i ≤ gm.rules.length ∧ f 16 = .int .i64 i ∧ f 4 = .int .i64 ((gm.rules.length + lens (gm.rules.take i) : Nat) : Int) ∧ Gr w w') ⟨Nat.zero_le _, rfl, by simp [lens]; rfl, g⟩ ?_
  rintro i f w3 N hag ⟨hi, h16, h4, g⟩ hN
  have f14 : f 14 = .slice Y gm.rules.length cy := hag 14 (by decide)
  have f15 : f 15 = .int .i64 gm.rules.length := hag 15 (by decide)
  simp only [f14, f15, h16, h4, zq18, zq19, zq20, zq21, zq22, zq23, zq24, zq25, zq26, zq27, zq28, zq4, zq3, zq1, zq2, zq0, zq29, zq30, zq14, zq15, zq16, zq17, zq13, zq10, zq12, zq11, zq7, zq5, zq6, zq9, zq8, zq31, zq32, ite_T, ite_F, zq33, zq34, zq35, Nat.reduceEqDiff, len22, len24, fa26_0, fa26_1, fa26_2, len27, fa33_0, fa33_1, len35, fa114_0, fa114_1, fa114_2, fa124_0, fa124_1, len134]
  by_cases hlt : i < gm.rules.length
  case neg =>
    simp only [show ¬ (i : Int) < gm.rules.length from by omega, decide_false, zq18, zq19, zq20, zq21, zq22, zq23, zq24, zq25, zq26, zq27, zq28, zq4, zq3, zq1, zq2, zq0, zq29, zq30, zq14, zq15, zq16, zq17, zq13, zq10, zq12, zq11, zq7, zq5, zq6, zq9, zq8, zq31, zq32, ite_T, ite_F, zq33, zq34, zq35, Nat.reduceEqDiff, len22, len24, fa26_0, fa26_1, fa26_2, len27, fa33_0, fa33_1, len35, fa114_0, fa114_1, fa114_2, fa124_0, fa124_1, len134]
    obtain rfl : i = gm.rules.length := by omega
    have := hk w3 g
    simp only [zre_, hg, if_true, sizeR] at this
    rw [List.take_length]
    exact this
  simp only [show (i : Int) < gm.rules.length from by omega, decide_true, zq18, zq19, zq20, zq21, zq22, zq23, zq24, zq25, zq26, zq27, zq28, zq4, zq3, zq1, zq2, zq0, zq29, zq30, zq14, zq15, zq16, zq17, zq13, zq10, zq12, zq11, zq7, zq5, zq6, zq9, zq8, zq31, zq32, ite_T, ite_F, zq33, zq34, zq35, Nat.reduceEqDiff, len22, len24, fa26_0, fa26_1, fa26_2, len27, fa33_0, fa33_1, len35, fa114_0, fa114_1, fa114_2, fa124_0, fa124_1, len134]
  refine rdi (zic_ hG.2.ptr hlt) ?_
  refine zce_ zhc_ sz33 (hG.2.gr g) hlt fun v hv => ?_
  obtain ⟨Z, z, rfl, hz0, hz⟩ := hv
  refine zmb_ zxb_ fun b9 w9 g9 hb9 h9 => ?_
  refine zfb_ sz33 rfl (by intro u hu; simp [Value.cells] at hu; rcases hu with rfl | rfl <;> rfl) h9 (by simp [Value.cells]) fun w10 g10 s10 h10 => ?_
  have g810 := zpb_ g9 g10 hb9
  simp only [zq18, zq19, zq20, zq21, zq22, zq23, zq24, zq25, zq26, zq27, zq28, zq4, zq3, zq1, zq2, zq0, zq29, zq30, zq14, zq15, zq16, zq17, zq13, zq10, zq12, zq11, zq7, zq5, zq6, zq9, zq8, zq31, zq32, ite_T, ite_F, zq33, zq34, zq35, Nat.reduceEqDiff, len22, len24, fa26_0, fa26_1, fa26_2, len27, fa33_0, fa33_1, len35, fa114_0, fa114_1, fa114_2, fa124_0, fa124_1, len134]
  rw [zpe_ h10 rfl]
  simp only [zq18, zq19, zq20, zq21, zq22, zq23, zq24, zq25, zq26, zq27, zq28, zq4, zq3, zq1, zq2, zq0, zq29, zq30, zq14, zq15, zq16, zq17, zq13, zq10, zq12, zq11, zq7, zq5, zq6, zq9, zq8, zq31, zq32, ite_T, ite_F, zq33, zq34, zq35, Nat.reduceEqDiff, len22, len24, fa26_0, fa26_1, fa26_2, len27, fa33_0, fa33_1, len35, fa114_0, fa114_1, fa114_2, fa124_0, fa124_1, len134]
  have h1 := zti_ hlt
  have h2 := @lens_le gm.rules (i + 1)
  rw [zt_ (by omega) (by omega), zt_ (by omega) (by omega)]
  refine hN _ _ hlt ⟨hlt, rfl, ?_, zd_ g g810⟩
  show Value.int .i64 _ = _
  congr 1
  omega
theorem zat_ {w : World} {Y : Option Addr} {cy : Nat} {gm : Gram} (hG : kG Y cy gm.rules w) {k : Value → World → Prop}
    (hk : ∀ w', Gr w w' → k (.tuple #[.int .i64 (zre_ gm).1, .bool (zre_ gm).2]) w') : CallK Try.prog 137 [grv gm Y cy] k w := by
  refine enter137 ?_
  unfold S137
  refine zwb_ fun b1 w1 g1 hb1 h1 => ?_
  rw [zj_ zu_ sz26 rfl h1]
  refine zdd_ (gm := gm) (gvK ⟨hG.1, hG.2.gr g1⟩) fun w2 g => ?_
  have h1 := h1.gr g
  have g := zd_ g1 g
  cases hg : zv_ gm
  · simp only [Bool.not_false, zq18, zq19, zq20, zq21, zq22, zq23, zq24, zq25, zq26, zq27, zq28, zq4, zq3, zq1, zq2, zq0, zq29, zq30, zq14, zq15, zq16, zq17, zq13, zq10, zq12, zq11, zq7, zq5, zq6, zq9, zq8, zq31, zq32, ite_T, ite_F, zq33, zq34, zq35, Nat.reduceEqDiff, len22, len24, fa26_0, fa26_1, fa26_2, len27, fa33_0, fa33_1, len35, fa114_0, fa114_1, fa114_2, fa124_0, fa124_1, len134]
    have := hk w2 g
    simp only [zre_, hg] at this
    exact this
  simp only [Bool.not_true, zq18, zq19, zq20, zq21, zq22, zq23, zq24, zq25, zq26, zq27, zq28, zq4, zq3, zq1, zq2, zq0, zq29, zq30, zq14, zq15, zq16, zq17, zq13, zq10, zq12, zq11, zq7, zq5, zq6, zq9, zq8, zq31, zq32, ite_T, ite_F, zq33, zq34, zq35, Nat.reduceEqDiff, len22, len24, fa26_0, fa26_1, fa26_2, len27, fa33_0, fa33_1, len35, fa114_0, fa114_1, fa114_2, fa124_0, fa124_1, len134]
  rw [zyb_ h1 rfl]
  simp only [zq18, zq19, zq20, zq21, zq22, zq23, zq24, zq25, zq26, zq27, zq28, zq4, zq3, zq1, zq2, zq0, zq29, zq30, zq14, zq15, zq16, zq17, zq13, zq10, zq12, zq11, zq7, zq5, zq6, zq9, zq8, zq31, zq32, ite_T, ite_F, zq33, zq34, zq35, Nat.reduceEqDiff, len22, len24, fa26_0, fa26_1, fa26_2, len27, fa33_0, fa33_1, len35, fa114_0, fa114_1, fa114_2, fa124_0, fa124_1, len134]
  rw [zyb_ h1 rfl]
  simp only [zq18, zq19, zq20, zq21, zq22, zq23, zq24, zq25, zq26, zq27, zq28, zq4, zq3, zq1, zq2, zq0, zq29, zq30, zq14, zq15, zq16, zq17, zq13, zq10, zq12, zq11, zq7, zq5, zq6, zq9, zq8, zq31, zq32, ite_T, ite_F, zq33, zq34, zq35, Nat.reduceEqDiff, len22, len24, fa26_0, fa26_1, fa26_2, len27, fa33_0, fa33_1, len35, fa114_0, fa114_1, fa114_2, fa124_0, fa124_1, len134]
  have hr16 := zyc_ hg
  have hr4 := zid_ hg
  have hall : lens gm.rules ≤ 64 := zxp_ hg
  refine ztb_ gm.rules.length 0 (fun i f w' => i ≤ gm.rules.length ∧ f 16 = .int .i64 i ∧ f 4 = .int .i64 ((gm.rules.length + lens (gm.rules.take i) : Nat) : Int) ∧ Gr w w') ⟨Nat.zero_le _, rfl, by simp [lens]; rfl, g⟩ ?_
  rintro i f w3 N hag ⟨hi, h16, h4, g⟩ hN
  have f14 : f 14 = .slice Y gm.rules.length cy := hag 14 (by decide)
  have f15 : f 15 = .int .i64 gm.rules.length := hag 15 (by decide)
  simp only [f14, f15, h16, h4, zq18, zq19, zq20, zq21, zq22, zq23, zq24, zq25, zq26, zq27, zq28, zq4, zq3, zq1, zq2, zq0, zq29, zq30, zq14, zq15, zq16, zq17, zq13, zq10, zq12, zq11, zq7, zq5, zq6, zq9, zq8, zq31, zq32, ite_T, ite_F, zq33, zq34, zq35, Nat.reduceEqDiff, len22, len24, fa26_0, fa26_1, fa26_2, len27, fa33_0, fa33_1, len35, fa114_0, fa114_1, fa114_2, fa124_0, fa124_1, len134]
  by_cases hlt : i < gm.rules.length
  case neg =>
    simp only [show ¬ (i : Int) < gm.rules.length from by omega, decide_false, zq18, zq19, zq20, zq21, zq22, zq23, zq24, zq25, zq26, zq27, zq28, zq4, zq3, zq1, zq2, zq0, zq29, zq30, zq14, zq15, zq16, zq17, zq13, zq10, zq12, zq11, zq7, zq5, zq6, zq9, zq8, zq31, zq32, ite_T, ite_F, zq33, zq34, zq35, Nat.reduceEqDiff, len22, len24, fa26_0, fa26_1, fa26_2, len27, fa33_0, fa33_1, len35, fa114_0, fa114_1, fa114_2, fa124_0, fa124_1, len134]
    obtain rfl : i = gm.rules.length := by omega
    have := hk w3 g
    simp only [zre_, hg, if_true, sizeR] at this
    rw [List.take_length]
    exact this
  simp only [show (i : Int) < gm.rules.length from by omega, decide_true, zq18, zq19, zq20, zq21, zq22, zq23, zq24, zq25, zq26, zq27, zq28, zq4, zq3, zq1, zq2, zq0, zq29, zq30, zq14, zq15, zq16, zq17, zq13, zq10, zq12, zq11, zq7, zq5, zq6, zq9, zq8, zq31, zq32, ite_T, ite_F, zq33, zq34, zq35, Nat.reduceEqDiff, len22, len24, fa26_0, fa26_1, fa26_2, len27, fa33_0, fa33_1, len35, fa114_0, fa114_1, fa114_2, fa124_0, fa124_1, len134]
  refine rdi (zic_ hG.2.ptr hlt) ?_
  refine zce_ zhc_ sz33 (hG.2.gr g) hlt fun v hv => ?_
  obtain ⟨Z, z, rfl, hz0, hz⟩ := hv
  refine zmb_ zxb_ fun b9 w9 g9 hb9 h9 => ?_
  refine zfb_ sz33 rfl (by intro u hu; simp [Value.cells] at hu; rcases hu with rfl | rfl <;> rfl) h9 (by simp [Value.cells]) fun w10 g10 s10 h10 => ?_
  have g810 := zpb_ g9 g10 hb9
  simp only [zq18, zq19, zq20, zq21, zq22, zq23, zq24, zq25, zq26, zq27, zq28, zq4, zq3, zq1, zq2, zq0, zq29, zq30, zq14, zq15, zq16, zq17, zq13, zq10, zq12, zq11, zq7, zq5, zq6, zq9, zq8, zq31, zq32, ite_T, ite_F, zq33, zq34, zq35, Nat.reduceEqDiff, len22, len24, fa26_0, fa26_1, fa26_2, len27, fa33_0, fa33_1, len35, fa114_0, fa114_1, fa114_2, fa124_0, fa124_1, len134]
  rw [zpe_ h10 rfl]
  simp only [zq18, zq19, zq20, zq21, zq22, zq23, zq24, zq25, zq26, zq27, zq28, zq4, zq3, zq1, zq2, zq0, zq29, zq30, zq14, zq15, zq16, zq17, zq13, zq10, zq12, zq11, zq7, zq5, zq6, zq9, zq8, zq31, zq32, ite_T, ite_F, zq33, zq34, zq35, Nat.reduceEqDiff, len22, len24, fa26_0, fa26_1, fa26_2, len27, fa33_0, fa33_1, len35, fa114_0, fa114_1, fa114_2, fa124_0, fa124_1, len134]
  have h1 := zti_ hlt
  have h2 := @lens_le gm.rules (i + 1)
  rw [zt_ (by omega) (by omega), zt_ (by omega) (by omega)]
  refine hN _ _ hlt ⟨hlt, rfl, ?_, zd_ g g810⟩
  show Value.int .i64 _ = _
  congr 1
  omega
theorem zhr_ {w : World} {Y : Option Addr} {cy : Nat} {gm : Gram} {non : Int} (hG : kG Y cy gm.rules w) {k : Value → World → Prop}
    (hk : ∀ w' U d, Gr w w' → Ints w' U (zee_ gm non).1 → k (.tuple #[.slice U (zee_ gm non).1.length d, .bool (zee_ gm non).2]) w') : CallK Try.prog 140 [grv gm Y cy, .int .i64 non] k w := by
  refine enter140 ?_
  unfold S140
  refine zwb_ fun b1 w1 g1 hb1 h1 => ?_
  rw [zj_ zu_ sz26 rfl h1]
  refine zdd_ (gm := gm) (gvK ⟨hG.1, hG.2.gr g1⟩) fun w2 g => ?_
  have h1 := h1.gr g
  have g := zd_ g1 g
  cases hg : zv_ gm
  · simp only [Bool.not_false, zq18, zq19, zq20, zq21, zq22, zq23, zq24, zq25, zq26, zq27, zq28, zq4, zq3, zq1, zq2, zq0, zq29, zq30, zq14, zq15, zq16, zq17, zq13, zq10, zq12, zq11, zq7, zq5, zq6, zq9, zq8, zq31, zq32, ite_T, ite_F, zq33, zq34, zq35, Nat.reduceEqDiff, len22, len24, fa26_0, fa26_1, fa26_2, len27, fa33_0, fa33_1, len35, fa114_0, fa114_1, fa114_2, fa124_0, fa124_1, len134]
    have := hk w2 none 0 g
    simp only [zee_, hg] at this
    exact this (zth_ _)
  have hn := zed_ hg
  simp only [Bool.not_true, zq18, zq19, zq20, zq21, zq22, zq23, zq24, zq25, zq26, zq27, zq28, zq4, zq3, zq1, zq2, zq0, zq29, zq30, zq14, zq15, zq16, zq17, zq13, zq10, zq12, zq11, zq7, zq5, zq6, zq9, zq8, zq31, zq32, ite_T, ite_F, zq33, zq34, zq35, Nat.reduceEqDiff, len22, len24, fa26_0, fa26_1, fa26_2, len27, fa33_0, fa33_1, len35, fa114_0, fa114_1, fa114_2, fa124_0, fa124_1, len134]
  rw [ldB3 h1 rfl]
  simp only [zq18, zq19, zq20, zq21, zq22, zq23, zq24, zq25, zq26, zq27, zq28, zq4, zq3, zq1, zq2, zq0, zq29, zq30, zq14, zq15, zq16, zq17, zq13, zq10, zq12, zq11, zq7, zq5, zq6, zq9, zq8, zq31, zq32, ite_T, ite_F, zq33, zq34, zq35, Nat.reduceEqDiff, len22, len24, fa26_0, fa26_1, fa26_2, len27, fa33_0, fa33_1, len35, fa114_0, fa114_1, fa114_2, fa124_0, fa124_1, len134]
  rw [zt_ (by omega) (by omega)]
  refine zpg_ ?_
  cases hin : inB non 0 (gm.nons - 1)
  · simp only [Bool.not_false, zq18, zq19, zq20, zq21, zq22, zq23, zq24, zq25, zq26, zq27, zq28, zq4, zq3, zq1, zq2, zq0, zq29, zq30, zq14, zq15, zq16, zq17, zq13, zq10, zq12, zq11, zq7, zq5, zq6, zq9, zq8, zq31, zq32, ite_T, ite_F, zq33, zq34, zq35, Nat.reduceEqDiff, len22, len24, fa26_0, fa26_1, fa26_2, len27, fa33_0, fa33_1, len35, fa114_0, fa114_1, fa114_2, fa124_0, fa124_1, len134]
    have := hk w2 none 0 g
    simp only [zee_, hg, hin] at this
    exact this (zth_ _)
  simp only [Bool.not_true, zq18, zq19, zq20, zq21, zq22, zq23, zq24, zq25, zq26, zq27, zq28, zq4, zq3, zq1, zq2, zq0, zq29, zq30, zq14, zq15, zq16, zq17, zq13, zq10, zq12, zq11, zq7, zq5, zq6, zq9, zq8, zq31, zq32, ite_T, ite_F, zq33, zq34, zq35, Nat.reduceEqDiff, len22, len24, fa26_0, fa26_1, fa26_2, len27, fa33_0, fa33_1, len35, fa114_0, fa114_1, fa114_2, fa124_0, fa124_1, len134]
  rw [zj_ zu_ sz26 rfl h1]
  have hno : non = ((non.toNat : Nat) : Int) := by
    simp only [inB, Bool.and_eq_true, decide_eq_true_eq] at hin
    omega
  rw [hno]
  refine l1Rules_c (gm := gm) (gvK ⟨hG.1, hG.2.gr g⟩) hg fun w3 U d g3 o => ?_
  have := hk w3 U d (zd_ g g3)
  simp only [zee_, hg, hin, if_true, Bool.and_self] at this
  exact this o.ints
theorem zir_ {w : World} {Y : Option Addr} {cy : Nat} {gm : Gram} {non : Int} (hG : kG Y cy gm.rules w) {k : Value → World → Prop}
    (hk : ∀ w' U d, Gr w w' → Ints w' U (zee_ gm non).1 → k (.tuple #[.slice U (zee_ gm non).1.length d, .bool (zee_ gm non).2]) w') : CallK Try.prog 139 [grv gm Y cy, .int .i64 non] k w := by
  refine enter139 ?_
  unfold S139
  have H := Apt.nil w
  refine boxH H fun b1 w1 H => ?_
  simp only [List.nil_append, List.cons_append] at H
  rw [zj_ zu_ sz26 rfl (H.box 0 rfl)]
  refine zae_ (gm := gm) (gvK ⟨hG.1, hG.2.gr H.gr⟩) fun w2 g => ?_
  have H := H.step g
  cases hg : zv_ gm
  · simp only [Bool.not_false, zq18, zq19, zq20, zq21, zq22, zq23, zq24, zq25, zq26, zq27, zq28, zq4, zq3, zq1, zq2, zq0, zq29, zq30, zq14, zq15, zq16, zq17, zq13, zq10, zq12, zq11, zq7, zq5, zq6, zq9, zq8, zq31, zq32, ite_T, ite_F, zq33, zq34, zq35, Nat.reduceEqDiff, len22, len24, fa26_0, fa26_1, fa26_2, len27, fa33_0, fa33_1, len35, fa114_0, fa114_1, fa114_2, fa124_0, fa124_1, len134]
    have := hk w2 none 0 H.gr
    simp only [zee_, hg] at this
    exact this (zth_ _)
  have hn := zed_ hg
  have hr16 := zyc_ hg
  simp only [Bool.not_true, zq18, zq19, zq20, zq21, zq22, zq23, zq24, zq25, zq26, zq27, zq28, zq4, zq3, zq1, zq2, zq0, zq29, zq30, zq14, zq15, zq16, zq17, zq13, zq10, zq12, zq11, zq7, zq5, zq6, zq9, zq8, zq31, zq32, ite_T, ite_F, zq33, zq34, zq35, Nat.reduceEqDiff, len22, len24, fa26_0, fa26_1, fa26_2, len27, fa33_0, fa33_1, len35, fa114_0, fa114_1, fa114_2, fa124_0, fa124_1, len134]
  rw [ldB3 (H.box 0 rfl) rfl]
  simp only [zq18, zq19, zq20, zq21, zq22, zq23, zq24, zq25, zq26, zq27, zq28, zq4, zq3, zq1, zq2, zq0, zq29, zq30, zq14, zq15, zq16, zq17, zq13, zq10, zq12, zq11, zq7, zq5, zq6, zq9, zq8, zq31, zq32, ite_T, ite_F, zq33, zq34, zq35, Nat.reduceEqDiff, len22, len24, fa26_0, fa26_1, fa26_2, len27, fa33_0, fa33_1, len35, fa114_0, fa114_1, fa114_2, fa124_0, fa124_1, len134]
  rw [zt_ (by omega) (by omega)]
  refine in_c ?_
  cases hin : inB non 0 (gm.nons - 1)
  · simp only [Bool.not_false, zq18, zq19, zq20, zq21, zq22, zq23, zq24, zq25, zq26, zq27, zq28, zq4, zq3, zq1, zq2, zq0, zq29, zq30, zq14, zq15, zq16, zq17, zq13, zq10, zq12, zq11, zq7, zq5, zq6, zq9, zq8, zq31, zq32, ite_T, ite_F, zq33, zq34, zq35, Nat.reduceEqDiff, len22, len24, fa26_0, fa26_1, fa26_2, len27, fa33_0, fa33_1, len35, fa114_0, fa114_1, fa114_2, fa124_0, fa124_1, len134]
    have := hk w2 none 0 H.gr
    simp only [zee_, hg, hin] at this
    exact this (zth_ _)
  simp only [Bool.not_true, zq18, zq19, zq20, zq21, zq22, zq23, zq24, zq25, zq26, zq27, zq28, zq4, zq3, zq1, zq2, zq0, zq29, zq30, zq14, zq15, zq16, zq17, zq13, zq10, zq12, zq11, zq7, zq5, zq6, zq9, zq8, zq31, zq32, ite_T, ite_F, zq33, zq34, zq35, Nat.reduceEqDiff, len22, len24, fa26_0, fa26_1, fa26_2, len27, fa33_0, fa33_1, len35, fa114_0, fa114_1, fa114_2, fa124_0, fa124_1, len134]
  obtain ⟨A, rfl⟩ : ∃ A : Nat, non = (A : Int) := ⟨non.toNat, by
    simp only [inB, Bool.and_eq_true, decide_eq_true_eq] at hin
    omega⟩
  refine bs27 [] (by decide) (by simp [Instr.fill, madeCells]) rfl fun b5 w5 hb5 hb5' g5 hbox5 hrow5 => ?_
  have H := H.addOwn g5 (show Own 3 w5 w2.heap.size (some ⟨b5, 0, none⟩) 0 [] from hrow5 _ (Nat.le_refl _))
  simp only [List.nil_append, List.cons_append] at H
  rw [zyb_ (H.box 0 rfl) rfl]
  simp only [zq18, zq19, zq20, zq21, zq22, zq23, zq24, zq25, zq26, zq27, zq28, zq4, zq3, zq1, zq2, zq0, zq29, zq30, zq14, zq15, zq16, zq17, zq13, zq10, zq12, zq11, zq7, zq5, zq6, zq9, zq8, zq31, zq32, ite_T, ite_F, zq33, zq34, zq35, Nat.reduceEqDiff, len22, len24, fa26_0, fa26_1, fa26_2, len27, fa33_0, fa33_1, len35, fa114_0, fa114_1, fa114_2, fa124_0, fa124_1, len134]
  refine ztb_ gm.rules.length 0 (fun q f w' => q ≤ gm.rules.length ∧ f 24 = .int .i64 q ∧ ∃ U d, f 6 = .slice U (zmc_ gm.rules A q).length d ∧ Apt w w' [bx b1 [.int .i64 gm.nons, .int .i64 gm.toks, .slice Y gm.rules.length cy] 26, ows U d (zmc_ gm.rules A q)])
    ⟨Nat.zero_le _, rfl, some ⟨b5, 0, none⟩, 0, rfl, H⟩ ?_
  clear H
  rintro q f w3 N hag ⟨hq, h24, U, d, h6, H⟩ hN
  have f22 : f 22 = .slice Y gm.rules.length cy := hag 22 (by decide)
  have f23 : f 23 = .int .i64 gm.rules.length := hag 23 (by decide)
  have f1 : f 1 = .int .i64 A := hag 1 (by decide)
  simp only [f22, f23, f1, h24, h6, zq18, zq19, zq20, zq21, zq22, zq23, zq24, zq25, zq26, zq27, zq28, zq4, zq3, zq1, zq2, zq0, zq29, zq30, zq14, zq15, zq16, zq17, zq13, zq10, zq12, zq11, zq7, zq5, zq6, zq9, zq8, zq31, zq32, ite_T, ite_F, zq33, zq34, zq35, Nat.reduceEqDiff, len22, len24, fa26_0, fa26_1, fa26_2, len27, fa33_0, fa33_1, len35, fa114_0, fa114_1, fa114_2, fa124_0, fa124_1, len134]
  by_cases hlq : q < gm.rules.length
  case neg =>
    simp only [show ¬ ((q : Int) < gm.rules.length) from by omega, decide_false, zq18, zq19, zq20, zq21, zq22, zq23, zq24, zq25, zq26, zq27, zq28, zq4, zq3, zq1, zq2, zq0, zq29, zq30, zq14, zq15, zq16, zq17, zq13, zq10, zq12, zq11, zq7, zq5, zq6, zq9, zq8, zq31, zq32, ite_T, ite_F, zq33, zq34, zq35, Nat.reduceEqDiff, len22, len24, fa26_0, fa26_1, fa26_2, len27, fa33_0, fa33_1, len35, fa114_0, fa114_1, fa114_2, fa124_0, fa124_1, len134]
    obtain rfl : q = gm.rules.length := by omega
    have := hk w3 U d H.gr
    simp only [zee_, hg, hin, if_true, Bool.and_self] at this
    exact this (H.own 1 rfl).ints
  simp only [show ((q : Int) < gm.rules.length) from by omega, decide_true, zq18, zq19, zq20, zq21, zq22, zq23, zq24, zq25, zq26, zq27, zq28, zq4, zq3, zq1, zq2, zq0, zq29, zq30, zq14, zq15, zq16, zq17, zq13, zq10, zq12, zq11, zq7, zq5, zq6, zq9, zq8, zq31, zq32, ite_T, ite_F, zq33, zq34, zq35, Nat.reduceEqDiff, len22, len24, fa26_0, fa26_1, fa26_2, len27, fa33_0, fa33_1, len35, fa114_0, fa114_1, fa114_2, fa124_0, fa124_1, len134]
  refine zmd_ (fun g w' => g 24 = .int .i64 (q : Int) ∧ ∃ U d, g 6 = .slice U (zmc_ gm.rules A (q + 1)).length d ∧ Apt w w' [bx b1 [.int .i64 gm.nons, .int .i64 gm.toks, .slice Y gm.rules.length cy] 26, ows U d (zmc_ gm.rules A (q + 1))]) (fun K hK => ?_) ?_
  case refine_2 =>
    rintro g w' ⟨g24, U, d, g6, H⟩
    simp only [g24, zq18, zq19, zq20, zq21, zq22, zq23, zq24, zq25, zq26, zq27, zq28, zq4, zq3, zq1, zq2, zq0, zq29, zq30, zq14, zq15, zq16, zq17, zq13, zq10, zq12, zq11, zq7, zq5, zq6, zq9, zq8, zq31, zq32, ite_T, ite_F, zq33, zq34, zq35, Nat.reduceEqDiff, len22, len24, fa26_0, fa26_1, fa26_2, len27, fa33_0, fa33_1, len35, fa114_0, fa114_1, fa114_2, fa124_0, fa124_1, len134]
    rw [zt_ (by omega) (by omega)]
    exact hN _ _ hlq ⟨hlq, rfl, U, d, g6, H⟩
  refine rdi (zic_ hG.2.ptr hlq) ?_
  refine zce_ zhc_ sz33 (hG.2.gr H.gr) hlq fun v hv => ?_
  obtain ⟨Z, z, rfl, hz0, hz⟩ := hv
  refine zkc_ H zxb_ fun b9 w9 H => ?_
  refine zub_ H 2 rfl sz33 rfl rfl rfl fun w10 H => ?_
  simp only [List.nil_append, List.cons_append, List.set_cons_zero, List.set_cons_succ] at H
  simp only [zq18, zq19, zq20, zq21, zq22, zq23, zq24, zq25, zq26, zq27, zq28, zq4, zq3, zq1, zq2, zq0, zq29, zq30, zq14, zq15, zq16, zq17, zq13, zq10, zq12, zq11, zq7, zq5, zq6, zq9, zq8, zq31, zq32, ite_T, ite_F, zq33, zq34, zq35, Nat.reduceEqDiff, len22, len24, fa26_0, fa26_1, fa26_2, len27, fa33_0, fa33_1, len35, fa114_0, fa114_1, fa114_2, fa124_0, fa124_1, len134]
  rw [ldB3 (H.box 2 rfl) rfl]
  simp only [zq18, zq19, zq20, zq21, zq22, zq23, zq24, zq25, zq26, zq27, zq28, zq4, zq3, zq1, zq2, zq0, zq29, zq30, zq14, zq15, zq16, zq17, zq13, zq10, zq12, zq11, zq7, zq5, zq6, zq9, zq8, zq31, zq32, ite_T, ite_F, zq33, zq34, zq35, Nat.reduceEqDiff, len22, len24, fa26_0, fa26_1, fa26_2, len27, fa33_0, fa33_1, len35, fa114_0, fa114_1, fa114_2, fa124_0, fa124_1, len134]
  by_cases hA : (rul gm.rules q).1 = (A : Int)
  · simp only [hA, decide_true, zq18, zq19, zq20, zq21, zq22, zq23, zq24, zq25, zq26, zq27, zq28, zq4, zq3, zq1, zq2, zq0, zq29, zq30, zq14, zq15, zq16, zq17, zq13, zq10, zq12, zq11, zq7, zq5, zq6, zq9, zq8, zq31, zq32, ite_T, ite_F, zq33, zq34, zq35, Nat.reduceEqDiff, len22, len24, fa26_0, fa26_1, fa26_2, len27, fa33_0, fa33_1, len35, fa114_0, fa114_1, fa114_2, fa124_0, fa124_1, len134]
    refine pushH H 1 rfl rfl (by have := zxj_ gm.rules A q; omega) fun t U' d' w2 H => ?_
    simp only [List.set_cons_zero, List.set_cons_succ] at H
    rw [← zwj_ hA] at H ⊢
    exact hK _ _ ⟨h24, U', d', rfl, H.take 2⟩
  · simp only [hA, decide_false, zq18, zq19, zq20, zq21, zq22, zq23, zq24, zq25, zq26, zq27, zq28, zq4, zq3, zq1, zq2, zq0, zq29, zq30, zq14, zq15, zq16, zq17, zq13, zq10, zq12, zq11, zq7, zq5, zq6, zq9, zq8, zq31, zq32, ite_T, ite_F, zq33, zq34, zq35, Nat.reduceEqDiff, len22, len24, fa26_0, fa26_1, fa26_2, len27, fa33_0, fa33_1, len35, fa114_0, fa114_1, fa114_2, fa124_0, fa124_1, len134]
    refine hK _ _ ⟨h24, U, d, ?_, ?_⟩
    · rw [zhi_ hA]
      exact h6
    · rw [zhi_ hA]
      exact H.take 2
end Go.Proofs.Ytegcjkhebecgbaa

namespace Go.Sh
open Go
theorem zbp_ {xs ys : List RuleL} {i : Nat} (hi : i < xs.length) (hj : i < ys.length) : xs.drop i = ys.drop i ↔ rul xs i = rul ys i ∧ xs.drop (i + 1) = ys.drop (i + 1) := by
  rw [List.drop_eq_getElem_cons hi, List.drop_eq_getElem_cons hj, zpc_ hi, zpc_ hj]
  exact ⟨fun h => by injection h with h1 h2; exact ⟨h1, h2⟩, fun h => by rw [h.1, h.2]⟩
end Go.Sh
namespace Go.Proofs.Ytegcjkhebecgbaa
open Go Go.Sh Go.RowKit
theorem zcp_ {w : World} {Y : Option Addr} {c : Nat} {gm : Gram} (hG : kG Y c gm.rules w) {k : Value → World → Prop}
    (hk : ∀ w' Z d, Gr w w' → kG Z d (zud_ gm).1.rules w' → k (.tuple #[grv (zud_ gm).1 Z d, .bool (zud_ gm).2]) w') :
    CallK Try.prog 126 [grv gm Y c] k w := by
  refine enter126 ?_
  unfold S126
  refine zwb_ fun b1 w1 g1 hb1 h1 => ?_
  refine zmb_ zdc_ fun b3 w2 g2 hb3 h3 => ?_
  have h1 := h1.gr g2
  have q3 := Nat.le_trans g1.size hb3
  rw [zj_ zu_ sz26 rfl h1]
  have g := zd_ g1 g2
  refine zdd_ (gm := gm) (gvK ⟨hG.1, hG.2.gr g⟩) fun w4 g4 => ?_
  have g := zd_ g g4
  have h1 := h1.gr g4
  have h3 := h3.gr g4
  cases hg : zv_ gm
  · simp only [Bool.not_false, go_sem, Nat.reduceEqDiff]
    rw [bd26 (cells := #[.int .i64 0, .int .i64 0, .slice none 0 0]) rfl]
    refine zfb_ sz26 rfl (by intro u hu; simp [Value.cells] at hu; rcases hu with rfl | rfl | rfl <;> rfl) h3 (by simp [Value.cells]) fun w5 g5 s5 h5 => ?_
    rw [zcb_, zj_ zu_ sz26 rfl h5]
    have := hk w5 none 0 (zpb_ g g5 q3)
    simp only [zud_, hg] at this
    exact this kG_nil
  simp only [Bool.not_true, go_sem, Nat.reduceEqDiff]
  rw [zj_ zu_ sz26 rfl h1]
  have hlen := zyc_ hg
  have hr4 := zid_ hg
  refine zuk_ (gm := gm) (gvK ⟨hG.1, hG.2.gr g⟩) hg fun v w5 g5 hv5 => ?_
  obtain ⟨X, cx, ps, rfl, o5⟩ := hv5
  have h3 := h3.gr g5
  refine zmb_ zdc_ fun b6 w6 g6 hb6 h6 => ?_
  have n36 := h3.ne hb6
  have q6 := Nat.le_trans (zd_ g g5).size hb6
  refine zfb_ sz26 rfl (by intro u hu; simp [Value.cells] at hu; rcases hu with rfl | rfl | rfl <;> rfl) h6 (by simp [Value.cells]) fun w7 g7 s7 h7 => ?_
  have h3 := (h3.gr g6).put g7 n36
  have o7 := ((o5.mono g.size).gr g6).put h6 (by decide) (by decide) g7
  have g := zpb_ (zd_ (zd_ g g5) g6) g7 q6
  simp only [go_sem, Nat.reduceEqDiff]
  rw [zyb_ h7 rfl]
  simp only [go_sem, Nat.reduceEqDiff]
  have hrl := (List.length_map revR : (gm.rules.map revR).length = gm.rules.length)
  refine ztb_ gm.rules.length 0 (fun i f w' => i ≤ gm.rules.length ∧ f 15 = .int .i64 i ∧ Gr w w' ∧ Box w' b3 [.int .i64 0, .int .i64 0, .slice none 0 0] 26 ∧ Box w' b6 [.int .i64 gm.nons, .int .i64 gm.toks, .slice X gm.rules.length cx] 26 ∧ ∃ ps, OwnR 33 3 w' w.heap.size X cx ((gm.rules.map revR).take i ++ gm.rules.drop i) ps) ⟨Nat.zero_le _, rfl, g, h3, by simpa [Value.cells] using h7, ps, by simpa using o7⟩ ?_
  clear o5 o7 ps
  rintro i f w8 N hag ⟨hi, h15, g, h3, h7, ps, o7⟩ hN
  have f2 : f 2 = .pointer (some ⟨b3, 0, none⟩) := hag 2 (by decide)
  have f4 : f 4 = .pointer (some ⟨b6, 0, none⟩) := hag 4 (by decide)
  have f14 : f 14 = .int .i64 gm.rules.length := hag 14 (by decide)
  simp only [f2, f4, f14, h15, go_sem, Nat.reduceEqDiff]
  have hpl := zjg_ (i := i) hrl
  by_cases hlt : i < gm.rules.length
  case neg =>
    simp only [show ¬ (i : Int) < gm.rules.length from by omega, decide_false, go_sem, Nat.reduceEqDiff]
    obtain rfl : i = gm.rules.length := by omega
    rw [List.take_of_length_le (by omega), List.drop_length, List.append_nil] at o7
    rw [zj_ zu_ sz26 rfl h7]
    refine zfb_ sz26 rfl (by intro u hu; simp [Value.cells] at hu; rcases hu with rfl | rfl | rfl <;> rfl) h3 (by simp [Value.cells]) fun w9 g9 s9 h9 => ?_
    rw [zcb_, zj_ zu_ sz26 rfl h9]
    have := hk w9 X cx (zpb_ g g9 q3)
    simp only [zud_, hg, if_true, grv, hrl] at this
    exact this (ownK (o7.put h3 (by decide) (by decide) g9))
  have hlt' : (i : Int) < gm.rules.length := by omega
  simp only [hlt', decide_true, go_sem, Nat.reduceEqDiff]
  have gd := zfc_ w8
  have hrp := zuf_ hrl hlt
  refine ⟨fun w' => Gr w8.drew w', Gr.refl _, ?_⟩
  simp only [go_sem, Nat.reduceEqDiff]
  rw [ldS24 (fun w' hw' => ((h7.gr gd).gr hw').cell 2), ldS24 (fun w' hw' => ((h7.gr gd).gr hw').cell 2)]
  rw [zic_ (fun h => o7.ptr (by omega)) hlt, fa33_1, zbc_]
  rw [ldS27 (fun w' hw' => (((o7.gr gd).gr hw').cell2 (j := i) (by omega)).2)]
  have o10 := o7.gr gd
  have oi := o10.own i (by omega)
  rw [hrp] at oi ⊢
  refine l1Turned_c oi.ints rfl (by have := hr4 i hlt; omega) fun w11 U d g11 o11 => ?_
  refine ⟨g11, ?_⟩
  have g811 := zd_ gd g11
  simp only [go_sem, Nat.reduceEqDiff]
  rw [zic_ (fun h => o7.ptr (by omega)) hlt, fa33_1, zbc_]
  have hrev : (rul gm.rules i).2.length = (rul gm.rules i).2.reverse.length := by simp
  rw [hrev]
  refine do_store_rt sz27 (by decide) (o7.gr g811) (by omega) (o11.mono (zd_ g gd).size) (fun j hj hne => ?_) fun w12 g12 o12 => ?_
  · cases hq : blk U with
    | none => exact .inl rfl
    | some q =>
      refine .inr fun e => ?_
      have h1 := (Row.ge o11 hq).1
      have h2 := (Row.ge (o10.own j hj) e.symm).2
      omega
  have he : rul (gm.rules.map revR) i = ((rul gm.rules i).1, (rul gm.rules i).2.reverse) := zbj_ hlt
  rw [hrp, ← he, zaj_ hlt hrl] at o12
  obtain ⟨cells, hr, _⟩ := (o7.gr g811).cells
  have h3 := (h3.gr g811).kept g12 (zrc_ (h3.gr g811) hr (by decide))
  have h7 := (h7.gr g811).kept g12 (zrc_ (h7.gr g811) hr (by decide))
  rw [zt_ (by omega) (by omega)]
  exact hN _ _ hlt ⟨by omega, rfl, zaf_ (zd_ g g811) g12 fun q hq => (Row.ge hr hq).1, h3, h7, _, o12⟩
section
variable {w : World} {Y X Z : Option Addr} {cy cx cz n m : Nat} {gm g2 : Gram} {k : Value → World → Prop}
theorem zbt_ {rs qs : List RuleL} (hx : RulesF (fun _ => True) w X rs) (hy : RulesF (fun _ => True) w Y qs) (hn : n = rs.length) (hm : m = qs.length) (hk : ∀ w', Gr w w' → k (.bool (decide (rs = qs))) w') :
    CallK Try.prog 241 [.slice X n cx, .slice Y m cy, .func (.func 242) #[] #[]] k w := by
  subst hn hm
  refine enter241 ?_
  unfold S241
  have hle := hx.le
  simp only [zq18, zq19, zq20, zq21, zq22, zq23, zq24, zq25, zq26, zq27, zq28, zq4, zq3, zq1, zq2, zq0, zq29, zq30, zq14, zq15, zq16, zq17, zq13, zq10, zq12, zq11, zq7, zq5, zq6, zq9, zq8, zq31, zq32, ite_T, ite_F, zq33, zq34, zq35, Nat.reduceEqDiff, len22, len24, fa26_0, fa26_1, fa26_2, len27, fa33_0, fa33_1, len35, fa114_0, fa114_1, fa114_2, fa124_0, fa124_1, len134]
  by_cases hl : rs.length = qs.length
  case neg =>
    simp only [Int.ofNat_inj, hl, decide_false, Bool.not_false, zq18, zq19, zq20, zq21, zq22, zq23, zq24, zq25, zq26, zq27, zq28, zq4, zq3, zq1, zq2, zq0, zq29, zq30, zq14, zq15, zq16, zq17, zq13, zq10, zq12, zq11, zq7, zq5, zq6, zq9, zq8, zq31, zq32, ite_T, ite_F, zq33, zq34, zq35, Nat.reduceEqDiff, len22, len24, fa26_0, fa26_1, fa26_2, len27, fa33_0, fa33_1, len35, fa114_0, fa114_1, fa114_2, fa124_0, fa124_1, len134]
    have := hk _ (Gr.refl w)
    rwa [show decide (rs = qs) = false from decide_eq_false fun e => hl (by rw [e])] at this
  simp only [Int.ofNat_inj, hl, decide_true, Bool.not_true, zq18, zq19, zq20, zq21, zq22, zq23, zq24, zq25, zq26, zq27, zq28, zq4, zq3, zq1, zq2, zq0, zq29, zq30, zq14, zq15, zq16, zq17, zq13, zq10, zq12, zq11, zq7, zq5, zq6, zq9, zq8, zq31, zq32, ite_T, ite_F, zq33, zq34, zq35, Nat.reduceEqDiff, len22, len24, fa26_0, fa26_1, fa26_2, len27, fa33_0, fa33_1, len35, fa114_0, fa114_1, fa114_2, fa124_0, fa124_1, len134]
  rw [← hl]
  refine ztb_ rs.length 0 (fun i f w' => i ≤ rs.length ∧ f 17 = .int .i64 i ∧ Gr w w' ∧ (rs = qs ↔ rs.drop i = qs.drop i)) ⟨Nat.zero_le _, rfl, Gr.refl w, by simp⟩ ?_
  rintro i f w1 N hag ⟨hi, h17, g, hE⟩ hN
  have f1 : f 1 = .slice Y rs.length cy := hag 1 (by decide)
  have f2 : f 2 = .func (.func 242) #[] #[] := hag 2 (by decide)
  have f15 : f 15 = .slice X rs.length cx := hag 15 (by decide)
  have f16 : f 16 = .int .i64 rs.length := hag 16 (by decide)
  simp only [f1, f2, f15, f16, h17, zq18, zq19, zq20, zq21, zq22, zq23, zq24, zq25, zq26, zq27, zq28, zq4, zq3, zq1, zq2, zq0, zq29, zq30, zq14, zq15, zq16, zq17, zq13, zq10, zq12, zq11, zq7, zq5, zq6, zq9, zq8, zq31, zq32, ite_T, ite_F, zq33, zq34, zq35, Nat.reduceEqDiff, len22, len24, fa26_0, fa26_1, fa26_2, len27, fa33_0, fa33_1, len35, fa114_0, fa114_1, fa114_2, fa124_0, fa124_1, len134]
  by_cases hlt : i < rs.length
  case neg =>
    simp only [show ¬ ((i : Int) < rs.length) from by omega, decide_false, zq18, zq19, zq20, zq21, zq22, zq23, zq24, zq25, zq26, zq27, zq28, zq4, zq3, zq1, zq2, zq0, zq29, zq30, zq14, zq15, zq16, zq17, zq13, zq10, zq12, zq11, zq7, zq5, zq6, zq9, zq8, zq31, zq32, ite_T, ite_F, zq33, zq34, zq35, Nat.reduceEqDiff, len22, len24, fa26_0, fa26_1, fa26_2, len27, fa33_0, fa33_1, len35, fa114_0, fa114_1, fa114_2, fa124_0, fa124_1, len134]
    rw [List.drop_of_length_le (by omega), List.drop_of_length_le (by omega)] at hE
    have := hk _ g
    rwa [show decide (rs = qs) = true from decide_eq_true (hE.2 rfl)] at this
  simp only [show ((i : Int) < rs.length) from by omega, decide_true, zq18, zq19, zq20, zq21, zq22, zq23, zq24, zq25, zq26, zq27, zq28, zq4, zq3, zq1, zq2, zq0, zq29, zq30, zq14, zq15, zq16, zq17, zq13, zq10, zq12, zq11, zq7, zq5, zq6, zq9, zq8, zq31, zq32, ite_T, ite_F, zq33, zq34, zq35, Nat.reduceEqDiff, len22, len24, fa26_0, fa26_1, fa26_2, len27, fa33_0, fa33_1, len35, fa114_0, fa114_1, fa114_2, fa124_0, fa124_1, len134]
  have hj : i < qs.length := by omega
  refine rdi (zic_ hx.ptr hlt) ?_
  refine zce_ zhc_ sz33 (hx.gr g) hlt fun v hv => ?_
  obtain ⟨Z1, z1, rfl, hz1, hi1⟩ := hv
  refine zmb_ zxb_ fun b9 w9 g9 hb9 h9 => ?_
  refine zfb_ sz33 rfl (by intro u hu; simp [Value.cells] at hu; rcases hu with rfl | rfl <;> rfl) h9 (by simp [Value.cells]) fun w10 g10 s10 h10 => ?_
  have g1 := zpb_ g9 g10 hb9
  have hp : 0 < rs.length → Y = some (ad Y) := fun h => hy.ptr (by omega)
  refine rdi (zic_ hp hlt) ?_
  refine zce_ zhc_ sz33 (hy.gr (zd_ g g1)) hj fun v hv => ?_
  obtain ⟨Z2, z2, rfl, hz2, hi2⟩ := hv
  refine zmb_ zxb_ fun b11 w11 g11 hb11 h11 => ?_
  have n1 := h10.ne hb11
  refine zfb_ sz33 rfl (by intro u hu; simp [Value.cells] at hu; rcases hu with rfl | rfl <;> rfl) h11 (by simp [Value.cells]) fun w12 g12 s12 h12 => ?_
  have h10 := (h10.gr g11).put g12 n1
  have g2 := zpb_ g11 g12 hb11
  rw [zj_ zhc_ sz33 rfl h10, zj_ zhc_ sz33 rfl h12]
  refine callVc (caps := []) ?_
  refine zhm_ (F := fun _ => True) (E := fun _ => True) ⟨Z1, z1, rfl, hz1, hi1.gr (zd_ g1 g2)⟩ ⟨Z2, z2, rfl, hz2, hi2.gr g2⟩ fun w13 g13 => ?_
  have G := zd_ g (zd_ g1 (zd_ g2 g13))
  rw [zbp_ hlt hj] at hE
  by_cases e : rul rs i = rul qs i
  · rw [decide_eq_true e]
    simp only [Bool.not_true, zq18, zq19, zq20, zq21, zq22, zq23, zq24, zq25, zq26, zq27, zq28, zq4, zq3, zq1, zq2, zq0, zq29, zq30, zq14, zq15, zq16, zq17, zq13, zq10, zq12, zq11, zq7, zq5, zq6, zq9, zq8, zq31, zq32, ite_T, ite_F, zq33, zq34, zq35, Nat.reduceEqDiff, len22, len24, fa26_0, fa26_1, fa26_2, len27, fa33_0, fa33_1, len35, fa114_0, fa114_1, fa114_2, fa124_0, fa124_1, len134]
    rw [zt_ (by omega) (by omega)]
    exact hN _ _ hlt ⟨by omega, rfl, G, hE.trans ⟨fun h => h.2, fun h => ⟨e, h⟩⟩⟩
  · rw [decide_eq_false e]
    simp only [Bool.not_false, zq18, zq19, zq20, zq21, zq22, zq23, zq24, zq25, zq26, zq27, zq28, zq4, zq3, zq1, zq2, zq0, zq29, zq30, zq14, zq15, zq16, zq17, zq13, zq10, zq12, zq11, zq7, zq5, zq6, zq9, zq8, zq31, zq32, ite_T, ite_F, zq33, zq34, zq35, Nat.reduceEqDiff, len22, len24, fa26_0, fa26_1, fa26_2, len27, fa33_0, fa33_1, len35, fa114_0, fa114_1, fa114_2, fa124_0, fa124_1, len134]
    have := hk _ G
    rwa [show decide (rs = qs) = false from decide_eq_false fun h => e (hE.1 h).1] at this
theorem zmf_ (hx : kG X cx gm.rules w) (hy : kG Y cy g2.rules w) (hk : ∀ w', Gr w w' → k (.bool (decide (gm = g2))) w') :
    CallK Try.prog 131 [grv gm X cx, grv g2 Y cy] k w := by
  refine enter131 ?_
  unfold S131
  have H := ((Kn.nil w).addG hx.1 hx.2).addG hy.1 hy.2
  refine zwb_ fun b1 w1 g1 hb1 B1 => ?_
  have H := (H.step g1).addB B1
  refine zwb_ fun b2 w2 gg hb2 B2 => ?_
  have H := (H.step gg).addB B2
  simp only [List.cons_append, List.nil_append] at H
  obtain ⟨n1, t1, r1⟩ := gm
  obtain ⟨n2, t2, r2⟩ := g2
  simp only [zq18, zq19, zq20, zq21, zq22, zq23, zq24, zq25, zq26, zq27, zq28, zq4, zq3, zq1, zq2, zq0, zq29, zq30, zq14, zq15, zq16, zq17, zq13, zq10, zq12, zq11, zq7, zq5, zq6, zq9, zq8, zq31, zq32, ite_T, ite_F, zq33, zq34, zq35, Nat.reduceEqDiff, len22, len24, fa26_0, fa26_1, fa26_2, len27, fa33_0, fa33_1, len35, fa114_0, fa114_1, fa114_2, fa124_0, fa124_1, len134]
  rw [ldB3 (H.get 3 rfl) rfl, ldB3 (H.get 4 rfl) rfl]
  simp only [zq18, zq19, zq20, zq21, zq22, zq23, zq24, zq25, zq26, zq27, zq28, zq4, zq3, zq1, zq2, zq0, zq29, zq30, zq14, zq15, zq16, zq17, zq13, zq10, zq12, zq11, zq7, zq5, zq6, zq9, zq8, zq31, zq32, ite_T, ite_F, zq33, zq34, zq35, Nat.reduceEqDiff, len22, len24, fa26_0, fa26_1, fa26_2, len27, fa33_0, fa33_1, len35, fa114_0, fa114_1, fa114_2, fa124_0, fa124_1, len134]
  by_cases hn : n1 = n2
  case neg =>
    simp only [hn, decide_false, zq18, zq19, zq20, zq21, zq22, zq23, zq24, zq25, zq26, zq27, zq28, zq4, zq3, zq1, zq2, zq0, zq29, zq30, zq14, zq15, zq16, zq17, zq13, zq10, zq12, zq11, zq7, zq5, zq6, zq9, zq8, zq31, zq32, ite_T, ite_F, zq33, zq34, zq35, Nat.reduceEqDiff, len22, len24, fa26_0, fa26_1, fa26_2, len27, fa33_0, fa33_1, len35, fa114_0, fa114_1, fa114_2, fa124_0, fa124_1, len134]
    have := hk _ (H.get 0 rfl)
    rwa [decide_eq_false (fun e => hn (by injection e))] at this
  simp only [hn, decide_true, zq18, zq19, zq20, zq21, zq22, zq23, zq24, zq25, zq26, zq27, zq28, zq4, zq3, zq1, zq2, zq0, zq29, zq30, zq14, zq15, zq16, zq17, zq13, zq10, zq12, zq11, zq7, zq5, zq6, zq9, zq8, zq31, zq32, ite_T, ite_F, zq33, zq34, zq35, Nat.reduceEqDiff, len22, len24, fa26_0, fa26_1, fa26_2, len27, fa33_0, fa33_1, len35, fa114_0, fa114_1, fa114_2, fa124_0, fa124_1, len134]
  rw [ldB3 (H.get 3 rfl) rfl, ldB3 (H.get 4 rfl) rfl]
  simp only [zq18, zq19, zq20, zq21, zq22, zq23, zq24, zq25, zq26, zq27, zq28, zq4, zq3, zq1, zq2, zq0, zq29, zq30, zq14, zq15, zq16, zq17, zq13, zq10, zq12, zq11, zq7, zq5, zq6, zq9, zq8, zq31, zq32, ite_T, ite_F, zq33, zq34, zq35, Nat.reduceEqDiff, len22, len24, fa26_0, fa26_1, fa26_2, len27, fa33_0, fa33_1, len35, fa114_0, fa114_1, fa114_2, fa124_0, fa124_1, len134]
  by_cases ht : t1 = t2
  case neg =>
    simp only [ht, decide_false, zq18, zq19, zq20, zq21, zq22, zq23, zq24, zq25, zq26, zq27, zq28, zq4, zq3, zq1, zq2, zq0, zq29, zq30, zq14, zq15, zq16, zq17, zq13, zq10, zq12, zq11, zq7, zq5, zq6, zq9, zq8, zq31, zq32, ite_T, ite_F, zq33, zq34, zq35, Nat.reduceEqDiff, len22, len24, fa26_0, fa26_1, fa26_2, len27, fa33_0, fa33_1, len35, fa114_0, fa114_1, fa114_2, fa124_0, fa124_1, len134]
    have := hk _ (H.get 0 rfl)
    rwa [decide_eq_false (fun e => ht (by injection e))] at this
  simp only [ht, decide_true, zq18, zq19, zq20, zq21, zq22, zq23, zq24, zq25, zq26, zq27, zq28, zq4, zq3, zq1, zq2, zq0, zq29, zq30, zq14, zq15, zq16, zq17, zq13, zq10, zq12, zq11, zq7, zq5, zq6, zq9, zq8, zq31, zq32, ite_T, ite_F, zq33, zq34, zq35, Nat.reduceEqDiff, len22, len24, fa26_0, fa26_1, fa26_2, len27, fa33_0, fa33_1, len35, fa114_0, fa114_1, fa114_2, fa124_0, fa124_1, len134]
  rw [zyb_ (H.get 3 rfl) rfl, zyb_ (H.get 4 rfl) rfl]
  refine zbt_ (H.get 1 rfl).2 (H.get 2 rfl).2 rfl rfl fun w3 g3 => ?_
  have H := H.step g3
  simp only [zq18, zq19, zq20, zq21, zq22, zq23, zq24, zq25, zq26, zq27, zq28, zq4, zq3, zq1, zq2, zq0, zq29, zq30, zq14, zq15, zq16, zq17, zq13, zq10, zq12, zq11, zq7, zq5, zq6, zq9, zq8, zq31, zq32, ite_T, ite_F, zq33, zq34, zq35, Nat.reduceEqDiff, len22, len24, fa26_0, fa26_1, fa26_2, len27, fa33_0, fa33_1, len35, fa114_0, fa114_1, fa114_2, fa124_0, fa124_1, len134]
  have := hk _ (H.get 0 rfl)
  rwa [show decide ((⟨n1, t1, r1⟩ : Gram) = ⟨n2, t2, r2⟩) = decide (r1 = r2) from by simp [hn, ht]] at this
theorem zgj_ (hx : kG X cx gm.rules w) (hy : kG Y cy g2.rules w) (hk : ∀ w', Gr w w' → k (.bool (decide (gm = g2))) w') :
    CallK Try.prog 144 [grv gm X cx, grv g2 Y cy] k w := by
  refine enter144 ?_
  unfold S144
  have H := ((Kn.nil w).addG hx.1 hx.2).addG hy.1 hy.2
  refine zwb_ fun b1 w1 g1 hb1 B1 => ?_
  have H := (H.step g1).addB B1
  refine zwb_ fun b2 w2 gg hb2 B2 => ?_
  have H := (H.step gg).addB B2
  simp only [List.cons_append, List.nil_append] at H
  obtain ⟨n1, t1, r1⟩ := gm
  obtain ⟨n2, t2, r2⟩ := g2
  simp only [zq18, zq19, zq20, zq21, zq22, zq23, zq24, zq25, zq26, zq27, zq28, zq4, zq3, zq1, zq2, zq0, zq29, zq30, zq14, zq15, zq16, zq17, zq13, zq10, zq12, zq11, zq7, zq5, zq6, zq9, zq8, zq31, zq32, ite_T, ite_F, zq33, zq34, zq35, Nat.reduceEqDiff, len22, len24, fa26_0, fa26_1, fa26_2, len27, fa33_0, fa33_1, len35, fa114_0, fa114_1, fa114_2, fa124_0, fa124_1, len134]
  rw [ldB3 (H.get 3 rfl) rfl, ldB3 (H.get 4 rfl) rfl]
  simp only [zq18, zq19, zq20, zq21, zq22, zq23, zq24, zq25, zq26, zq27, zq28, zq4, zq3, zq1, zq2, zq0, zq29, zq30, zq14, zq15, zq16, zq17, zq13, zq10, zq12, zq11, zq7, zq5, zq6, zq9, zq8, zq31, zq32, ite_T, ite_F, zq33, zq34, zq35, Nat.reduceEqDiff, len22, len24, fa26_0, fa26_1, fa26_2, len27, fa33_0, fa33_1, len35, fa114_0, fa114_1, fa114_2, fa124_0, fa124_1, len134]
  by_cases hn : n1 = n2
  case neg =>
    simp only [hn, decide_false, Bool.not_false, zq18, zq19, zq20, zq21, zq22, zq23, zq24, zq25, zq26, zq27, zq28, zq4, zq3, zq1, zq2, zq0, zq29, zq30, zq14, zq15, zq16, zq17, zq13, zq10, zq12, zq11, zq7, zq5, zq6, zq9, zq8, zq31, zq32, ite_T, ite_F, zq33, zq34, zq35, Nat.reduceEqDiff, len22, len24, fa26_0, fa26_1, fa26_2, len27, fa33_0, fa33_1, len35, fa114_0, fa114_1, fa114_2, fa124_0, fa124_1, len134]
    have := hk _ (H.get 0 rfl)
    rwa [decide_eq_false (fun e => hn (by injection e))] at this
  simp only [hn, decide_true, Bool.not_true, zq18, zq19, zq20, zq21, zq22, zq23, zq24, zq25, zq26, zq27, zq28, zq4, zq3, zq1, zq2, zq0, zq29, zq30, zq14, zq15, zq16, zq17, zq13, zq10, zq12, zq11, zq7, zq5, zq6, zq9, zq8, zq31, zq32, ite_T, ite_F, zq33, zq34, zq35, Nat.reduceEqDiff, len22, len24, fa26_0, fa26_1, fa26_2, len27, fa33_0, fa33_1, len35, fa114_0, fa114_1, fa114_2, fa124_0, fa124_1, len134]
  rw [ldB3 (H.get 3 rfl) rfl, ldB3 (H.get 4 rfl) rfl]
  simp only [zq18, zq19, zq20, zq21, zq22, zq23, zq24, zq25, zq26, zq27, zq28, zq4, zq3, zq1, zq2, zq0, zq29, zq30, zq14, zq15, zq16, zq17, zq13, zq10, zq12, zq11, zq7, zq5, zq6, zq9, zq8, zq31, zq32, ite_T, ite_F, zq33, zq34, zq35, Nat.reduceEqDiff, len22, len24, fa26_0, fa26_1, fa26_2, len27, fa33_0, fa33_1, len35, fa114_0, fa114_1, fa114_2, fa124_0, fa124_1, len134]
  by_cases ht : t1 = t2
  case neg =>
    simp only [ht, decide_false, Bool.not_false, zq18, zq19, zq20, zq21, zq22, zq23, zq24, zq25, zq26, zq27, zq28, zq4, zq3, zq1, zq2, zq0, zq29, zq30, zq14, zq15, zq16, zq17, zq13, zq10, zq12, zq11, zq7, zq5, zq6, zq9, zq8, zq31, zq32, ite_T, ite_F, zq33, zq34, zq35, Nat.reduceEqDiff, len22, len24, fa26_0, fa26_1, fa26_2, len27, fa33_0, fa33_1, len35, fa114_0, fa114_1, fa114_2, fa124_0, fa124_1, len134]
    have := hk _ (H.get 0 rfl)
    rwa [decide_eq_false (fun e => ht (by injection e))] at this
  simp only [ht, decide_true, Bool.not_true, zq18, zq19, zq20, zq21, zq22, zq23, zq24, zq25, zq26, zq27, zq28, zq4, zq3, zq1, zq2, zq0, zq29, zq30, zq14, zq15, zq16, zq17, zq13, zq10, zq12, zq11, zq7, zq5, zq6, zq9, zq8, zq31, zq32, ite_T, ite_F, zq33, zq34, zq35, Nat.reduceEqDiff, len22, len24, fa26_0, fa26_1, fa26_2, len27, fa33_0, fa33_1, len35, fa114_0, fa114_1, fa114_2, fa124_0, fa124_1, len134]
  rw [zyb_ (H.get 3 rfl) rfl]
  simp only [zq18, zq19, zq20, zq21, zq22, zq23, zq24, zq25, zq26, zq27, zq28, zq4, zq3, zq1, zq2, zq0, zq29, zq30, zq14, zq15, zq16, zq17, zq13, zq10, zq12, zq11, zq7, zq5, zq6, zq9, zq8, zq31, zq32, ite_T, ite_F, zq33, zq34, zq35, Nat.reduceEqDiff, len22, len24, fa26_0, fa26_1, fa26_2, len27, fa33_0, fa33_1, len35, fa114_0, fa114_1, fa114_2, fa124_0, fa124_1, len134]
  rw [zyb_ (H.get 4 rfl) rfl]
  simp only [zq18, zq19, zq20, zq21, zq22, zq23, zq24, zq25, zq26, zq27, zq28, zq4, zq3, zq1, zq2, zq0, zq29, zq30, zq14, zq15, zq16, zq17, zq13, zq10, zq12, zq11, zq7, zq5, zq6, zq9, zq8, zq31, zq32, ite_T, ite_F, zq33, zq34, zq35, Nat.reduceEqDiff, len22, len24, fa26_0, fa26_1, fa26_2, len27, fa33_0, fa33_1, len35, fa114_0, fa114_1, fa114_2, fa124_0, fa124_1, len134]
  by_cases hl : r1.length = r2.length
  case neg =>
    simp only [Int.ofNat_inj, hl, decide_false, Bool.not_false, zq18, zq19, zq20, zq21, zq22, zq23, zq24, zq25, zq26, zq27, zq28, zq4, zq3, zq1, zq2, zq0, zq29, zq30, zq14, zq15, zq16, zq17, zq13, zq10, zq12, zq11, zq7, zq5, zq6, zq9, zq8, zq31, zq32, ite_T, ite_F, zq33, zq34, zq35, Nat.reduceEqDiff, len22, len24, fa26_0, fa26_1, fa26_2, len27, fa33_0, fa33_1, len35, fa114_0, fa114_1, fa114_2, fa124_0, fa124_1, len134]
    have := hk _ (H.get 0 rfl)
    rwa [decide_eq_false (fun e => hl (by injection e with e1 e2 e3; rw [e3]))] at this
  simp only [Int.ofNat_inj, hl, decide_true, Bool.not_true, zq18, zq19, zq20, zq21, zq22, zq23, zq24, zq25, zq26, zq27, zq28, zq4, zq3, zq1, zq2, zq0, zq29, zq30, zq14, zq15, zq16, zq17, zq13, zq10, zq12, zq11, zq7, zq5, zq6, zq9, zq8, zq31, zq32, ite_T, ite_F, zq33, zq34, zq35, Nat.reduceEqDiff, len22, len24, fa26_0, fa26_1, fa26_2, len27, fa33_0, fa33_1, len35, fa114_0, fa114_1, fa114_2, fa124_0, fa124_1, len134]
  rw [zyb_ (H.get 3 rfl) rfl]
  simp only [zq18, zq19, zq20, zq21, zq22, zq23, zq24, zq25, zq26, zq27, zq28, zq4, zq3, zq1, zq2, zq0, zq29, zq30, zq14, zq15, zq16, zq17, zq13, zq10, zq12, zq11, zq7, zq5, zq6, zq9, zq8, zq31, zq32, ite_T, ite_F, zq33, zq34, zq35, Nat.reduceEqDiff, len22, len24, fa26_0, fa26_1, fa26_2, len27, fa33_0, fa33_1, len35, fa114_0, fa114_1, fa114_2, fa124_0, fa124_1, len134]
  have hx := (H.get 1 rfl).2
  have hle := hx.le
  dsimp only at hle
  refine ztb_ r1.length 0 (fun i f w' => i ≤ r1.length ∧ f 30 = .int .i64 i ∧ Gr w2 w' ∧ (r1 = r2 ↔ r1.drop i = r2.drop i)) ⟨Nat.zero_le _, rfl, Gr.refl w2, by simp⟩ ?_
  rintro i f w3 N hag ⟨hi, h30, g, hE⟩ hN
  have f2 : f 2 = .pointer (some ⟨b1, 0, none⟩) := hag 2 (by decide)
  have f3 : f 3 = .pointer (some ⟨b2, 0, none⟩) := hag 3 (by decide)
  have f29 : f 29 = .int .i64 r1.length := hag 29 (by decide)
  simp only [f2, f3, f29, h30, zq18, zq19, zq20, zq21, zq22, zq23, zq24, zq25, zq26, zq27, zq28, zq4, zq3, zq1, zq2, zq0, zq29, zq30, zq14, zq15, zq16, zq17, zq13, zq10, zq12, zq11, zq7, zq5, zq6, zq9, zq8, zq31, zq32, ite_T, ite_F, zq33, zq34, zq35, Nat.reduceEqDiff, len22, len24, fa26_0, fa26_1, fa26_2, len27, fa33_0, fa33_1, len35, fa114_0, fa114_1, fa114_2, fa124_0, fa124_1, len134]
  have hdec : decide ((⟨n1, t1, r1⟩ : Gram) = ⟨n2, t2, r2⟩) = decide (r1 = r2) := by simp [hn, ht]
  by_cases hlt : i < r1.length
  case neg =>
    simp only [show ¬ ((i : Int) < r1.length) from by omega, decide_false, zq18, zq19, zq20, zq21, zq22, zq23, zq24, zq25, zq26, zq27, zq28, zq4, zq3, zq1, zq2, zq0, zq29, zq30, zq14, zq15, zq16, zq17, zq13, zq10, zq12, zq11, zq7, zq5, zq6, zq9, zq8, zq31, zq32, ite_T, ite_F, zq33, zq34, zq35, Nat.reduceEqDiff, len22, len24, fa26_0, fa26_1, fa26_2, len27, fa33_0, fa33_1, len35, fa114_0, fa114_1, fa114_2, fa124_0, fa124_1, len134]
    rw [List.drop_of_length_le (by omega), List.drop_of_length_le (by omega)] at hE
    have := hk _ ((H.step g).get 0 rfl)
    rwa [hdec, show decide (r1 = r2) = true from decide_eq_true (hE.2 rfl)] at this
  simp only [show ((i : Int) < r1.length) from by omega, decide_true, zq18, zq19, zq20, zq21, zq22, zq23, zq24, zq25, zq26, zq27, zq28, zq4, zq3, zq1, zq2, zq0, zq29, zq30, zq14, zq15, zq16, zq17, zq13, zq10, zq12, zq11, zq7, zq5, zq6, zq9, zq8, zq31, zq32, ite_T, ite_F, zq33, zq34, zq35, Nat.reduceEqDiff, len22, len24, fa26_0, fa26_1, fa26_2, len27, fa33_0, fa33_1, len35, fa114_0, fa114_1, fa114_2, fa124_0, fa124_1, len134]
  have hj : i < r2.length := by omega
  have g := zd_ g (zfc_ w3)
  have H := H.step g
  rw [zyb_ (H.get 3 rfl) rfl]
  refine rdi (zic_ (H.get 1 rfl).2.ptr hlt) ?_
  refine zce_ zhc_ sz33 (H.get 1 rfl).2 hlt fun v hv => ?_
  simp only [zq18, zq19, zq20, zq21, zq22, zq23, zq24, zq25, zq26, zq27, zq28, zq4, zq3, zq1, zq2, zq0, zq29, zq30, zq14, zq15, zq16, zq17, zq13, zq10, zq12, zq11, zq7, zq5, zq6, zq9, zq8, zq31, zq32, ite_T, ite_F, zq33, zq34, zq35, Nat.reduceEqDiff, len22, len24, fa26_0, fa26_1, fa26_2, len27, fa33_0, fa33_1, len35, fa114_0, fa114_1, fa114_2, fa124_0, fa124_1, len134]
  rw [zyb_ (H.get 4 rfl) rfl]
  refine rdi (zic_ (H.get 2 rfl).2.ptr hj) ?_
  refine zce_ zhc_ sz33 (H.get 2 rfl).2 hj fun u hu => ?_
  refine zgh_ hv hu fun w13 g13 => ?_
  have G := zd_ g g13
  rw [zbp_ hlt hj] at hE
  by_cases e : rul r1 i = rul r2 i
  · rw [decide_eq_true e]
    simp only [Bool.not_true, zq18, zq19, zq20, zq21, zq22, zq23, zq24, zq25, zq26, zq27, zq28, zq4, zq3, zq1, zq2, zq0, zq29, zq30, zq14, zq15, zq16, zq17, zq13, zq10, zq12, zq11, zq7, zq5, zq6, zq9, zq8, zq31, zq32, ite_T, ite_F, zq33, zq34, zq35, Nat.reduceEqDiff, len22, len24, fa26_0, fa26_1, fa26_2, len27, fa33_0, fa33_1, len35, fa114_0, fa114_1, fa114_2, fa124_0, fa124_1, len134]
    rw [zt_ (by omega) (by omega)]
    exact hN _ _ hlt ⟨by omega, rfl, G, hE.trans ⟨fun h => h.2, fun h => ⟨e, h⟩⟩⟩
  · rw [decide_eq_false e]
    simp only [Bool.not_false, zq18, zq19, zq20, zq21, zq22, zq23, zq24, zq25, zq26, zq27, zq28, zq4, zq3, zq1, zq2, zq0, zq29, zq30, zq14, zq15, zq16, zq17, zq13, zq10, zq12, zq11, zq7, zq5, zq6, zq9, zq8, zq31, zq32, ite_T, ite_F, zq33, zq34, zq35, Nat.reduceEqDiff, len22, len24, fa26_0, fa26_1, fa26_2, len27, fa33_0, fa33_1, len35, fa114_0, fa114_1, fa114_2, fa124_0, fa124_1, len134]
    have := hk _ ((H.step g13).get 0 rfl)
    rwa [hdec, show decide (r1 = r2) = false from decide_eq_false fun h => e (hE.1 h).1] at this
end
end Go.Proofs.Ytegcjkhebecgbaa
