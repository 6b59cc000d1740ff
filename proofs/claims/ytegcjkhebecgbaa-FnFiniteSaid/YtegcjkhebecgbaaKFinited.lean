/- Texts of this repository put together: ShY1, ShX1, ShX2, ShY2, ShZ1, ShD1, ShE3, ShD2, ShF2, Sh50, ShF3, ShF4, Sh51, ShF5, ShF6, ShB1, ShF7, ShX3, Bk, ShX5, ShX4, ShX6, ShX7, ShXA, Cd. -/
import Derived.Test.YtegcjkhebecgbaaKFinitec
import Derived.Test.YtegcjkhebecgbaaKFiniteb
import Derived.WideKeyArr
import Derived.WideMake
import Derived.Test.YtegcjkhebecgbaaProg
import Derived.Test.YtegcjkhebecgbaaKFinitea

/- The first of rising lists: the plain law. -/
set_option linter.unusedVariables false
set_option linter.unusedSimpArgs false
set_option maxRecDepth 100000
namespace Go.Sh
open Go
def ltL (a b : List Int) : Prop := cmpL a b < 0
theorem cmpI_anti (x y : Int) : cmpI y x = - cmpI x y := by
  unfold cmpI
  by_cases h1 : x < y
  · rw [if_pos h1, if_neg (by omega), if_pos h1]
    rfl
  · by_cases h2 : y < x
    · rw [if_pos h2, if_neg h1, if_pos h2]
    · rw [if_neg h2, if_neg h1, if_neg h1, if_neg h2]
      rfl
theorem cmpL_anti : ∀ a b : List Int, cmpL b a = - cmpL a b := by
  intro a
  induction a with
  | nil => intro b; cases b <;> rfl
  | cons x a ih =>
    intro b
    cases b with
    | nil => rfl
    | cons y b =>
      rw [cmpL, cmpL, cmpI_anti x y]
      by_cases h : cmpI x y = 0
      · rw [if_neg (fun e => e (by omega)), if_neg (fun e => e h)]
        exact ih b
      · rw [if_pos h, if_pos (by omega)]
theorem cmpL_zero : ∀ {a b : List Int}, cmpL a b = 0 → a = b := by
  intro a
  induction a with
  | nil => intro b h; cases b with
    | nil => rfl
    | cons y b => cases h
  | cons x a ih =>
    intro b h
    cases b with
    | nil => cases h
    | cons y b =>
      rw [cmpL] at h
      by_cases e : cmpI x y = 0
      · rw [if_neg (fun h => h e)] at h
        rw [cmpI_eq.1 e, ih h]
      · rw [if_pos e] at h
        exact absurd h e
theorem ltL_irrefl (a : List Int) : ¬ ltL a a := by
  intro h
  have := cmpL_anti a a
  unfold ltL at h
  omega
theorem ltL_tri (a b : List Int) : ltL a b ∨ a = b ∨ ltL b a := by
  unfold ltL
  have := cmpL_anti a b
  by_cases h : cmpL a b = 0
  · exact .inr (.inl (cmpL_zero h))
  · omega
theorem ltL_cons {x y : Int} {a b : List Int} : ltL (x :: a) (y :: b) ↔ x < y ∨ (x = y ∧ ltL a b) := by
  unfold ltL
  rw [cmpL]
  by_cases e : cmpI x y = 0
  · rw [if_neg (fun h => h e)]
    have := cmpI_eq.1 e
    omega
  · rw [if_pos e, cmpI_lt]
    have : ¬ x = y := fun h => e (cmpI_eq.2 h)
    omega
theorem ltL_trans : ∀ {a b c : List Int}, ltL a b → ltL b c → ltL a c := by
  intro a
  induction a with
  | nil =>
    intro b c h1 h2
    cases c with
    | nil =>
      cases b with
      | nil => exact h2
      | cons y b => exact absurd h2 (by unfold ltL; show ¬ ((1 : Int) < 0); omega)
    | cons z c => show (-1 : Int) < 0; omega
  | cons x a ih =>
    intro b c h1 h2
    cases b with
    | nil => exact absurd h1 (by unfold ltL; show ¬ ((1 : Int) < 0); omega)
    | cons y b =>
      cases c with
      | nil => exact absurd h2 (by unfold ltL; show ¬ ((1 : Int) < 0); omega)
      | cons z c =>
        rw [ltL_cons] at h1 h2 ⊢
        rcases h1 with h1 | ⟨h1, h1'⟩
        · rcases h2 with h2 | ⟨h2, h2'⟩
          · exact .inl (by omega)
          · exact .inl (by omega)
        · rcases h2 with h2 | ⟨h2, h2'⟩
          · exact .inl (by omega)
          · exact .inr ⟨by omega, ih h1' h2'⟩
/-- Rising. -/
abbrev Rise (l : List (List Int)) : Prop := l.Pairwise ltL
theorem rise_sub : ∀ {l' l : List (List Int)}, Rise l → Rise l' → (∀ x ∈ l, x ∈ l') → l.Sublist l' := by
  intro l'
  induction l' with
  | nil =>
    intro l _ _ h
    cases l with
    | nil => exact List.Sublist.slnil
    | cons a l => exact absurd (h a (List.mem_cons_self ..)) (by simp)
  | cons b s ih =>
    intro l hl hl' h
    cases l with
    | nil => exact List.nil_sublist _
    | cons a t =>
      have hl1 := List.pairwise_cons.1 hl
      have hl2 := List.pairwise_cons.1 hl'
      rcases List.mem_cons.1 (h a (List.mem_cons_self ..)) with e | e
      · subst e
        refine List.Sublist.cons_cons _ (ih hl1.2 hl2.2 fun x hx => ?_)
        rcases List.mem_cons.1 (h x (List.mem_cons_of_mem _ hx)) with e | e
        · subst e
          exact absurd (hl1.1 _ hx) (ltL_irrefl _)
        · exact e
      · refine List.Sublist.cons _ (ih hl hl2.2 fun x hx => ?_)
        rcases List.mem_cons.1 (h x hx) with e' | e'
        · subst e'
          rcases List.mem_cons.1 hx with e2 | e2
          · subst e2
            exact e
          · exact absurd (ltL_trans (hl1.1 _ e2) (hl2.1 _ e)) (ltL_irrefl _)
        · exact e'
/-- The first M lists of a set, rising. -/
structure Firsts (M : Nat) (S : List Int → Prop) (l : List (List Int)) : Prop where
  rise : Rise l
  mem : ∀ x ∈ l, S x
  len : l.length ≤ M
  all : ∀ x, S x → x ∈ l ∨ (l.length = M ∧ ∀ y ∈ l, ltL y x)
theorem Firsts.sub {M : Nat} {S : List Int → Prop} {l l' : List (List Int)} (h : Firsts M S l) (h' : Firsts M S l') : ∀ x ∈ l, x ∈ l' := by
  intro x hx
  rcases h'.all x (h.mem x hx) with e | ⟨e1, e2⟩
  · exact e
  · exfalso
    have hs : l'.Sublist l := rise_sub h'.rise h.rise fun y hy => by
      rcases h.all y (h'.mem y hy) with e | ⟨_, e3⟩
      · exact e
      · exact absurd (ltL_trans (e2 y hy) (e3 x hx)) (ltL_irrefl _)
    have := hs.eq_of_length_le (by rw [e1]; exact h.len)
    subst this
    exact ltL_irrefl _ (e2 x hx)
theorem Firsts.nil (M : Nat) {S : List Int → Prop} (h : ∀ x, ¬ S x) : Firsts M S [] := ⟨List.Pairwise.nil, fun x hx => by simp at hx, Nat.zero_le _, fun x hx => absurd hx (h x)⟩
theorem Firsts.zero (S : List Int → Prop) : Firsts 0 S [] := ⟨List.Pairwise.nil, fun x hx => by simp at hx, Nat.zero_le _, fun x hx => .inr ⟨rfl, fun y hy => by simp at hy⟩⟩
theorem Firsts.congr {M : Nat} {S S' : List Int → Prop} {l : List (List Int)} (h : Firsts M S l) (e : ∀ x, S' x ↔ S x) : Firsts M S' l := ⟨h.rise, fun x hx => (e x).2 (h.mem x hx), h.len, fun x hx => h.all x ((e x).1 hx)⟩
/-- M of S that are less than x. -/
def Under (M : Nat) (S : List Int → Prop) (x : List Int) : Prop := ∃ ys, Rise ys ∧ ys.length = M ∧ ∀ y ∈ ys, S y ∧ ltL y x
theorem Firsts.more {M : Nat} {S S' : List Int → Prop} {l : List (List Int)} (h : Firsts M S l) (h1 : ∀ x, S x → S' x) (h2 : ∀ x, S' x → S x ∨ Under M S x) : Firsts M S' l := by
  refine ⟨h.rise, fun x hx => h1 x (h.mem x hx), h.len, fun x hx => ?_⟩
  rcases h2 x hx with e | ⟨ys, hy1, hy2, hy3⟩
  · exact h.all x e
  by_cases hxl : x ∈ l
  · exact .inl hxl
  have key : ∀ z ∈ l, ltL z x := fun z hz => by
    rcases ltL_tri z x with e | e | e
    · exact e
    · subst e
      exact absurd hz hxl
    · exfalso
      have hs : ys.Sublist l := rise_sub hy1 h.rise fun y hy => by
        rcases h.all y (hy3 y hy).1 with e1 | ⟨_, e1⟩
        · exact e1
        · exact absurd (ltL_trans (e1 z hz) (ltL_trans (hy3 y hy).2 e)) (ltL_irrefl _)
      have := hs.eq_of_length_le (by rw [hy2]; exact h.len)
      subst this
      exact absurd (ltL_trans (hy3 z hz).2 e) (ltL_irrefl _)
  refine .inr ⟨?_, key⟩
  by_cases hlt : l.length = M
  · exact hlt
  · exfalso
    have hs : ys.Sublist l := rise_sub hy1 h.rise fun y hy => by
      rcases h.all y (hy3 y hy).1 with e1 | ⟨e1, _⟩
      · exact e1
      · exact absurd e1 hlt
    have := hs.length_le
    have := h.len
    omega
theorem Firsts.of_rise (M : Nat) {l : List (List Int)} (h : Rise l) : Firsts M (fun x => x ∈ l) (l.take M) := by
  refine ⟨h.sublist (List.take_sublist _ _), fun x hx => (List.take_sublist _ _).subset hx, by rw [List.length_take]; omega, fun x hx => ?_⟩
  rw [← List.take_append_drop M l] at hx
  rcases List.mem_append.1 hx with e | e
  · exact .inl e
  · refine .inr ⟨?_, fun y hy => ?_⟩
    · rw [List.length_take]
      have : 0 < (l.drop M).length := List.length_pos_of_mem e
      rw [List.length_drop] at this
      omega
    · have h' := h
      rw [← List.take_append_drop M l] at h'
      exact (List.pairwise_append.1 h').2.2 y hy x e
theorem Firsts.take {M m : Nat} {S : List Int → Prop} {l : List (List Int)} (h : Firsts M S l) (hm : m ≤ M) : Firsts m S (l.take m) := by
  refine (Firsts.of_rise m h.rise).more h.mem fun x hx => ?_
  rcases h.all x hx with e | ⟨e1, e2⟩
  · exact .inl e
  · refine .inr ⟨l.take m, h.rise.sublist (List.take_sublist _ _), by rw [List.length_take]; omega, fun y hy => ?_⟩
    have := (List.take_sublist _ _).subset hy
    exact ⟨this, e2 y this⟩
/-- One more comes. -/
theorem Firsts.add {M : Nat} {S : List Int → Prop} {pre post : List (List Int)} {x : List Int} (h : Firsts M S (pre ++ post)) (h1 : ∀ y ∈ pre, ltL y x) (h2 : ∀ y ∈ post, ltL x y) : Firsts M (fun z => S z ∨ z = x) (if M ≤ pre.length then pre ++ post else (pre ++ x :: post).take M) := by
  have hr : Rise (pre ++ x :: post) := by
    have := List.pairwise_append.1 h.rise
    refine List.pairwise_append.2 ⟨this.1, List.pairwise_cons.2 ⟨h2, this.2.1⟩, fun a ha b hb => ?_⟩
    rcases List.mem_cons.1 hb with e | e
    · subst e
      exact h1 a ha
    · exact this.2.2 a ha b e
  have hlen := h.len
  rw [List.length_append] at hlen
  have hf := Firsts.of_rise M hr
  have he : (pre ++ x :: post).take M = if M ≤ pre.length then pre ++ post else (pre ++ x :: post).take M := by
    split
    · rw [List.take_append_of_le_length (by omega), List.take_of_length_le (by omega)]
      have : post = [] := List.eq_nil_of_length_eq_zero (by omega)
      rw [this, List.append_nil]
    · rfl
  rw [← he]
  refine hf.more (fun z hz => ?_) fun z hz => ?_
  · rcases List.mem_append.1 hz with e | e
    · exact .inl (h.mem z (List.mem_append_left _ e))
    · rcases List.mem_cons.1 e with e | e
      · exact .inr e
      · exact .inl (h.mem z (List.mem_append_right _ e))
  · have hsub : ∀ y ∈ pre ++ post, y ∈ pre ++ x :: post := fun y hy => by
      rcases List.mem_append.1 hy with e | e
      · exact List.mem_append_left _ e
      · exact List.mem_append_right _ (List.mem_cons_of_mem _ e)
    rcases hz with hz | hz
    · rcases h.all z hz with e | ⟨e1, e2⟩
      · exact .inl (hsub z e)
      · exact .inr ⟨pre ++ post, h.rise, e1, fun y hy => ⟨hsub y hy, e2 y hy⟩⟩
    · subst hz
      exact .inl (List.mem_append_right _ (List.mem_cons_self ..))
/-- Others come behind. -/
theorem Firsts.append {M : Nat} {S S' : List Int → Prop} {l l' : List (List Int)} (h : Firsts M S l) (h' : Firsts (M - l.length) S' l') (hl : ∀ x y, S x → S' y → ltL x y) : Firsts M (fun z => S z ∨ S' z) (l ++ l') := by
  have h1 := h.len
  have h2 := h'.len
  refine ⟨List.pairwise_append.2 ⟨h.rise, h'.rise, fun a ha b hb => hl a b (h.mem a ha) (h'.mem b hb)⟩, fun x hx => ?_, by rw [List.length_append]; omega, fun x hx => ?_⟩
  · rcases List.mem_append.1 hx with e | e
    · exact .inl (h.mem x e)
    · exact .inr (h'.mem x e)
  · rcases hx with hx | hx
    · rcases h.all x hx with e | ⟨e1, e2⟩
      · exact .inl (List.mem_append_left _ e)
      · have : l' = [] := List.eq_nil_of_length_eq_zero (by omega)
        subst this
        rw [List.append_nil]
        exact .inr ⟨e1, e2⟩
    · rcases h'.all x hx with e | ⟨e1, e2⟩
      · exact .inl (List.mem_append_right _ e)
      · refine .inr ⟨by rw [List.length_append]; omega, fun y hy => ?_⟩
        rcases List.mem_append.1 hy with e | e
        · exact hl y x (h.mem y e) hx
        · exact e2 y e
theorem Firsts.map {M : Nat} {S : List Int → Prop} {l : List (List Int)} (h : Firsts M S l) (q : Int) : Firsts M (fun t => ∃ r, S r ∧ t = q :: r) (l.map (q :: ·)) := by
  refine ⟨List.pairwise_map.2 (h.rise.imp fun e => ltL_cons.2 (.inr ⟨rfl, e⟩)), fun x hx => ?_, by rw [List.length_map]; exact h.len, fun x hx => ?_⟩
  · obtain ⟨r, hr, rfl⟩ := List.mem_map.1 hx
    exact ⟨r, h.mem r hr, rfl⟩
  · obtain ⟨r, hr, rfl⟩ := hx
    rcases h.all r hr with e | ⟨e1, e2⟩
    · exact .inl (List.mem_map.2 ⟨r, e, rfl⟩)
    · refine .inr ⟨by rw [List.length_map]; exact e1, fun y hy => ?_⟩
      obtain ⟨y', hy', rfl⟩ := List.mem_map.1 hy
      exact ltL_cons.2 (.inr ⟨rfl, e2 y' hy'⟩)
/-! What two sets have together. -/
end Go.Sh

/- Numbers of trees by size: the plain law. -/
set_option linter.unusedVariables false
set_option linter.unusedSimpArgs false
set_option maxRecDepth 100000
namespace Go.Sh
open Go
def sumN (f : Nat → Nat) : Nat → Nat
  | 0 => 0
  | n + 1 => sumN f n + f n
/-- In how many ways symbols have trees of size s in all between i and j; c tells the nonterminals' numbers. -/
def cntR (c : Nat → Nat → Nat → Nat → Nat) (ws : List Int) : List Int → Nat → Nat → Nat → Nat
  | [], i, j, s => if i = j ∧ s = 0 then 1 else 0
  | x :: xs, i, j, s => if x < 0 then (if i < j ∧ ws.getD i 0 = -1 - x then cntR c ws xs (i + 1) j s else 0)
      else sumN (fun m => sumN (fun k => c x.toNat i (i + m) (k + 1) * cntR c ws xs (i + m) j (s - (k + 1))) s) (j + 1 - i)
def sumR (rs : List RuleL) (p : RuleL → Nat) : Nat := rs.foldl (fun a r => a + p r) 0
def cntT (rs : List RuleL) (ws : List Int) : Nat → Nat → Nat → Nat → Nat → Nat
  | 0, _, _, _, _ => 0
  | f + 1, A, i, j, s => if s = 0 then 0 else sumR rs fun r => if r.1 = (A : Int) then cntR (cntT rs ws f) ws r.2 i j (s - 1) else 0
/-- How many trees of size s. -/
def cntC (rs : List RuleL) (ws : List Int) (A i j s : Nat) : Nat := cntT rs ws s A i j s
theorem sumN_congr {f g : Nat → Nat} : ∀ {n : Nat}, (∀ k, k < n → f k = g k) → sumN f n = sumN g n := by
  intro n
  induction n with
  | zero => intro _; rfl
  | succ n ih =>
    intro h
    rw [sumN, sumN, ih fun k hk => h k (by omega), h n (by omega)]
theorem cntR_congr {c c' : Nat → Nat → Nat → Nat → Nat} {ws : List Int} : ∀ {xs : List Int} {i j s : Nat}, (∀ A i j k, k ≤ s → c A i j k = c' A i j k) → cntR c ws xs i j s = cntR c' ws xs i j s := by
  intro xs
  induction xs with
  | nil => intro i j s _; rfl
  | cons x xs ih =>
    intro i j s h
    rw [cntR, cntR]
    split
    · split
      · exact ih h
      · rfl
    · refine sumN_congr fun m _ => sumN_congr fun k hk => ?_
      rw [h _ _ _ _ (by omega), ih fun A i j k' hk' => h A i j k' (by omega)]
theorem sumR_congr {rs : List RuleL} {p q : RuleL → Nat} (h : ∀ r, p r = q r) : sumR rs p = sumR rs q := by
  rw [show p = q from funext h]
theorem cntT_more {rs : List RuleL} {ws : List Int} : ∀ {f g A i j s : Nat}, s ≤ f → s ≤ g → cntT rs ws f A i j s = cntT rs ws g A i j s := by
  intro f
  induction f with
  | zero =>
    intro g A i j s h1 h2
    obtain rfl : s = 0 := by omega
    cases g with
    | zero => rfl
    | succ g => rw [cntT, cntT, if_pos rfl]
  | succ f ih =>
    intro g A i j s h1 h2
    cases g with
    | zero =>
      obtain rfl : s = 0 := by omega
      rw [cntT, cntT, if_pos rfl]
    | succ g =>
      rw [cntT, cntT]
      split
      · rfl
      · refine sumR_congr fun r => ?_
        split
        · exact cntR_congr fun A i j k hk => ih (by omega) (by omega)
        · rfl
theorem cntC_zero (rs : List RuleL) (ws : List Int) (A i j : Nat) : cntC rs ws A i j 0 = 0 := rfl
theorem cntC_succ (rs : List RuleL) (ws : List Int) (A i j s : Nat) : cntC rs ws A i j (s + 1) = sumR rs fun r => if r.1 = (A : Int) then cntR (cntC rs ws) ws r.2 i j s else 0 := by
  unfold cntC
  rw [cntT, if_neg (by omega)]
  refine sumR_congr fun r => ?_
  split
  · exact cntR_congr fun A i j k hk => cntT_more (by omega) (Nat.le_refl _)
  · rfl
end Go.Sh

/- Where there are trees there is a span; what the reference and the program reckon with, kept at most M. -/
set_option linter.unusedVariables false
set_option linter.unusedSimpArgs false
set_option maxRecDepth 100000
namespace Go.Sh
open Go
theorem Inc.still {α : Type} {f : TS → α → TS} : ∀ {l : List α} {s : TS}, (∀ a ∈ l, ∀ s, Inc s (f s a)) → s.2 = false → (l.foldl f s).2 = false → ∀ a ∈ l, f s a = s := by
  intro l
  induction l with
  | nil => intro s _ _ _ a ha; simp at ha
  | cons b l ih =>
    intro s h hs he a ha
    rw [List.foldl_cons] at he
    have hb : f s b = s := by
      rcases h b (List.mem_cons_self ..) s with e | ⟨e, _⟩
      · exact e
      · exfalso
        rcases Inc.fold (fun c hc => h c (List.mem_cons_of_mem _ hc)) (f s b) with e' | ⟨e', _⟩
        · rw [e', e] at he
          cases he
        · rw [e'] at he
          cases he
    rcases List.mem_cons.1 ha with rfl | ha
    · exact hb
    · rw [hb] at he
      exact ih (fun c hc => h c (List.mem_cons_of_mem _ hc)) hs he a ha
theorem pass_closed {rs : List (Int × List Int)} {w : List Int} {T : Tab} (hr : ∀ r ∈ rs, r.1.toNat < 6) (hw : w.length ≤ 10) (h : (passT rs w (T, false)).2 = false) {r : Int × List Int} (hm : r ∈ rs) {i j : Nat} (hij : i ≤ j) (hj : j ≤ w.length) (hf : fitsT T w r.2 i j = true) : T r.1.toNat i j = true := by
  have h1 := Inc.still (f := ruleT w) (fun r h s => ruleT_inc (hr r h) hw s) rfl h r hm
  have h2 := Inc.still (f := rowT w r) (l := List.range (w.length + 1)) (s := (T, false)) (fun i hi s => rowT_inc (hr r hm) hw (by have := List.mem_range.1 hi; omega) s) rfl (by
    show (ruleT w (T, false) r).2 = false
    rw [h1]) i (List.mem_range.2 (by omega))
  have h3 := Inc.still (f := stepT w r i) (l := List.range' i (w.length + 1 - i)) (s := (T, false)) (fun j hj s => by
    rw [List.mem_range'_1] at hj
    exact stepT_inc (hr r hm) (by omega) (by omega)) rfl (by
    show (rowT w r (T, false) i).2 = false
    rw [h2]) j (List.mem_range'_1.2 ⟨hij, by omega⟩)
  unfold stepT at h3
  cases hT : T r.1.toNat i j
  · rw [if_pos (by simp [hT, hf])] at h3
    have := congrArg Prod.snd h3
    cases this
  · rfl
theorem pass_same {rs : List (Int × List Int)} {w : List Int} {T : Tab} (hr : ∀ r ∈ rs, r.1.toNat < 6) (hw : w.length ≤ 10) (h : (passT rs w (T, false)).2 = false) : (passT rs w (T, false)).1 = T := by
  rcases passT_inc hr hw (T, false) with e | ⟨e, _⟩
  · rw [e]
  · rw [e] at h
    cases h
theorem span_closed {rs : List (Int × List Int)} {w : List Int} (hr : ∀ r ∈ rs, r.1.toNat < 6) (hw : w.length ≤ 10) {r : Int × List Int} (hm : r ∈ rs) {i j : Nat} (hij : i ≤ j) (hj : j ≤ w.length) (hf : fitsT (spanT rs w) w r.2 i j = true) : spanT rs w r.1.toNat i j = true := by
  obtain ⟨U, hU⟩ := Span.ex hr hw 726 noTab (by unfold openT; exact Nat.le_trans List.countP_le_length (by simp))
  rw [← hU.eq] at hf ⊢
  have key : ∀ {T U : Tab}, Span rs w T U → fitsT U w r.2 i j = true → U r.1.toNat i j = true := by
    intro T U h
    induction h with
    | done h1 =>
      intro hf
      rw [pass_same hr hw h1] at hf ⊢
      exact pass_closed hr hw h1 hm hij hj hf
    | more _ _ ih => exact ih
  exact key hU hf
theorem sumN_pos {f : Nat → Nat} : ∀ {n : Nat}, 0 < sumN f n → ∃ k, k < n ∧ 0 < f k := by
  intro n
  induction n with
  | zero => intro h; simp [sumN] at h
  | succ n ih =>
    intro h
    rw [sumN] at h
    by_cases h0 : 0 < f n
    · exact ⟨n, by omega, h0⟩
    · obtain ⟨k, hk, h1⟩ := ih (by omega)
      exact ⟨k, by omega, h1⟩
theorem sumR_pos {p : RuleL → Nat} : ∀ {rs : List RuleL} , 0 < sumR rs p → ∃ r ∈ rs, 0 < p r := by
  have key : ∀ (rs : List RuleL) (a : Nat), 0 < rs.foldl (fun a r => a + p r) a → 0 < a ∨ ∃ r ∈ rs, 0 < p r := by
    intro rs
    induction rs with
    | nil => intro a h; exact .inl h
    | cons r rs ih =>
      intro a h
      rw [List.foldl_cons] at h
      rcases ih _ h with h1 | ⟨q, hq, h1⟩
      · by_cases h0 : 0 < p r
        · exact .inr ⟨r, List.mem_cons_self .., h0⟩
        · exact .inl (by omega)
      · exact .inr ⟨q, List.mem_cons_of_mem _ hq, h1⟩
  intro rs h
  rcases key rs 0 h with h | h
  · omega
  · exact h
/-- Symbols that have trees fit. -/
theorem cntR_fits {c : Nat → Nat → Nat → Nat → Nat} {T : Tab} {ws : List Int} : ∀ {xs : List Int} {i j s : Nat}, j ≤ ws.length → (∀ A i j k, i ≤ j → j ≤ ws.length → k ≤ s → 0 < c A i j k → T A i j = true) → 0 < cntR c ws xs i j s → fitsT T ws xs i j = true := by
  intro xs
  induction xs with
  | nil =>
    intro i j s hj hc h
    rw [cntR] at h
    split at h
    · rename_i h1
      exact decide_eq_true h1.1
    · omega
  | cons x xs ih =>
    intro i j s hj hc h
    rw [cntR] at h
    by_cases hx : x < 0
    · rw [if_pos hx] at h
      split at h
      · rename_i h1
        rw [fits_tok hx, decide_eq_true h1.1, decide_eq_true h1.2, ih hj hc h]
        rfl
      · omega
    · rw [if_neg hx] at h
      obtain ⟨m, hm, h1⟩ := sumN_pos h
      obtain ⟨k, hk, h2⟩ := sumN_pos h1
      have h3 : 0 < c x.toNat i (i + m) (k + 1) := Nat.pos_of_ne_zero fun e => by rw [e, Nat.zero_mul] at h2; omega
      have h4 : 0 < cntR c ws xs (i + m) j (s - (k + 1)) := Nat.pos_of_ne_zero fun e => by rw [e, Nat.mul_zero] at h2; omega
      rw [fits_non hx]
      refine any_at (m := i + m) (by omega) (by omega) ?_
      rw [hc _ _ _ _ (by omega) (by omega) (by omega) h3, ih hj (fun A i j k' a b d e => hc A i j k' a b (by omega) e) h4]
      rfl
theorem cntC_span {rs : List RuleL} {ws : List Int} (hr : ∀ r ∈ rs, r.1.toNat < 6) (hw : ws.length ≤ 10) : ∀ {s A i j : Nat}, i ≤ j → j ≤ ws.length → 0 < cntC rs ws A i j s → spanT rs ws A i j = true := by
  intro s
  induction s using Nat.strongRecOn with
  | _ s ih =>
    intro A i j hij hj h
    cases s with
    | zero => rw [cntC_zero] at h; omega
    | succ s =>
      rw [cntC_succ] at h
      obtain ⟨r, hm, h1⟩ := sumR_pos h
      split at h1
      · rename_i h2
        have hf := cntR_fits (T := spanT rs ws) hj (fun A i j k a b d e => ih k (by omega) a b e) h1
        have := span_closed hr hw hm hij hj hf
        rwa [h2, Int.toNat_natCast] at this
      · omega
end Go.Sh

/- Trees of a size as lists of rules: each is read in one way alone, and they are counted. -/
set_option linter.unusedVariables false
set_option linter.unusedSimpArgs false
set_option maxRecDepth 100000
namespace Go.Sh
open Go
/-- Lists of rules: of a nonterminal (inl), of symbols (inr); between two places, of a size in all. -/
inductive Der (rs : List RuleL) (ws : List Int) : Nat ⊕ List Int → Nat → Nat → Nat → List Int → Prop
  | tree {A q i j s : Nat} {r : List Int} : q < rs.length → (rul rs q).1 = (A : Int) → Der rs ws (.inr (rul rs q).2) i j s r → Der rs ws (.inl A) i j (s + 1) ((q : Int) :: r)
  | nil {i : Nat} : Der rs ws (.inr []) i i 0 []
  | tok {x : Int} {xs : List Int} {i j s : Nat} {r : List Int} : x < 0 → i < j → ws.getD i 0 = -1 - x → Der rs ws (.inr xs) (i + 1) j s r → Der rs ws (.inr (x :: xs)) i j s r
  | non {x : Int} {xs : List Int} {i m j k s : Nat} {a b : List Int} : ¬ x < 0 → i ≤ m → m ≤ j → Der rs ws (.inl x.toNat) i m k a → Der rs ws (.inr xs) m j s b → Der rs ws (.inr (x :: xs)) i j (k + s) (a ++ b)
section
variable {rs : List RuleL} {ws : List Int}
theorem der_tree {A i j s : Nat} {t : List Int} : Der rs ws (.inl A) i j s t ↔ ∃ (q : Nat) (r : List Int) (s' : Nat), s = s' + 1 ∧ t = (q : Int) :: r ∧ q < rs.length ∧ (rul rs q).1 = (A : Int) ∧ Der rs ws (.inr (rul rs q).2) i j s' r := by
  constructor
  · intro h
    cases h with
    | tree h1 h2 h3 => exact ⟨_, _, _, rfl, rfl, h1, h2, h3⟩
  · rintro ⟨q, r, s', rfl, rfl, h1, h2, h3⟩
    exact .tree h1 h2 h3
theorem der_le {c : Nat ⊕ List Int} {i j s : Nat} {t : List Int} (h : Der rs ws c i j s t) : i ≤ j := by
  induction h with
  | tree _ _ _ ih => exact ih
  | nil => exact Nat.le_refl _
  | tok _ h2 _ _ ih => omega
  | non _ h2 h3 _ _ _ _ => omega
theorem sumN_at {f : Nat → Nat} : ∀ {n k : Nat}, k < n → 0 < f k → 0 < sumN f n := by
  intro n
  induction n with
  | zero => intro k h; omega
  | succ n ih =>
    intro k h h1
    rw [sumN]
    by_cases e : k = n
    · subst e
      omega
    · have := ih (k := k) (by omega) h1
      omega
theorem sumR_at {p : RuleL → Nat} {rs : List RuleL} {r : RuleL} (hr : r ∈ rs) (h : 0 < p r) : 0 < sumR rs p := by
  have mono : ∀ (l : List RuleL) (a : Nat), a ≤ l.foldl (fun a r => a + p r) a := by
    intro l
    induction l with
    | nil => intro a; exact Nat.le_refl _
    | cons b l ih => intro a; exact Nat.le_trans (Nat.le_add_right a (p b)) (ih (a + p b))
  have key : ∀ (l : List RuleL) (a : Nat), r ∈ l → 0 < l.foldl (fun a r => a + p r) a := by
    intro l
    induction l with
    | nil => intro a h; simp at h
    | cons b l ih =>
      intro a hm
      rcases List.mem_cons.1 hm with e | e
      · subst e
        exact Nat.lt_of_lt_of_le (by omega) (mono l (a + p r))
      · exact ih (a + p b) e
  exact key rs 0 hr
def posD (rs : List RuleL) (ws : List Int) : Nat ⊕ List Int → Nat → Nat → Nat → Prop
  | .inl A, i, j, s => 0 < cntC rs ws A i j s
  | .inr xs, i, j, s => 0 < cntR (cntC rs ws) ws xs i j s
theorem der_posD {c : Nat ⊕ List Int} {i j s : Nat} {t : List Int} (h : Der rs ws c i j s t) : posD rs ws c i j s := by
  induction h with
  | tree h1 h2 h3 ih =>
    show 0 < cntC rs ws _ _ _ _
    rw [cntC_succ]
    refine sumR_at (r := rul rs _) (by rw [rul_eq h1]; exact List.getElem_mem h1) ?_
    rw [if_pos h2]
    exact ih
  | nil =>
    show 0 < cntR _ _ [] _ _ _
    rw [cntR, if_pos ⟨rfl, rfl⟩]
    omega
  | tok h1 h2 h3 h4 ih =>
    show 0 < cntR _ _ (_ :: _) _ _ _
    rw [cntR, if_pos h1, if_pos ⟨h2, h3⟩]
    exact ih
  | non h1 h2 h3 h4 h5 ih1 ih2 =>
    rename_i x xs i m j k s a b
    show 0 < cntR _ _ (x :: xs) _ _ _
    rw [cntR, if_neg h1]
    have hk : 0 < k := by
      obtain ⟨_, _, s', rfl, _⟩ := der_tree.1 h4
      omega
    refine sumN_at (k := m - i) (by omega) (sumN_at (k := k - 1) (by omega) ?_)
    rw [show i + (m - i) = m from by omega, show k - 1 + 1 = k from by omega, show k + s - k = s from by omega]
    exact Nat.mul_pos ih1 ih2
theorem der_posC {A i j s : Nat} {t : List Int} (h : Der rs ws (.inl A) i j s t) : 0 < cntC rs ws A i j s := der_posD h
theorem der_span (hr : ∀ r ∈ rs, r.1.toNat < 6) (hw : ws.length ≤ 10) {A i j s : Nat} {t : List Int} (hj : j ≤ ws.length) (h : Der rs ws (.inl A) i j s t) : spanT rs ws A i j = true := cntC_span hr hw (der_le h) hj (der_posC h)
/-! The parts of a row: at m and k. -/
end
end Go.Sh

/- What is derived and what the tables say: the same. -/
set_option linter.unusedVariables false
set_option linter.unusedSimpArgs false
set_option maxRecDepth 100000
namespace Go.Sh
open Go
section
variable {rs : List RuleL} {ws : List Int}
/-- Every entry of a table has a derivation. -/
def SoundT (rs : List RuleL) (ws : List Int) (T : Tab) : Prop := ∀ A i j, T A i j = true → i ≤ j ∧ ∃ s t, Der rs ws (.inl A) i j s t
theorem fits_sound {T : Tab} (h : SoundT rs ws T) : ∀ {xs : List Int} {i j : Nat}, fitsT T ws xs i j = true → i ≤ j ∧ ∃ s t, Der rs ws (.inr xs) i j s t := by
  intro xs
  induction xs with
  | nil =>
    intro i j hf
    obtain rfl : i = j := of_decide_eq_true hf
    exact ⟨Nat.le_refl _, 0, [], .nil⟩
  | cons x xs ih =>
    intro i j hf
    by_cases hx : x < 0
    · rw [fits_tok hx] at hf
      simp only [Bool.and_eq_true, decide_eq_true_eq] at hf
      obtain ⟨h1, h2, h3⟩ := hf
      obtain ⟨h4, s, t, h5⟩ := ih h3
      exact ⟨by omega, s, t, .tok hx h1 h2 h5⟩
    · rw [fits_non hx, List.any_eq_true] at hf
      obtain ⟨m, hm, hf⟩ := hf
      rw [List.mem_range'_1] at hm
      simp only [Bool.and_eq_true] at hf
      obtain ⟨h1, k, a, h2⟩ := h _ _ _ hf.1
      obtain ⟨h3, s, t, h4⟩ := ih hf.2
      exact ⟨by omega, k + s, a ++ t, .non hx h1 h3 h2 h4⟩
theorem rule_at {r : RuleL} (h : r ∈ rs) : ∃ q, q < rs.length ∧ rul rs q = r := by
  obtain ⟨q, hq, e⟩ := List.getElem_of_mem h
  exact ⟨q, hq, by rw [rul_eq hq, e]⟩
theorem fold_inv {α σ : Type} {I : σ → Prop} {f : σ → α → σ} : ∀ {l : List α} {s : σ}, I s → (∀ a ∈ l, ∀ s, I s → I (f s a)) → I (l.foldl f s) := by
  intro l
  induction l with
  | nil => intro s h _; exact h
  | cons a l ih =>
    intro s h h1
    exact ih (h1 a (List.mem_cons_self ..) s h) fun b hb => h1 b (List.mem_cons_of_mem _ hb)
theorem pass_sound (h0 : ∀ r ∈ rs, 0 ≤ r.1) {s : TS} (h : SoundT rs ws s.1) : SoundT rs ws (passT rs ws s).1 := by
  refine fold_inv (I := fun s : TS => SoundT rs ws s.1) h fun r hr s hs => ?_
  refine fold_inv (I := fun s : TS => SoundT rs ws s.1) hs fun i hi s hs => ?_
  refine fold_inv (I := fun s : TS => SoundT rs ws s.1) hs fun j hj s hs => ?_
  unfold stepT
  split
  · rename_i hc
    simp only [Bool.and_eq_true] at hc
    intro A a b hab
    simp only [Tab.put] at hab
    split at hab
    · rename_i e
      obtain ⟨rfl, rfl, rfl⟩ := e
      obtain ⟨h1, s', t, h2⟩ := fits_sound hs hc.2
      obtain ⟨q, hq, e⟩ := rule_at hr
      refine ⟨h1, s' + 1, (q : Int) :: t, .tree hq ?_ (by rw [e]; exact h2)⟩
      rw [e]
      have := h0 r hr
      omega
    · exact hs A a b hab
  · exact hs
theorem span_sound (h0 : ∀ r ∈ rs, 0 ≤ r.1) : SoundT rs ws (spanT rs ws) := by
  intro A i j h
  unfold spanT at h
  split at h
  · rename_i hx
    have key : ∀ {T U : Tab}, Span rs ws T U → SoundT rs ws T → SoundT rs ws U := by
      intro T U h
      induction h with
      | done _ => exact fun h => pass_sound h0 h
      | more _ _ ih => exact fun h => ih (pass_sound h0 h)
    exact key (Classical.choose_spec hx) (fun A i j h => by cases h) A i j h
  · cases h
theorem span_iff (h0 : ∀ r ∈ rs, 0 ≤ r.1) (hr : ∀ r ∈ rs, r.1.toNat < 6) (hw : ws.length ≤ 10) {A i j : Nat} (hj : j ≤ ws.length) : spanT rs ws A i j = true ↔ ∃ s t, Der rs ws (.inl A) i j s t :=
  ⟨fun h => (span_sound h0 A i j h).2, fun ⟨_, _, h⟩ => der_span hr hw hj h⟩
end
end Go.Sh

/- Plain: what derives a word; other names, turned round; what derives something, what is reached, useful rules. -/
set_option linter.unusedVariables false
set_option linter.unusedSimpArgs false
set_option maxRecDepth 100000
namespace Go.Sh
open Go
/-- What derives a word. -/
inductive Yi (rs : List RuleL) : Nat ⊕ List Int → List Int → Prop
  | rule {A : Nat} {r : RuleL} {u : List Int} : r ∈ rs → r.1 = (A : Int) → Yi rs (.inr r.2) u → Yi rs (.inl A) u
  | nil : Yi rs (.inr []) []
  | tok {x : Int} {xs u : List Int} : x < 0 → Yi rs (.inr xs) u → Yi rs (.inr (x :: xs)) ((-1 - x) :: u)
  | non {x : Int} {xs u v : List Int} : ¬ x < 0 → Yi rs (.inl x.toNat) u → Yi rs (.inr xs) v → Yi rs (.inr (x :: xs)) (u ++ v)
def cut (ws : List Int) (i j : Nat) : List Int := (ws.drop i).take (j - i)
theorem cut_nil (ws : List Int) (i : Nat) : cut ws i i = [] := by simp [cut]
theorem cut_cons {ws : List Int} {i j : Nat} (h : i < j) (hj : j ≤ ws.length) : cut ws i j = ws.getD i 0 :: cut ws (i + 1) j := by
  unfold cut
  rw [List.drop_eq_getElem_cons (by omega), show j - i = (j - (i + 1)) + 1 from by omega, List.take_succ_cons]
  simp [List.getD_eq_getElem?_getD, show i < ws.length from by omega]
theorem cut_append {ws : List Int} {i m j : Nat} (h1 : i ≤ m) (h2 : m ≤ j) (hj : j ≤ ws.length) : cut ws i j = cut ws i m ++ cut ws m j := by
  unfold cut
  rw [show j - i = (m - i) + (j - m) from by omega, List.take_add, List.drop_drop, show i + (m - i) = m from by omega]
theorem cut_all (ws : List Int) : cut ws 0 ws.length = ws := by simp [cut]
theorem cut_length {ws : List Int} {i j : Nat} (h : i ≤ j) (hj : j ≤ ws.length) : (cut ws i j).length = j - i := by
  simp [cut]; omega
section
variable {rs : List RuleL}
theorem yi_of_der {ws : List Int} {c : Nat ⊕ List Int} {i j s : Nat} {t : List Int} (h : Der rs ws c i j s t) : j ≤ ws.length → Yi rs c (cut ws i j) := by
  induction h with
  | tree h1 h2 _ ih =>
    intro hj
    refine .rule (r := rul rs _) ?_ h2 (ih hj)
    rw [rul_eq h1]
    exact List.getElem_mem h1
  | nil =>
    intro _
    rw [cut_nil]
    exact .nil
  | tok h1 h2 h3 _ ih =>
    intro hj
    rw [cut_cons h2 hj, h3]
    exact .tok h1 (ih hj)
  | non h1 h2 h3 _ _ ih1 ih2 =>
    intro hj
    rw [cut_append h2 h3 hj]
    exact .non h1 (ih1 (by omega)) (ih2 hj)
theorem der_of_yi' {c : Nat ⊕ List Int} {u : List Int} (h : Yi rs c u) : ∀ (a b : List Int), ∃ s t, Der rs (a ++ u ++ b) c a.length (a.length + u.length) s t := by
  induction h with
  | rule h1 h2 _ ih =>
    intro a b
    obtain ⟨s, t, hd⟩ := ih a b
    obtain ⟨q, hq, e⟩ := List.getElem_of_mem h1
    have e' : rul rs q = _ := (rul_eq hq).trans e
    exact ⟨_, _, .tree hq (by rw [e']; exact h2) (by rw [e']; exact hd)⟩
  | nil =>
    intro a b
    exact ⟨_, _, .nil⟩
  | @tok x xs u hx _ ih =>
    intro a b
    obtain ⟨s, t, hd⟩ := ih (a ++ [-1 - x]) b
    refine ⟨s, t, .tok hx (by simp) ?_ ?_⟩
    · simp [List.getD_eq_getElem?_getD]
    · have e : a ++ (-1 - x) :: u ++ b = a ++ [-1 - x] ++ u ++ b := by simp
      rw [e]
      have e2 : a.length + ((-1 - x) :: u).length = (a ++ [-1 - x]).length + u.length := by simp; omega
      rw [e2]
      have e3 : a.length + 1 = (a ++ [-1 - x]).length := by simp
      rw [e3]
      exact hd
  | @non x xs u v hx _ _ ih1 ih2 =>
    intro a b
    obtain ⟨s1, t1, h1⟩ := ih1 a (v ++ b)
    obtain ⟨s2, t2, h2⟩ := ih2 (a ++ u) b
    have e1 : a ++ u ++ (v ++ b) = a ++ (u ++ v) ++ b := by simp
    have e2 : a ++ u ++ v ++ b = a ++ (u ++ v) ++ b := by simp
    rw [e1] at h1
    rw [e2] at h2
    have e3 : (a ++ u).length = a.length + u.length := by simp
    have e4 : (a ++ u).length + v.length = a.length + (u ++ v).length := by simp; omega
    rw [e4, e3] at h2
    exact ⟨_, _, .non hx (by omega) (by simp) h1 h2⟩
theorem cut_parts {ws : List Int} {i j : Nat} (h : i ≤ j) (hj : j ≤ ws.length) : ws = ws.take i ++ cut ws i j ++ ws.drop j := by
  unfold cut
  conv => lhs; rw [← List.take_append_drop i ws, ← List.take_append_drop (j - i) (ws.drop i)]
  rw [List.drop_drop, show i + (j - i) = j from by omega, List.append_assoc]
theorem der_of_yi {ws : List Int} {c : Nat ⊕ List Int} {i j : Nat} (hi : i ≤ j) (hj : j ≤ ws.length) (h : Yi rs c (cut ws i j)) : ∃ s t, Der rs ws c i j s t := by
  obtain ⟨s, t, hd⟩ := der_of_yi' h (ws.take i) (ws.drop j)
  rw [← cut_parts hi hj] at hd
  have e1 : (ws.take i).length = i := by simp; omega
  have e2 : i + (cut ws i j).length = j := by rw [cut_length hi hj]; omega
  rw [e1, e2] at hd
  exact ⟨s, t, hd⟩
theorem der_yi {ws : List Int} {c : Nat ⊕ List Int} {i j : Nat} (hi : i ≤ j) (hj : j ≤ ws.length) : (∃ s t, Der rs ws c i j s t) ↔ Yi rs c (cut ws i j) :=
  ⟨fun ⟨_, _, h⟩ => yi_of_der h hj, der_of_yi hi hj⟩
/-! Parts. -/
theorem yi_mono {rs qs : List RuleL} (hs : ∀ r ∈ rs, r ∈ qs) {c : Nat ⊕ List Int} {u : List Int} (h : Yi rs c u) : Yi qs c u := by
  induction h with
  | rule h1 h2 _ ih => exact .rule (hs _ h1) h2 ih
  | nil => exact .nil
  | tok h1 _ ih => exact .tok h1 ih
  | non h1 _ _ ih1 ih2 => exact .non h1 ih1 ih2
end
/-! Other names of nonterminals; turned round. -/
/-! What derives something, what is reached. -/
inductive Clo (rs : List RuleL) (tok : Bool) : Nat → Prop
  | mk {A : Nat} {r : RuleL} : r ∈ rs → r.1 = (A : Int) → (∀ x ∈ r.2, x < 0 → tok = true) → (∀ x ∈ r.2, ¬ x < 0 → Clo rs tok x.toNat) → Clo rs tok A
theorem clo_yi {rs : List RuleL} {A : Nat} (h : Clo rs true A) : ∃ u, Yi rs (.inl A) u := by
  induction h with
  | @mk A r h1 h2 _ _ ih =>
    have key : ∀ xs : List Int, (∀ x ∈ xs, ¬ x < 0 → ∃ u, Yi rs (.inl x.toNat) u) → ∃ u, Yi rs (.inr xs) u := by
      intro xs
      induction xs with
      | nil => exact fun _ => ⟨_, .nil⟩
      | cons x xs ihx =>
        intro hx
        obtain ⟨v, hv⟩ := ihx fun y hy => hx y (List.mem_cons_of_mem _ hy)
        by_cases h0 : x < 0
        · exact ⟨_, .tok h0 hv⟩
        · obtain ⟨u, hu⟩ := hx x (List.mem_cons_self ..) h0
          exact ⟨_, .non h0 hu hv⟩
    obtain ⟨u, hu⟩ := key r.2 ih
    exact ⟨u, .rule h1 h2 hu⟩
theorem clo_yi0 {rs : List RuleL} {A : Nat} (h : Clo rs false A) : Yi rs (.inl A) [] := by
  induction h with
  | @mk A r h1 h2 h3 _ ih =>
    have key : ∀ xs : List Int, (∀ x ∈ xs, ¬ x < 0) → (∀ x ∈ xs, ¬ x < 0 → Yi rs (.inl x.toNat) []) → Yi rs (.inr xs) [] := by
      intro xs
      induction xs with
      | nil => exact fun _ _ => .nil
      | cons x xs ihx =>
        intro h0 hx
        exact .non (u := []) (v := []) (h0 x (List.mem_cons_self ..)) (hx x (List.mem_cons_self ..) (h0 x (List.mem_cons_self ..))) (ihx (fun y hy => h0 y (List.mem_cons_of_mem _ hy)) fun y hy => hx y (List.mem_cons_of_mem _ hy))
    exact .rule h1 h2 (key r.2 (fun x hx h0 => by cases h3 x hx h0) ih)
theorem yi_clo {rs : List RuleL} {tok : Bool} {c : Nat ⊕ List Int} {u : List Int} (h : Yi rs c u) : (tok = true ∨ u = []) → match c with | .inl A => Clo rs tok A | .inr xs => (∀ x ∈ xs, x < 0 → tok = true) ∧ ∀ x ∈ xs, ¬ x < 0 → Clo rs tok x.toNat := by
  induction h with
  | rule h1 h2 _ ih =>
    intro ht
    exact .mk h1 h2 (ih ht).1 (ih ht).2
  | nil => exact fun _ => ⟨fun x hx => by simp at hx, fun x hx => by simp at hx⟩
  | tok hx _ ih =>
    intro ht
    have ht : tok = true := ht.resolve_right (by simp)
    have := ih (.inl ht)
    refine ⟨fun _ _ _ => ht, fun y hy h0 => ?_⟩
    rcases List.mem_cons.1 hy with rfl | hy
    · exact absurd hx h0
    · exact this.2 y hy h0
  | non hx _ _ ih1 ih2 =>
    intro ht
    have h1 := ih1 (ht.imp_right fun e => (List.append_eq_nil_iff.1 e).1)
    have h2 := ih2 (ht.imp_right fun e => (List.append_eq_nil_iff.1 e).2)
    refine ⟨fun y hy h0 => ?_, fun y hy h0 => ?_⟩
    · rcases List.mem_cons.1 hy with rfl | hy
      · exact absurd h0 hx
      · exact h2.1 y hy h0
    · rcases List.mem_cons.1 hy with rfl | hy
      · exact h1
      · exact h2.2 y hy h0
theorem clo_true {rs : List RuleL} {A : Nat} : Clo rs true A ↔ ∃ u, Yi rs (.inl A) u := ⟨clo_yi, fun ⟨_, h⟩ => yi_clo h (.inl rfl)⟩
theorem clo_false {rs : List RuleL} {A : Nat} : Clo rs false A ↔ Yi rs (.inl A) [] := ⟨clo_yi0, fun h => yi_clo h (.inr rfl)⟩
/-- Reached from the first nonterminal. -/
inductive Rch (rs : List RuleL) : Nat → Prop
  | zero : Rch rs 0
  | step {A : Nat} {r : RuleL} {x : Int} : r ∈ rs → r.1 = (A : Int) → Rch rs A → x ∈ r.2 → ¬ x < 0 → Rch rs x.toNat
theorem rch_mono {rs qs : List RuleL} (hs : ∀ r ∈ rs, r ∈ qs) {A : Nat} (h : Rch rs A) : Rch qs A := by
  induction h with
  | zero => exact .zero
  | step h1 h2 _ h4 h5 ih => exact .step (hs _ h1) h2 ih h4 h5
open Classical in
noncomputable def madeR (rs : List RuleL) : List RuleL := rs.filter fun r => decide (∀ x ∈ r.2, ¬ x < 0 → Clo rs true x.toNat)
open Classical in
noncomputable def rchR (rs : List RuleL) : List RuleL := rs.filter fun r => decide (Rch rs r.1.toNat)
noncomputable def usefulR (rs : List RuleL) : List RuleL := rchR (madeR rs)
open Classical in
theorem madeR_mem {rs : List RuleL} {r : RuleL} : r ∈ madeR rs ↔ r ∈ rs ∧ ∀ x ∈ r.2, ¬ x < 0 → Clo rs true x.toNat := by
  unfold madeR
  rw [List.mem_filter, decide_eq_true_eq]
open Classical in
theorem rchR_mem {rs : List RuleL} {r : RuleL} : r ∈ rchR rs ↔ r ∈ rs ∧ Rch rs r.1.toNat := by
  unfold rchR
  rw [List.mem_filter, decide_eq_true_eq]
theorem made_yi {rs : List RuleL} {c : Nat ⊕ List Int} {u : List Int} (h : Yi rs c u) : Yi (madeR rs) c u := by
  induction h with
  | rule h1 h2 h3 ih => exact .rule (madeR_mem.2 ⟨h1, (yi_clo (tok := true) h3 (.inl rfl)).2⟩) h2 ih
  | nil => exact .nil
  | tok hx _ ih => exact .tok hx ih
  | non hx _ _ ih1 ih2 => exact .non hx ih1 ih2
theorem rch_yi {rs : List RuleL} {c : Nat ⊕ List Int} {u : List Int} (h : Yi rs c u) : match c with | .inl A => Rch rs A → Yi (rchR rs) (.inl A) u | .inr xs => (∀ x ∈ xs, ¬ x < 0 → Rch rs x.toNat) → Yi (rchR rs) (.inr xs) u := by
  induction h with
  | @rule A r u h1 h2 _ ih =>
    intro hA
    exact .rule (rchR_mem.2 ⟨h1, by rw [h2, Int.toNat_natCast]; exact hA⟩) h2 (ih fun x hx h0 => .step h1 h2 hA hx h0)
  | nil => exact fun _ => .nil
  | tok hx _ ih => exact fun h => .tok hx (ih fun y hy => h y (List.mem_cons_of_mem _ hy))
  | non hx _ _ ih1 ih2 => exact fun h => .non hx (ih1 (h _ (List.mem_cons_self ..) hx)) (ih2 fun y hy => h y (List.mem_cons_of_mem _ hy))
theorem usefulR_sub {rs : List RuleL} {r : RuleL} (h : r ∈ usefulR rs) : r ∈ rs := (madeR_mem.1 (rchR_mem.1 h).1).1
/-- The language is the same. -/
theorem useful_yi {rs : List RuleL} {u : List Int} : Yi (usefulR rs) (.inl 0) u ↔ Yi rs (.inl 0) u :=
  ⟨fun h => yi_mono (fun _ hr => usefulR_sub hr) h, fun h => rch_yi (made_yi h) .zero⟩
theorem rch_keeps {rs : List RuleL} {A : Nat} (h : Rch rs A) : Rch (rchR rs) A := by
  induction h with
  | zero => exact .zero
  | @step A r x h1 h2 h3 h4 h5 ih => exact .step (rchR_mem.2 ⟨h1, by rw [h2, Int.toNat_natCast]; exact h3⟩) h2 ih h4 h5
/-- All that is left is reached and derives something. -/
theorem useful_rch {rs : List RuleL} {r : RuleL} (h : r ∈ usefulR rs) : Rch (usefulR rs) r.1.toNat := rch_keeps (rchR_mem.1 h).2
theorem useful_syms {rs : List RuleL} (h0 : ∀ r ∈ rs, 0 ≤ r.1) {r : RuleL} (h : r ∈ usefulR rs) {x : Int} (hx : x ∈ r.2) (hn : ¬ x < 0) : Clo (usefulR rs) true x.toNat := by
  have h1 := rchR_mem.1 h
  have h2 := madeR_mem.1 h1.1
  obtain ⟨u, hu⟩ := clo_yi (h2.2 x hx hn)
  have e : r.1 = (r.1.toNat : Int) := by have := h0 r h2.1; omega
  have := rch_yi (made_yi hu) (.step h1.1 e h1.2 hx hn)
  exact yi_clo this (.inl rfl)
theorem useful_left {rs : List RuleL} (h0 : ∀ r ∈ rs, 0 ≤ r.1) {r : RuleL} (h : r ∈ usefulR rs) : Clo (usefulR rs) true r.1.toNat :=
  .mk h (by have := h0 r (usefulR_sub h); omega) (fun _ _ _ => rfl) fun x hx hn => useful_syms h0 h hx hn
theorem usefulR_sublist (rs : List RuleL) : (usefulR rs).Sublist rs := (List.filter_sublist).trans List.filter_sublist
end Go.Sh

/- Contracts: SpansOf. -/
set_option linter.unusedVariables false
set_option linter.unusedSimpArgs false
set_option maxRecDepth 100000
namespace Go.Sh
open Go
end Go.Sh
namespace Go.Proofs.Ytegcjkhebecgbaa
open Go Go.Sh Go.RowKit
section
variable {w : World} {X Z Y : Option Addr} {cx cz cy : Nat} {gm : Gram} {ws xs : List Int} {k : Value → World → Prop}
end
end Go.Proofs.Ytegcjkhebecgbaa

/- Plain: short words are words of the language, in order; rules and spans. -/
set_option linter.unusedVariables false
set_option linter.unusedSimpArgs false
set_option maxRecDepth 100000
namespace Go.Sh
open Go
theorem good_lefts {gm : Gram} (hg : goodG gm = true) : ∀ r ∈ gm.rules, 0 ≤ r.1 := fun r hr => by
  obtain ⟨i, hi, rfl⟩ := List.getElem_of_mem hr
  have := (good_left hg hi).1
  rwa [rul_eq hi] at this
theorem good_rights {gm : Gram} (hg : goodG gm = true) {q : Nat} (hq : q < gm.rules.length) : (rul gm.rules q).2.length ≤ 4 ∧ ∀ x ∈ (rul gm.rules q).2, -gm.toks ≤ x ∧ x ≤ gm.nons - 1 := by
  simp only [goodG, Bool.and_eq_true] at hg
  have h := List.all_eq_true.1 hg.2 q (List.mem_range.2 hq)
  simp only [goodR, Bool.and_eq_true, decide_eq_true_eq] at h
  refine ⟨by have := h.1.1.2; omega, fun x hx => ?_⟩
  have := List.all_eq_true.1 h.1.2 x hx
  simpa [symB, inB] using this
theorem shortV_mem4 {gm : Gram} {most : Int} {x : List Int} (h : x ∈ (shortV gm most).1) : goodG gm = true ∧ x.length ≤ 4 ∧ wordB gm.toks x = true ∧ inL gm.rules x = true := by
  unfold shortV at h
  split at h
  · rename_i hg
    simp only [Bool.and_eq_true, inB, decide_eq_true_eq] at hg
    have hm := shortW_mem h
    have ht := good_toks hg.1
    have h4 : x.length ≤ 4 := by have := hm.1; omega
    refine ⟨hg.1, h4, ?_, ?_⟩
    · simp only [wordB, allB, inB, Bool.and_eq_true, decide_eq_true_eq, List.all_eq_true]
      exact ⟨by omega, fun t htx => by have := hm.2 t htx; omega⟩
    · unfold shortW at h
      obtain ⟨m, _, hx⟩ := List.mem_flatMap.1 h
      exact (List.mem_filter.1 hx).2
  · simp at h
theorem shortW_sorted (gm : Gram) (n : Nat) : (shortW gm n).Pairwise fun a b => a.length ≤ b.length := by
  induction n with
  | zero => simp [shortW]
  | succ n ih =>
    rw [shortW_succ, List.pairwise_append]
    refine ⟨ih, ?_, fun a ha b hb => ?_⟩
    · have : ∀ w ∈ (wordsN gm.toks.toNat n).filter (inL gm.rules), w.length = n := fun w hw => (wordsN_mem (List.mem_filter.1 hw).1).1
      rw [List.pairwise_iff_forall_sublist]
      intro a b hab
      have h1 := this a (hab.subset (by simp))
      have h2 := this b (hab.subset (by simp))
      omega
    · have h1 := (shortW_mem ha).1
      have h2 := (wordsN_mem (List.mem_filter.1 hb).1).1
      omega
where
  any_congr' {l : List RuleL} {p q : RuleL → Bool} (h : ∀ r ∈ l, p r = q r) : l.any p = l.any q := by
    rw [Bool.eq_iff_iff, List.any_eq_true, List.any_eq_true]
    constructor
    · rintro ⟨r, hr, h1⟩
      exact ⟨r, hr, by rw [← h r hr]; exact h1⟩
    · rintro ⟨r, hr, h1⟩
      exact ⟨r, hr, by rw [h r hr]; exact h1⟩
end Go.Sh

/- Contracts: what derives something, by the reference (l3Close, NullableOf, ProductiveOf). -/
set_option linter.unusedVariables false
set_option linter.unusedSimpArgs false
set_option maxRecDepth 100000
namespace Go.Sh
open Go
def tstC (tok : Bool) (out : List Int) (x : Int) : Bool := (decide (x < 0) && tok) || (decide (0 ≤ x) && decide (x ∈ out))
/-- A set that has what a predicate says at most. -/
structure SetOk (P : Nat → Prop) (nons : Nat) (out : List Int) : Prop where
  rise : RiseI out
  ok : ∀ x ∈ out, ∃ A : Nat, x = A ∧ A < nons ∧ P A
theorem SetOk.len {P : Nat → Prop} {nons : Nat} {out : List Int} (h : SetOk P nons out) : out.length ≤ nons := by
  have := rise_len (a := 0) (n := nons) h.rise (fun x hx => by obtain ⟨A, rfl, h1, _⟩ := h.ok x hx; omega) (by omega)
  omega
theorem SetOk.put {P : Nat → Prop} {nons A : Nat} {out : List Int} (h : SetOk P nons out) (hA : A < nons) (hP : P A) : SetOk P nons (putL (A : Int) out) :=
  ⟨putL_rise h.rise, fun x hx => by
    rcases putL_mem.1 hx with rfl | hx
    · exact ⟨A, rfl, hA, hP⟩
    · exact h.ok x hx⟩
theorem SetOk.eq {P : Nat → Prop} {nons : Nat} {out : List Int} (h : SetOk P nons out) (hc : ∀ A : Nat, A < nons → P A → (A : Int) ∈ out) : out = setL nons P := by
  refine rise_ext h.rise (setL_rise _ _) fun m => ?_
  rw [setL_mem]
  constructor
  · exact fun hm => by
      obtain ⟨A, e, h1, h2⟩ := h.ok m hm
      exact ⟨A, e, h1, h2⟩
  · rintro ⟨A, rfl, h1, h2⟩
    exact hc A h1 h2
theorem SetOk.nil (P : Nat → Prop) (nons : Nat) : SetOk P nons [] := ⟨.nil, fun x hx => by simp at hx⟩
theorem tstC_iff {P : Nat → Prop} {tok : Bool} {nons : Nat} {out : List Int} (h : SetOk P nons out) {xs : List Int} (ha : xs.all (tstC tok out) = true) : (∀ x ∈ xs, x < 0 → tok = true) ∧ ∀ x ∈ xs, ¬ x < 0 → P x.toNat := by
  rw [List.all_eq_true] at ha
  refine ⟨fun x hx h0 => ?_, fun x hx h0 => ?_⟩
  · have := ha x hx
    simp only [tstC, h0, decide_true, Bool.true_and, Bool.or_eq_true, Bool.and_eq_true, decide_eq_true_eq] at this
    rcases this with h1 | h1
    · exact h1
    · omega
  · have := ha x hx
    simp only [tstC, h0, decide_false, Bool.false_and, Bool.false_or, Bool.and_eq_true, decide_eq_true_eq] at this
    obtain ⟨A, e, _, h2⟩ := h.ok x this.2
    rw [e, Int.toNat_natCast]
    exact h2
/-- When no rule adds, nothing is missing. -/
theorem clo_in {rs : List RuleL} {tok : Bool} {out : List Int} (hc : ∀ r ∈ rs, r.1 ∉ out → r.2.all (tstC tok out) = false) {A : Nat} (h : Clo rs tok A) : (A : Int) ∈ out := by
  induction h with
  | @mk A r h1 h2 h3 _ ih =>
    by_cases hm : (A : Int) ∈ out
    · exact hm
    · have := hc r h1 (by rw [h2]; exact hm)
      rw [List.all_eq_false] at this
      obtain ⟨x, hx, hn⟩ := this
      exfalso
      apply hn
      by_cases h0 : x < 0
      · simp [tstC, h0, h3 x hx h0]
      · have := ih x hx h0
        rw [show ((x.toNat : Nat) : Int) = x from by omega] at this
        simp [tstC, h0, this]
        omega
noncomputable def cloV (gm : Gram) (tok : Bool) : List Int := setL gm.nons.toNat (Clo gm.rules tok)
theorem all_take_succ {p : Int → Bool} {xs : List Int} {j : Nat} (h : j < xs.length) : (xs.take (j + 1)).all p = ((xs.take j).all p && p (xs.getD j 0)) := by
  rw [take_snoc h, List.all_append]
  simp
end Go.Sh
namespace Go.Proofs.Ytegcjkhebecgbaa
open Go Go.Sh Go.RowKit
section
variable {w : World} {Y : Option Addr} {cy : Nat} {gm : Gram} {k : Value → World → Prop}
set_option maxHeartbeats 3200000 in
theorem l3Close_c {tok : Bool} (hG : kG Y cy gm.rules w) (hn : 0 ≤ gm.nons ∧ gm.nons ≤ 6) (hl : ∀ r ∈ gm.rules, 0 ≤ r.1 ∧ r.1 < gm.nons) (hr : ∀ r ∈ gm.rules, r.2.length ≤ 1000) (hk : ∀ w' X c, Gr w w' → kI X (cloV gm tok) c w' → k (.slice X (cloV gm tok).length c) w') :
    CallK Try.prog 192 [grv gm Y cy, .bool tok] k w := by
  refine enter192 ?_
  unfold S192
  have H := (Kn.nil w).addG hG.1 hG.2
  refine do_box fun b1 w1 g1 hb B1 => ?_
  have H := (H.step g1).addB B1
  simp only [List.cons_append, List.nil_append] at H
  have hrl := (H.get 1 rfl).2.le
  refine loop_ghost (σ := List Int × Bool) (fun s f w' => (∃ X c, f 5 = .slice X s.1.length c ∧ kI X s.1 c w') ∧ f 6 = .bool s.2 ∧ Gr w1 w' ∧ SetOk (Clo gm.rules tok) gm.nons.toNat s.1 ∧ (s.2 = false → ∀ r ∈ gm.rules, r.1 ∉ s.1 → r.2.all (tstC tok s.1) = false))
    (fun s => if s.2 = true then 8 - s.1.length else 0) ([], true) ⟨⟨none, 0, rfl, ⟨⟨by simp, fun h => by simp at h, fun j hj => by simp at hj⟩, Nat.le_refl _⟩⟩, rfl, Gr.refl _, SetOk.nil _ _, fun h => by cases h⟩ ?_
  rintro ⟨out, more⟩ f w2 N hag ⟨⟨X, c, h5, hX⟩, h6, g, hok, hcl⟩ hN
  dsimp only at h5 hX h6 hok hcl hN
  have f2 : f 2 = ptrv b1 := hag 2 (by decide)
  have f1 : f 1 = .bool tok := hag 1 (by decide)
  simp only [h5, h6, f2, zq18, zq19, zq20, zq21, zq22, zq23, zq24, zq25, zq26, zq27, zq28, zq4, zq3, zq1, zq2, zq0, zq29, zq30, zq14, zq15, zq16, zq17, zq13, zq10, zq12, zq11, zq7, zq5, zq6, zq9, zq8, zq31, zq32, ite_T, ite_F, zq33, zq34, zq35, Nat.reduceEqDiff, len22, len24, fa26_0, fa26_1, fa26_2, len27, fa33_0, fa33_1, len35, fa114_0, fa114_1, fa114_2, fa124_0, fa124_1, len134]
  have H := H.step g
  have hlen := hok.len
  cases more
  · simp only [zq18, zq19, zq20, zq21, zq22, zq23, zq24, zq25, zq26, zq27, zq28, zq4, zq3, zq1, zq2, zq0, zq29, zq30, zq14, zq15, zq16, zq17, zq13, zq10, zq12, zq11, zq7, zq5, zq6, zq9, zq8, zq31, zq32, ite_T, ite_F, zq33, zq34, zq35, Nat.reduceEqDiff, len22, len24, fa26_0, fa26_1, fa26_2, len27, fa33_0, fa33_1, len35, fa114_0, fa114_1, fa114_2, fa124_0, fa124_1, len134]
    have e : out = cloV gm tok := hok.eq fun A _ hA => clo_in (hcl rfl) hA
    subst e
    exact hk _ X c (H.get 0 rfl) hX
  simp only [zq18, zq19, zq20, zq21, zq22, zq23, zq24, zq25, zq26, zq27, zq28, zq4, zq3, zq1, zq2, zq0, zq29, zq30, zq14, zq15, zq16, zq17, zq13, zq10, zq12, zq11, zq7, zq5, zq6, zq9, zq8, zq31, zq32, ite_T, ite_F, zq33, zq34, zq35, Nat.reduceEqDiff, len22, len24, fa26_0, fa26_1, fa26_2, len27, fa33_0, fa33_1, len35, fa114_0, fa114_1, fa114_2, fa124_0, fa124_1, len134]
  rw [ldB24 (H.get 2 rfl) rfl]
  simp only [zq18, zq19, zq20, zq21, zq22, zq23, zq24, zq25, zq26, zq27, zq28, zq4, zq3, zq1, zq2, zq0, zq29, zq30, zq14, zq15, zq16, zq17, zq13, zq10, zq12, zq11, zq7, zq5, zq6, zq9, zq8, zq31, zq32, ite_T, ite_F, zq33, zq34, zq35, Nat.reduceEqDiff, len22, len24, fa26_0, fa26_1, fa26_2, len27, fa33_0, fa33_1, len35, fa114_0, fa114_1, fa114_2, fa124_0, fa124_1, len134]
  refine loop_to gm.rules.length 0 (fun i f w' => i ≤ gm.rules.length ∧ f 16 = .int .i64 (i : Int) ∧ ∃ (X : Option Addr) (c : Nat) (out2 : List Int) (more2 : Bool), f 5 = .slice X out2.length c ∧ kI X out2 c w' ∧ f 6 = .bool more2 ∧ Gr w2 w' ∧ SetOk (Clo gm.rules tok) gm.nons.toNat out2 ∧
      (more2 = false → out2 = out ∧ ∀ q, q < i → (rul gm.rules q).1 ∉ out → (rul gm.rules q).2.all (tstC tok out) = false) ∧ (more2 = true → out.length < out2.length))
    ⟨Nat.zero_le _, rfl, X, c, out, false, h5, hX, rfl, Gr.refl _, hok, fun _ => ⟨rfl, fun q hq => by omega⟩, fun h => by cases h⟩ ?_
  rintro i q w3 N2 hag2 ⟨hi, q16, X, c, out2, more2, q5, hX, q6, g2, hok2, hno, hyes⟩ hN2
  have q14 : q 14 = .slice Y gm.rules.length cy := hag2 14 (by decide)
  have q15 : q 15 = .int .i64 gm.rules.length := hag2 15 (by decide)
  have q1 : q 1 = .bool tok := (hag2 1 (by decide)).trans f1
  simp only [q14, q15, q16, q5, q6, zq18, zq19, zq20, zq21, zq22, zq23, zq24, zq25, zq26, zq27, zq28, zq4, zq3, zq1, zq2, zq0, zq29, zq30, zq14, zq15, zq16, zq17, zq13, zq10, zq12, zq11, zq7, zq5, zq6, zq9, zq8, zq31, zq32, ite_T, ite_F, zq33, zq34, zq35, Nat.reduceEqDiff, len22, len24, fa26_0, fa26_1, fa26_2, len27, fa33_0, fa33_1, len35, fa114_0, fa114_1, fa114_2, fa124_0, fa124_1, len134]
  by_cases hlt : i < gm.rules.length
  case neg =>
    simp only [show ¬ ((i : Int) < (gm.rules.length : Int)) from by omega, decide_false, zq18, zq19, zq20, zq21, zq22, zq23, zq24, zq25, zq26, zq27, zq28, zq4, zq3, zq1, zq2, zq0, zq29, zq30, zq14, zq15, zq16, zq17, zq13, zq10, zq12, zq11, zq7, zq5, zq6, zq9, zq8, zq31, zq32, ite_T, ite_F, zq33, zq34, zq35, Nat.reduceEqDiff, len22, len24, fa26_0, fa26_1, fa26_2, len27, fa33_0, fa33_1, len35, fa114_0, fa114_1, fa114_2, fa124_0, fa124_1, len134]
    refine hN (out2, more2) _ _ ⟨⟨X, c, q5, hX⟩, q6, gr_trans g g2, hok2, fun hm r hr' hnot => ?_⟩ ?_
    · dsimp only at hm ⊢
      obtain ⟨e, hall⟩ := hno hm
      subst e
      obtain ⟨z, hz, rfl⟩ := List.getElem_of_mem hr'
      have := hall z (by omega)
      rw [rul_eq hz] at this
      exact this hnot
    · cases more2
      · simp
        omega
      · have := hyes rfl
        have := hok2.len
        simp
        omega
  simp only [show ((i : Int) < (gm.rules.length : Int)) from by omega, decide_true, zq18, zq19, zq20, zq21, zq22, zq23, zq24, zq25, zq26, zq27, zq28, zq4, zq3, zq1, zq2, zq0, zq29, zq30, zq14, zq15, zq16, zq17, zq13, zq10, zq12, zq11, zq7, zq5, zq6, zq9, zq8, zq31, zq32, ite_T, ite_F, zq33, zq34, zq35, Nat.reduceEqDiff, len22, len24, fa26_0, fa26_1, fa26_2, len27, fa33_0, fa33_1, len35, fa114_0, fa114_1, fa114_2, fa124_0, fa124_1, len134]
  have hrm : rul gm.rules i ∈ gm.rules := by rw [rul_eq hlt]; exact List.getElem_mem hlt
  have H := H.step g2
  have H := H.addI hX.1 hX.2
  simp only [List.cons_append, List.nil_append] at H
  refine join_as (fun f w' => f 16 = .int .i64 (i : Int) ∧ ∃ (X : Option Addr) (c : Nat) (out2 : List Int) (more2 : Bool), f 5 = .slice X out2.length c ∧ kI X out2 c w' ∧ f 6 = .bool more2 ∧ Gr w2 w' ∧ SetOk (Clo gm.rules tok) gm.nons.toNat out2 ∧
      (more2 = false → out2 = out ∧ ∀ q, q < i + 1 → (rul gm.rules q).1 ∉ out → (rul gm.rules q).2.all (tstC tok out) = false) ∧ (more2 = true → out.length < out2.length)) (fun K hK => ?_) ?_
  case refine_2 =>
    rintro f w' ⟨f16, h⟩
    simp only [f16, zq18, zq19, zq20, zq21, zq22, zq23, zq24, zq25, zq26, zq27, zq28, zq4, zq3, zq1, zq2, zq0, zq29, zq30, zq14, zq15, zq16, zq17, zq13, zq10, zq12, zq11, zq7, zq5, zq6, zq9, zq8, zq31, zq32, ite_T, ite_F, zq33, zq34, zq35, Nat.reduceEqDiff, len22, len24, fa26_0, fa26_1, fa26_2, len27, fa33_0, fa33_1, len35, fa114_0, fa114_1, fa114_2, fa124_0, fa124_1, len134]
    rw [i64_of (by omega) (by omega)]
    exact hN2 _ _ hlt ⟨by omega, rfl, h⟩
  have H := H.add (P := fun w' => Gr w2 w') fun w' g' => gr_trans g2 g'
  simp only [List.cons_append, List.nil_append] at H
  have hRF := (H.get 1 rfl).2
  refine rdi (ixn24 hRF.ptr hlt) ?_
  refine ld_rule agg33 sz33 hRF hlt fun v hv => ?_
  obtain ⟨Z, cz, rfl, hcz, hZ⟩ := hv
  have H := H.addI hZ.is hcz
  refine newR H fun b9 w4 H => ?_
  simp only [List.cons_append, List.nil_append] at H
  simp only [zq18, zq19, zq20, zq21, zq22, zq23, zq24, zq25, zq26, zq27, zq28, zq4, zq3, zq1, zq2, zq0, zq29, zq30, zq14, zq15, zq16, zq17, zq13, zq10, zq12, zq11, zq7, zq5, zq6, zq9, zq8, zq31, zq32, ite_T, ite_F, zq33, zq34, zq35, Nat.reduceEqDiff, len22, len24, fa26_0, fa26_1, fa26_2, len27, fa33_0, fa33_1, len35, fa114_0, fa114_1, fa114_2, fa124_0, fa124_1, len134]
  rw [ldB3 (H.get 6 rfl) rfl]
  refine l1Has_c (H.get 3 rfl).1 fun w5 g5 => ?_
  have H := H.step g5
  simp only [zq18, zq19, zq20, zq21, zq22, zq23, zq24, zq25, zq26, zq27, zq28, zq4, zq3, zq1, zq2, zq0, zq29, zq30, zq14, zq15, zq16, zq17, zq13, zq10, zq12, zq11, zq7, zq5, zq6, zq9, zq8, zq31, zq32, ite_T, ite_F, zq33, zq34, zq35, Nat.reduceEqDiff, len22, len24, fa26_0, fa26_1, fa26_2, len27, fa33_0, fa33_1, len35, fa114_0, fa114_1, fa114_2, fa124_0, fa124_1, len134]
  rw [ldB27 (H.get 6 rfl) rfl]
  simp only [zq18, zq19, zq20, zq21, zq22, zq23, zq24, zq25, zq26, zq27, zq28, zq4, zq3, zq1, zq2, zq0, zq29, zq30, zq14, zq15, zq16, zq17, zq13, zq10, zq12, zq11, zq7, zq5, zq6, zq9, zq8, zq31, zq32, ite_T, ite_F, zq33, zq34, zq35, Nat.reduceEqDiff, len22, len24, fa26_0, fa26_1, fa26_2, len27, fa33_0, fa33_1, len35, fa114_0, fa114_1, fa114_2, fa124_0, fa124_1, len134]
  have hr2 := hr _ hrm
  refine loop_to (rul gm.rules i).2.length 0 (fun j f w' => j ≤ (rul gm.rules i).2.length ∧ f 28 = .int .i64 (j : Int) ∧ f 9 = .bool ((!decide ((rul gm.rules i).1 ∈ out2)) && ((rul gm.rules i).2.take j).all (tstC tok out2)) ∧ Gr w5 w')
    ⟨Nat.zero_le _, rfl, by simp; rfl, Gr.refl _⟩ ?_
  rintro j r w6 N3 hag3 ⟨hj, r28, r9, g6⟩ hN3
  have r1 : r 1 = .bool tok := (hag3 1 (by decide)).trans q1
  have r5 : r 5 = .slice X out2.length c := (hag3 5 (by decide)).trans q5
  have r6 : r 6 = .bool more2 := (hag3 6 (by decide)).trans q6
  have r8 : r 8 = ptrv b9 := hag3 8 (by decide)
  have r16 : r 16 = .int .i64 (i : Int) := (hag3 16 (by decide)).trans q16
  have r26 : r 26 = .slice Z (rul gm.rules i).2.length cz := hag3 26 (by decide)
  have r27 : r 27 = .int .i64 ((rul gm.rules i).2.length : Int) := hag3 27 (by decide)
  simp only [r1, r5, r6, r8, r9, r26, r27, r28, zq18, zq19, zq20, zq21, zq22, zq23, zq24, zq25, zq26, zq27, zq28, zq4, zq3, zq1, zq2, zq0, zq29, zq30, zq14, zq15, zq16, zq17, zq13, zq10, zq12, zq11, zq7, zq5, zq6, zq9, zq8, zq31, zq32, ite_T, ite_F, zq33, zq34, zq35, Nat.reduceEqDiff, len22, len24, fa26_0, fa26_1, fa26_2, len27, fa33_0, fa33_1, len35, fa114_0, fa114_1, fa114_2, fa124_0, fa124_1, len134]
  have H := H.step g6
  by_cases hlt2 : j < (rul gm.rules i).2.length
  case neg =>
    simp only [show ¬ ((j : Int) < ((rul gm.rules i).2.length : Int)) from by omega, decide_false, r5, r6, r8, r9, zq18, zq19, zq20, zq21, zq22, zq23, zq24, zq25, zq26, zq27, zq28, zq4, zq3, zq1, zq2, zq0, zq29, zq30, zq14, zq15, zq16, zq17, zq13, zq10, zq12, zq11, zq7, zq5, zq6, zq9, zq8, zq31, zq32, ite_T, ite_F, zq33, zq34, zq35, Nat.reduceEqDiff, len22, len24, fa26_0, fa26_1, fa26_2, len27, fa33_0, fa33_1, len35, fa114_0, fa114_1, fa114_2, fa124_0, fa124_1, len134]
    rw [List.take_of_length_le (by omega)]
    cases hfire : ((!decide ((rul gm.rules i).1 ∈ out2)) && (rul gm.rules i).2.all (tstC tok out2))
    · simp only [zq18, zq19, zq20, zq21, zq22, zq23, zq24, zq25, zq26, zq27, zq28, zq4, zq3, zq1, zq2, zq0, zq29, zq30, zq14, zq15, zq16, zq17, zq13, zq10, zq12, zq11, zq7, zq5, zq6, zq9, zq8, zq31, zq32, ite_T, ite_F, zq33, zq34, zq35, Nat.reduceEqDiff, len22, len24, fa26_0, fa26_1, fa26_2, len27, fa33_0, fa33_1, len35, fa114_0, fa114_1, fa114_2, fa124_0, fa124_1, len134]
      refine hK _ _ ⟨r16, X, c, out2, more2, r5, H.get 3 rfl, r6, H.get 4 rfl, hok2, fun hm => ⟨(hno hm).1, fun z hz hnot => ?_⟩, hyes⟩
      rcases Nat.lt_succ_iff_lt_or_eq.1 hz with hz | rfl
      · exact (hno hm).2 z hz hnot
      · obtain ⟨e, _⟩ := hno hm
        subst e
        rw [decide_eq_false hnot] at hfire
        simpa using hfire
    · simp only [zq18, zq19, zq20, zq21, zq22, zq23, zq24, zq25, zq26, zq27, zq28, zq4, zq3, zq1, zq2, zq0, zq29, zq30, zq14, zq15, zq16, zq17, zq13, zq10, zq12, zq11, zq7, zq5, zq6, zq9, zq8, zq31, zq32, ite_T, ite_F, zq33, zq34, zq35, Nat.reduceEqDiff, len22, len24, fa26_0, fa26_1, fa26_2, len27, fa33_0, fa33_1, len35, fa114_0, fa114_1, fa114_2, fa124_0, fa124_1, len134]
      rw [ldB3 (H.get 6 rfl) rfl]
      have hlen2 := hok2.len
      refine l1Put_c (H.get 3 rfl) (by omega) fun w7 X' c' g7 hX' => ?_
      have H := H.step g7
      simp only [Bool.and_eq_true, Bool.not_eq_true', decide_eq_false_iff_not] at hfire
      have hb := hl _ hrm
      have hti := tstC_iff hok2 hfire.2
      have hP : Clo gm.rules tok (rul gm.rules i).1.toNat := .mk hrm (by omega) hti.1 hti.2
      have hput := hok2.put (A := (rul gm.rules i).1.toNat) (by omega) hP
      rw [show (((rul gm.rules i).1.toNat : Nat) : Int) = (rul gm.rules i).1 from by omega] at hput
      have hpl := putL_more hok2.rise hfire.1
      refine hK _ _ ⟨r16, X', c', _, true, rfl, hX', rfl, H.get 4 rfl, hput, (fun h => by cases h), fun _ => ?_⟩
      cases more2
      · rw [(hno rfl).1] at hpl
        rw [(hno rfl).1]
        omega
      · have := hyes rfl
        omega
  simp only [show ((j : Int) < ((rul gm.rules i).2.length : Int)) from by omega, decide_true, zq18, zq19, zq20, zq21, zq22, zq23, zq24, zq25, zq26, zq27, zq28, zq4, zq3, zq1, zq2, zq0, zq29, zq30, zq14, zq15, zq16, zq17, zq13, zq10, zq12, zq11, zq7, zq5, zq6, zq9, zq8, zq31, zq32, ite_T, ite_F, zq33, zq34, zq35, Nat.reduceEqDiff, len22, len24, fa26_0, fa26_1, fa26_2, len27, fa33_0, fa33_1, len35, fa114_0, fa114_1, fa114_2, fa124_0, fa124_1, len134]
  have hZ' := (H.get 5 rfl).1
  refine rdi (ixn27 hZ'.ptr hlt2) (rdi (ld3 (hZ'.cell j hlt2)) ?_)
  have hall := all_take_succ (p := tstC tok out2) hlt2
  have hle27 := hZ'.le
  generalize hx : (rul gm.rules i).2.getD j 0 = x at *
  have step : ∀ (bb : Bool) (w' : World) (f' : F), Gr w6 w' → f' 28 = .int .i64 ((j : Int) + 1) → f' 9 = .bool bb → bb = ((!decide ((rul gm.rules i).1 ∈ out2)) && ((rul gm.rules i).2.take (j + 1)).all (tstC tok out2)) → N3 f' w' := fun bb w' f' g' e1 e2 e3 => by
    refine hN3 f' w' hlt2 ⟨by omega, by rw [e1]; rfl, by rw [e2, e3], gr_trans g6 g'⟩
  cases hacc : ((!decide ((rul gm.rules i).1 ∈ out2)) && ((rul gm.rules i).2.take j).all (tstC tok out2))
  · simp only [zq18, zq19, zq20, zq21, zq22, zq23, zq24, zq25, zq26, zq27, zq28, zq4, zq3, zq1, zq2, zq0, zq29, zq30, zq14, zq15, zq16, zq17, zq13, zq10, zq12, zq11, zq7, zq5, zq6, zq9, zq8, zq31, zq32, ite_T, ite_F, zq33, zq34, zq35, Nat.reduceEqDiff, len22, len24, fa26_0, fa26_1, fa26_2, len27, fa33_0, fa33_1, len35, fa114_0, fa114_1, fa114_2, fa124_0, fa124_1, len134]
    rw [i64_of (by omega) (by omega)]
    refine step false _ _ (Gr.refl _) rfl rfl ?_
    rw [hall, ← Bool.and_assoc, hacc, Bool.false_and]
  · simp only [zq18, zq19, zq20, zq21, zq22, zq23, zq24, zq25, zq26, zq27, zq28, zq4, zq3, zq1, zq2, zq0, zq29, zq30, zq14, zq15, zq16, zq17, zq13, zq10, zq12, zq11, zq7, zq5, zq6, zq9, zq8, zq31, zq32, ite_T, ite_F, zq33, zq34, zq35, Nat.reduceEqDiff, len22, len24, fa26_0, fa26_1, fa26_2, len27, fa33_0, fa33_1, len35, fa114_0, fa114_1, fa114_2, fa124_0, fa124_1, len134]
    by_cases hx0 : x < 0
    · simp only [hx0, decide_true, zq18, zq19, zq20, zq21, zq22, zq23, zq24, zq25, zq26, zq27, zq28, zq4, zq3, zq1, zq2, zq0, zq29, zq30, zq14, zq15, zq16, zq17, zq13, zq10, zq12, zq11, zq7, zq5, zq6, zq9, zq8, zq31, zq32, ite_T, ite_F, zq33, zq34, zq35, Nat.reduceEqDiff, len22, len24, fa26_0, fa26_1, fa26_2, len27, fa33_0, fa33_1, len35, fa114_0, fa114_1, fa114_2, fa124_0, fa124_1, len134]
      cases tok
      · simp only [show ¬ ((0 : Int) ≤ x) from by omega, decide_false, zq18, zq19, zq20, zq21, zq22, zq23, zq24, zq25, zq26, zq27, zq28, zq4, zq3, zq1, zq2, zq0, zq29, zq30, zq14, zq15, zq16, zq17, zq13, zq10, zq12, zq11, zq7, zq5, zq6, zq9, zq8, zq31, zq32, ite_T, ite_F, zq33, zq34, zq35, Nat.reduceEqDiff, len22, len24, fa26_0, fa26_1, fa26_2, len27, fa33_0, fa33_1, len35, fa114_0, fa114_1, fa114_2, fa124_0, fa124_1, len134]
        rw [i64_of (by omega) (by omega)]
        refine step false _ _ (Gr.refl _) rfl rfl ?_
        rw [hall, ← Bool.and_assoc, hacc]
        simp [tstC, hx0]
        omega
      · simp only [zq18, zq19, zq20, zq21, zq22, zq23, zq24, zq25, zq26, zq27, zq28, zq4, zq3, zq1, zq2, zq0, zq29, zq30, zq14, zq15, zq16, zq17, zq13, zq10, zq12, zq11, zq7, zq5, zq6, zq9, zq8, zq31, zq32, ite_T, ite_F, zq33, zq34, zq35, Nat.reduceEqDiff, len22, len24, fa26_0, fa26_1, fa26_2, len27, fa33_0, fa33_1, len35, fa114_0, fa114_1, fa114_2, fa124_0, fa124_1, len134]
        rw [i64_of (by omega) (by omega)]
        refine step true _ _ (Gr.refl _) rfl rfl ?_
        rw [hall, ← Bool.and_assoc, hacc]
        simp [tstC, hx0]
    · simp only [hx0, decide_false, show ((0 : Int) ≤ x) from by omega, decide_true, zq18, zq19, zq20, zq21, zq22, zq23, zq24, zq25, zq26, zq27, zq28, zq4, zq3, zq1, zq2, zq0, zq29, zq30, zq14, zq15, zq16, zq17, zq13, zq10, zq12, zq11, zq7, zq5, zq6, zq9, zq8, zq31, zq32, ite_T, ite_F, zq33, zq34, zq35, Nat.reduceEqDiff, len22, len24, fa26_0, fa26_1, fa26_2, len27, fa33_0, fa33_1, len35, fa114_0, fa114_1, fa114_2, fa124_0, fa124_1, len134]
      refine l1Has_c (H.get 3 rfl).1 fun w7 g7 => ?_
      rw [i64_of (by omega) (by omega)]
      refine step (decide (x ∈ out2)) _ _ g7 rfl rfl ?_
      rw [hall, ← Bool.and_assoc, hacc]
      simp [tstC, hx0]
      omega
end
end Go.Proofs.Ytegcjkhebecgbaa

/- Plain: how long the shortest word of each nonterminal is. -/
set_option linter.unusedVariables false
set_option linter.unusedSimpArgs false
set_option maxRecDepth 100000
namespace Go.Sh
open Go
def lat (L : List Int) (n : Nat) : Int := L.getD n (-1)
def stepLL (L : List Int) (n x : Int) : Int := if n < 0 then n else if x < 0 then n + 1 else if lat L x.toNat < 0 then -1 else n + lat L x.toNat
def seqLL (L : List Int) (xs : List Int) : Int := xs.foldl (stepLL L) 0
theorem seqLL_take {L xs : List Int} {j : Nat} (h : j < xs.length) : seqLL L (xs.take (j + 1)) = stepLL L (seqLL L (xs.take j)) (xs.getD j 0) := by
  unfold seqLL
  rw [take_snoc h, List.foldl_append]
  rfl
theorem foldLL_neg {L : List Int} : ∀ {xs : List Int} {n : Int}, n < 0 → xs.foldl (stepLL L) n = n := by
  intro xs
  induction xs with
  | nil => intro n _; rfl
  | cons x xs ih =>
    intro n h
    rw [List.foldl_cons]
    have e : stepLL L n x = n := by unfold stepLL; rw [if_pos h]
    rw [e]
    exact ih h
/-- What is told is the length of a word. -/
def SndL (rs : List RuleL) (L : List Int) : Prop := ∀ n : Nat, 0 ≤ lat L n → ∃ u, Yi rs (.inl n) u ∧ (u.length : Int) = lat L n
/-- No rule makes a shorter one. -/
def FixL (rs : List RuleL) (L : List Int) : Prop := ∀ r ∈ rs, 0 ≤ seqLL L r.2 → 0 ≤ lat L r.1.toNat ∧ lat L r.1.toNat ≤ seqLL L r.2
theorem foldLL_snd {rs : List RuleL} {L : List Int} (hs : SndL rs L) : ∀ {xs : List Int} {n : Int}, 0 ≤ n → 0 ≤ xs.foldl (stepLL L) n → ∃ u, Yi rs (.inr xs) u ∧ n + (u.length : Int) = xs.foldl (stepLL L) n := by
  intro xs
  induction xs with
  | nil => intro n _ _; exact ⟨[], .nil, by simp⟩
  | cons x xs ih =>
    intro n hn h
    rw [List.foldl_cons] at h ⊢
    by_cases hneg : stepLL L n x < 0
    · rw [foldLL_neg hneg] at h
      omega
    · obtain ⟨v, hv, e⟩ := ih (by omega) h
      rw [← e]
      unfold stepLL at hneg ⊢
      rw [if_neg (by omega)] at hneg ⊢
      by_cases hx : x < 0
      · rw [if_pos hx]
        exact ⟨_, .tok hx hv, by rw [List.length_cons]; omega⟩
      · rw [if_neg hx] at hneg ⊢
        by_cases hl : lat L x.toNat < 0
        · rw [if_pos hl] at hneg
          omega
        · rw [if_neg hl]
          obtain ⟨u, hu, e2⟩ := hs x.toNat (by omega)
          exact ⟨_, .non hx hu hv, by rw [List.length_append]; omega⟩
theorem seqLL_snd {rs : List RuleL} {L : List Int} (hs : SndL rs L) {xs : List Int} (h : 0 ≤ seqLL L xs) : ∃ u, Yi rs (.inr xs) u ∧ (u.length : Int) = seqLL L xs := by
  obtain ⟨u, hu, e⟩ := foldLL_snd hs (n := 0) (by omega) h
  exact ⟨u, hu, by unfold seqLL; omega⟩
theorem fixL_yi {rs : List RuleL} {L : List Int} (hf : FixL rs L) {c : Nat ⊕ List Int} {u : List Int} (h : Yi rs c u) :
    match c with | .inl A => 0 ≤ lat L A ∧ lat L A ≤ u.length | .inr xs => ∀ n : Int, 0 ≤ n → 0 ≤ xs.foldl (stepLL L) n ∧ xs.foldl (stepLL L) n ≤ n + u.length := by
  induction h with
  | @rule A r u h1 h2 _ ih =>
    have := ih 0 (by omega)
    have h3 := hf r h1 this.1
    rw [h2, Int.toNat_natCast] at h3
    unfold seqLL at h3
    dsimp only
    omega
  | nil =>
    intro n hn
    simp
    omega
  | @tok x xs u hx _ ih =>
    intro n hn
    rw [List.foldl_cons]
    have e : stepLL L n x = n + 1 := by unfold stepLL; rw [if_neg (by omega), if_pos hx]
    rw [e]
    have := ih (n + 1) (by omega)
    rw [List.length_cons]
    omega
  | @non x xs u v hx _ _ ih1 ih2 =>
    intro n hn
    rw [List.foldl_cons]
    dsimp only at ih1
    have e : stepLL L n x = n + lat L x.toNat := by unfold stepLL; rw [if_neg (by omega), if_neg hx, if_neg (by omega)]
    rw [e]
    have := ih2 (n + lat L x.toNat) (by omega)
    rw [List.length_append]
    omega
/-- The length of the shortest word of the start, or that there is none. -/
def LongI (rs : List RuleL) (n : Int) : Prop := (n < 0 ∧ ∀ u, ¬ Yi rs (.inl 0) u) ∨ (0 ≤ n ∧ (∃ u, Yi rs (.inl 0) u ∧ (u.length : Int) = n) ∧ ∀ u, Yi rs (.inl 0) u → n ≤ u.length)
theorem longI_of {rs : List RuleL} {L : List Int} (hs : SndL rs L) (hf : FixL rs L) : LongI rs (lat L 0) := by
  by_cases h : lat L 0 < 0
  · exact .inl ⟨h, fun u hu => by have := fixL_yi hf hu; dsimp only at this; omega⟩
  · exact .inr ⟨by omega, hs 0 (by omega), fun u hu => (fixL_yi hf hu).2⟩
theorem longI_one {rs : List RuleL} {n m : Int} (h : LongI rs n) (g : LongI rs m) : (n < 0 ↔ m < 0) ∧ (0 ≤ n → n = m) := by
  rcases h with ⟨h1, h2⟩ | ⟨h1, ⟨u, hu, e⟩, h3⟩
  · rcases g with ⟨g1, g2⟩ | ⟨g1, ⟨v, hv, e'⟩, g3⟩
    · exact ⟨by omega, by omega⟩
    · exact absurd hv (h2 v)
  · rcases g with ⟨g1, g2⟩ | ⟨g1, ⟨v, hv, e'⟩, g3⟩
    · exact absurd hu (g2 u)
    · have := h3 v hv
      have := g3 u hu
      exact ⟨by omega, by omega⟩
open Classical in
/-- The answer of LeastLong. -/
noncomputable def llV (gm : Gram) : Int × Bool := if goodG gm = true then if h : ∃ n : Int, LongI gm.rules n ∧ 0 ≤ n then (Classical.choose h, true) else (0, false) else (0, false)
theorem llV_of {gm : Gram} {n : Int} (hg : goodG gm = true) (h : LongI gm.rules n) : llV gm = if n < 0 then (0, false) else (n, true) := by
  unfold llV
  rw [if_pos hg]
  by_cases hn : n < 0
  · rw [if_pos hn, dif_neg]
    rintro ⟨m, hm, h0⟩
    have := (longI_one h hm).1
    omega
  · rw [if_neg hn]
    have he : ∃ n : Int, LongI gm.rules n ∧ 0 ≤ n := ⟨n, h, by omega⟩
    rw [dif_pos he]
    have := Classical.choose_spec he
    have := (longI_one h this.1).2 (by omega)
    rw [← this]
theorem llV_bad {gm : Gram} (hg : goodG gm = false) : llV gm = (0, false) := by
  unfold llV
  rw [if_neg (by rw [hg]; decide)]
/-! Bounds: with so many told, none is longer than that power of four. -/
def cntL (L : List Int) : Nat := L.countP fun n => decide (0 ≤ n)
def BdL (L : List Int) : Prop := ∀ n, lat L n ≤ ((4 ^ cntL L : Nat) : Int)
theorem lat_set {L : List Int} {n m : Nat} {x : Int} (h : n < L.length) : lat (L.set n x) m = if m = n then x else lat L m := by
  unfold lat
  rw [List.getD_eq_getElem?_getD, List.getD_eq_getElem?_getD, List.getElem?_set]
  by_cases e : n = m
  · subst e
    simp [h]
  · rw [if_neg e, if_neg (fun h => e h.symm)]
theorem lat_get {L : List Int} {n : Nat} (h : n < L.length) : lat L n = L[n] := by
  unfold lat
  rw [List.getD_eq_getElem?_getD, List.getElem?_eq_getElem h]
  rfl
theorem cntL_set {L : List Int} {n : Nat} {x : Int} (h : n < L.length) (hx : 0 ≤ x) : cntL (L.set n x) = if lat L n < 0 then cntL L + 1 else cntL L := by
  unfold cntL
  rw [List.countP_set h, lat_get h]
  simp only [decide_eq_true_eq, hx, if_true]
  by_cases hl : L[n] < 0
  · rw [if_pos hl, if_neg (by omega)]
    omega
  · rw [if_neg hl, if_pos (by omega)]
    have : 0 < L.countP fun n => decide (0 ≤ n) := List.countP_pos_iff.2 ⟨L[n], List.getElem_mem h, by simp; omega⟩
    omega
theorem foldLL_bd {L : List Int} {M : Int} (hM : 1 ≤ M) (hb : ∀ n, lat L n ≤ M) : ∀ {xs : List Int} {n : Int}, -1 ≤ n → -1 ≤ xs.foldl (stepLL L) n ∧ xs.foldl (stepLL L) n ≤ max n 0 + xs.length * M := by
  intro xs
  induction xs with
  | nil => intro n hn; simp; omega
  | cons x xs ih =>
    intro n hn
    rw [List.foldl_cons]
    have hst : -1 ≤ stepLL L n x ∧ stepLL L n x ≤ max n 0 + M := by
      unfold stepLL
      have := hb x.toNat
      split
      · omega
      · split
        · omega
        · split
          · omega
          · omega
    have := ih hst.1
    rw [List.length_cons, show (((xs.length + 1 : Nat) : Int)) * M = xs.length * M + M from by rw [Int.natCast_add, Int.add_mul]; simp]
    omega
theorem seqLL_bd {L : List Int} (hb : BdL L) {xs : List Int} (hx : xs.length ≤ 4) : -1 ≤ seqLL L xs ∧ seqLL L xs ≤ ((4 ^ (cntL L + 1) : Nat) : Int) := by
  have hp : 1 ≤ (4 ^ cntL L : Nat) := Nat.one_le_pow _ _ (by decide)
  have := foldLL_bd (M := ((4 ^ cntL L : Nat) : Int)) (by omega) hb (xs := xs) (n := 0) (by omega)
  unfold seqLL
  refine ⟨this.1, ?_⟩
  have h4 : (xs.length : Int) * ((4 ^ cntL L : Nat) : Int) ≤ ((4 ^ (cntL L + 1) : Nat) : Int) := by
    rw [Nat.pow_succ, Nat.mul_comm (4 ^ cntL L) 4, Int.natCast_mul]
    exact Int.mul_le_mul_of_nonneg_right (by omega) (by omega)
  omega
theorem cntL_le (L : List Int) : cntL L ≤ L.length := List.countP_le_length
theorem bdL_num {L : List Int} (hb : BdL L) (hl : L.length ≤ 6) (n : Nat) : lat L n ≤ 4096 := by
  have h1 := hb n
  have h2 : (4 ^ cntL L : Nat) ≤ 4 ^ 6 := Nat.pow_le_pow_right (by decide) (Nat.le_trans (cntL_le L) hl)
  have : (4 : Nat) ^ 6 = 4096 := rfl
  omega
theorem seqLL_num {L : List Int} (hb : BdL L) (hl : L.length ≤ 6) {xs : List Int} (hx : xs.length ≤ 4) : -1 ≤ seqLL L xs ∧ seqLL L xs ≤ 16384 := by
  have h1 := seqLL_bd hb hx
  have h2 : (4 ^ (cntL L + 1) : Nat) ≤ 4 ^ 7 := Nat.pow_le_pow_right (by decide) (Nat.succ_le_succ (Nat.le_trans (cntL_le L) hl))
  have : (4 : Nat) ^ 7 = 16384 := rfl
  omega
/-- How much is still to be told. -/
def wtL (v : Int) : Nat := if v < 0 then 5000 else v.toNat
def restL (L : List Int) : Nat := (L.map wtL).sum
theorem sumN_set : ∀ {L : List Nat} {n x : Nat} (h : n < L.length), (L.set n x).sum + L[n] = L.sum + x := by
  intro L
  induction L with
  | nil => intro n x h; simp at h
  | cons a L ih =>
    intro n x h
    cases n with
    | zero => simp; omega
    | succ n =>
      have := ih (n := n) (x := x) (by simpa using h)
      simp only [List.set_cons_succ, List.sum_cons, List.getElem_cons_succ]
      omega
structure OkL (rs : List RuleL) (m : Nat) (L : List Int) : Prop where
  len : L.length = m
  snd : SndL rs L
  bd : BdL L
theorem okL_zero (rs : List RuleL) (m : Nat) : OkL rs m (List.replicate m (-1)) := by
  have e : ∀ n, lat (List.replicate m (-1)) n = -1 := fun n => by
    unfold lat
    rw [List.getD_eq_getElem?_getD, List.getElem?_replicate]
    split <;> rfl
  exact ⟨by simp, fun n h => by rw [e] at h; omega, fun n => by rw [e]; have : 0 ≤ ((4 ^ cntL (List.replicate m (-1)) : Nat) : Int) := Int.natCast_nonneg _; omega⟩
theorem okL_set {rs : List RuleL} {m : Nat} {L : List Int} (h : OkL rs m L) (hm : m ≤ 6) {r : RuleL} (hr : r ∈ rs) (h0 : 0 ≤ r.1 ∧ r.1 < m) (h4 : r.2.length ≤ 4) (hs : 0 ≤ seqLL L r.2) (hn : lat L r.1.toNat < 0 ∨ seqLL L r.2 < lat L r.1.toNat) :
    OkL rs m (L.set r.1.toNat (seqLL L r.2)) ∧ restL (L.set r.1.toNat (seqLL L r.2)) < restL L := by
  have hl := h.len
  have hlt : r.1.toNat < L.length := by omega
  have hb := seqLL_bd h.bd h4
  have hc := cntL_set (x := seqLL L r.2) hlt hs
  have hle6 := cntL_le L
  refine ⟨⟨by rw [List.length_set]; exact hl, fun n hn' => ?_, fun n => ?_⟩, ?_⟩
  · rw [lat_set hlt] at hn' ⊢
    by_cases e : n = r.1.toNat
    · rw [if_pos e]
      obtain ⟨u, hu, eu⟩ := seqLL_snd h.snd hs
      exact ⟨u, .rule hr (by omega) hu, eu⟩
    · rw [if_neg e] at hn' ⊢
      exact h.snd n hn'
  · rw [lat_set hlt, hc]
    have hbn := h.bd n
    have hbr := h.bd r.1.toNat
    have hp : (4 ^ cntL L : Nat) ≤ 4 ^ (cntL L + 1) := Nat.pow_le_pow_right (by decide) (by omega)
    by_cases e : n = r.1.toNat
    · rw [if_pos e]
      by_cases hneg : lat L r.1.toNat < 0
      · rw [if_pos hneg]
        exact hb.2
      · rw [if_neg hneg]
        omega
    · rw [if_neg e]
      by_cases hneg : lat L r.1.toNat < 0
      · rw [if_pos hneg]
        omega
      · rw [if_neg hneg]
        exact hbn
  · unfold restL
    rw [List.map_set]
    have hlt2 : r.1.toNat < (L.map wtL).length := by rw [List.length_map]; exact hlt
    have := sumN_set (x := wtL (seqLL L r.2)) hlt2
    have e : (L.map wtL)[r.1.toNat] = wtL (lat L r.1.toNat) := by rw [List.getElem_map, lat_get hlt]
    rw [e] at this
    have hnum := bdL_num h.bd (by omega) r.1.toNat
    have hw : wtL (seqLL L r.2) < wtL (lat L r.1.toNat) := by
      unfold wtL
      rw [if_neg (by omega)]
      by_cases hneg : lat L r.1.toNat < 0
      · rw [if_pos hneg]
        have hc1 : cntL L + 1 ≤ 6 := by
          rw [if_pos hneg] at hc
          have := cntL_le (L.set r.1.toNat (seqLL L r.2))
          rw [List.length_set] at this
          omega
        have : (4 ^ (cntL L + 1) : Nat) ≤ 4 ^ 6 := Nat.pow_le_pow_right (by decide) hc1
        have : (4 : Nat) ^ 6 = 4096 := rfl
        omega
      · rw [if_neg hneg]
        omega
    omega
end Go.Sh

/- Contracts: what is reached, what grows, by the reference (l3Reached, l3Growing). -/
set_option linter.unusedVariables false
set_option linter.unusedSimpArgs false
set_option maxRecDepth 100000
namespace Go.Sh
open Go
noncomputable def rchV (gm : Gram) : List Int := setL gm.nons.toNat (Rch gm.rules)
theorem rch_in {rs : List RuleL} {out : List Int} (h0 : (0 : Int) ∈ out) (hc : ∀ r ∈ rs, r.1 ∈ out → ∀ x ∈ r.2, ¬ x < 0 → x ∈ out) {A : Nat} (h : Rch rs A) : (A : Int) ∈ out := by
  induction h with
  | zero => exact h0
  | @step A r x h1 h2 _ h4 h5 ih =>
    rw [show ((x.toNat : Nat) : Int) = x from by omega]
    exact hc r h1 (by rw [h2]; exact ih) x h4 h5
/-- Derives some word that is not empty. -/
inductive Gro (rs : List RuleL) : Nat → Prop
  | tok {A : Nat} {r : RuleL} {x : Int} : r ∈ rs → r.1 = (A : Int) → (∀ x ∈ r.2, ¬ x < 0 → Clo rs true x.toNat) → x ∈ r.2 → x < 0 → Gro rs A
  | non {A : Nat} {r : RuleL} {x : Int} : r ∈ rs → r.1 = (A : Int) → (∀ x ∈ r.2, ¬ x < 0 → Clo rs true x.toNat) → x ∈ r.2 → ¬ x < 0 → Gro rs x.toNat → Gro rs A
noncomputable def groV (gm : Gram) : List Int := setL gm.nons.toNat (Gro gm.rules)
def tstM (made : List Int) (x : Int) : Bool := decide (x < 0) || decide (x ∈ made)
theorem tstM_iff {gm : Gram} {xs : List Int} (hb : ∀ x ∈ xs, x < gm.nons) : xs.all (tstM (cloV gm true)) = true ↔ ∀ x ∈ xs, ¬ x < 0 → Clo gm.rules true x.toNat := by
  rw [List.all_eq_true]
  constructor
  · intro h x hx h0
    have := h x hx
    simp only [tstM, h0, decide_false, Bool.false_or, decide_eq_true_eq] at this
    obtain ⟨A, e, _, h2⟩ := setL_mem.1 this
    rw [e, Int.toNat_natCast]
    exact h2
  · intro h x hx
    by_cases h0 : x < 0
    · simp [tstM, h0]
    · have := hb x hx
      simp only [tstM, h0, decide_false, Bool.false_or, decide_eq_true_eq]
      exact setL_mem.2 ⟨x.toNat, by omega, by omega, h x hx h0⟩
theorem gro_in {gm : Gram} {out : List Int} (hb : ∀ r ∈ gm.rules, ∀ x ∈ r.2, x < gm.nons) (hc : ∀ r ∈ gm.rules, r.1 ∉ out → (r.2.all (tstM (cloV gm true)) && r.2.any (tstM out)) = false) {A : Nat} (h : Gro gm.rules A) : (A : Int) ∈ out := by
  have key : ∀ {A : Nat} {r : RuleL} {x : Int}, r ∈ gm.rules → r.1 = (A : Int) → (∀ x ∈ r.2, ¬ x < 0 → Clo gm.rules true x.toNat) → x ∈ r.2 → tstM out x = true → (A : Int) ∈ out := fun {A r x} h1 h2 h3 h4 h5 => by
    by_cases hm : (A : Int) ∈ out
    · exact hm
    · have := hc r h1 (by rw [h2]; exact hm)
      rw [(tstM_iff (hb r h1)).2 h3, Bool.true_and, List.any_eq_false] at this
      exact absurd h5 (this x h4)
  induction h with
  | tok h1 h2 h3 h4 h5 => exact key h1 h2 h3 h4 (by simp [tstM, h5])
  | @non A r x h1 h2 h3 h4 h5 _ ih =>
    rw [show ((x.toNat : Nat) : Int) = x from by omega] at ih
    exact key h1 h2 h3 h4 (by simp [tstM, ih])
theorem any_take_succ' {p : Int → Bool} {xs : List Int} {j : Nat} (h : j < xs.length) : (xs.take (j + 1)).any p = ((xs.take j).any p || p (xs.getD j 0)) := by
  rw [take_snoc h, List.any_append]
  simp
end Go.Sh
namespace Go.Proofs.Ytegcjkhebecgbaa
open Go Go.Sh Go.RowKit
section
variable {w : World} {Y : Option Addr} {cy : Nat} {gm : Gram} {k : Value → World → Prop}
set_option maxHeartbeats 3200000 in
theorem l3Reached_c (hG : kG Y cy gm.rules w) (hn : 1 ≤ gm.nons ∧ gm.nons ≤ 6) (hb : ∀ r ∈ gm.rules, ∀ x ∈ r.2, x < gm.nons) (hl : ∀ r ∈ gm.rules, 0 ≤ r.1) (hr : ∀ r ∈ gm.rules, r.2.length ≤ 1000) (hk : ∀ w' X c, Gr w w' → kI X (rchV gm) c w' → k (.slice X (rchV gm).length c) w') :
    CallK Try.prog 193 [grv gm Y cy] k w := by
  refine enter193 ?_
  unfold S193
  have H := (Kn.nil w).addG hG.1 hG.2
  refine do_box fun b1 w0 g1 hb0 B1 => ?_
  have H := (H.step g1).addB B1
  simp only [List.cons_append, List.nil_append] at H
  have hrl := (H.get 1 rfl).2.le
  refine do_build_of u27 inf3 (cells := ints [0]) (by decide) (by decide) (by simp [Instr.fill, madeCells, Value.cells, rng1, ints]) rfl fun b2 w1 _ _ gz _ r9 => ?_
  have H := H.step gz
  have hI : kI (some ⟨b2, 0, none⟩) [(0 : Int)] 1 w1 := ⟨Own.ints (e := 3) (r9 _ (Nat.le_refl _)), by simp⟩
  refine loop_ghost (σ := List Int × Bool) (fun s f w' => (∃ X c, f 3 = .slice X s.1.length c ∧ kI X s.1 c w') ∧ f 4 = .bool s.2 ∧ Gr w1 w' ∧ SetOk (Rch gm.rules) gm.nons.toNat s.1 ∧ (0 : Int) ∈ s.1 ∧ (s.2 = false → ∀ r ∈ gm.rules, r.1 ∈ s.1 → ∀ x ∈ r.2, ¬ x < 0 → x ∈ s.1))
    (fun s => if s.2 = true then 8 - s.1.length else 0) ([0], true) ⟨⟨_, _, rfl, hI⟩, rfl, Gr.refl _, ⟨by simp, fun x hx => by
      rw [List.mem_singleton] at hx
      subst hx
      exact ⟨0, rfl, by omega, .zero⟩⟩, by simp, fun h => by cases h⟩ ?_
  rintro ⟨out, more⟩ f w2 N hag ⟨⟨X, c, h3, hX⟩, h4, g, hok, hz, hcl⟩ hN
  dsimp only at h3 hX h4 hok hz hcl hN
  have f1 : f 1 = ptrv b1 := hag 1 (by decide)
  simp only [h3, h4, f1, zq18, zq19, zq20, zq21, zq22, zq23, zq24, zq25, zq26, zq27, zq28, zq4, zq3, zq1, zq2, zq0, zq29, zq30, zq14, zq15, zq16, zq17, zq13, zq10, zq12, zq11, zq7, zq5, zq6, zq9, zq8, zq31, zq32, ite_T, ite_F, zq33, zq34, zq35, Nat.reduceEqDiff, len22, len24, fa26_0, fa26_1, fa26_2, len27, fa33_0, fa33_1, len35, fa114_0, fa114_1, fa114_2, fa124_0, fa124_1, len134]
  have H := H.step g
  have hlen := hok.len
  cases more
  · simp only [zq18, zq19, zq20, zq21, zq22, zq23, zq24, zq25, zq26, zq27, zq28, zq4, zq3, zq1, zq2, zq0, zq29, zq30, zq14, zq15, zq16, zq17, zq13, zq10, zq12, zq11, zq7, zq5, zq6, zq9, zq8, zq31, zq32, ite_T, ite_F, zq33, zq34, zq35, Nat.reduceEqDiff, len22, len24, fa26_0, fa26_1, fa26_2, len27, fa33_0, fa33_1, len35, fa114_0, fa114_1, fa114_2, fa124_0, fa124_1, len134]
    have e : out = rchV gm := hok.eq fun A _ hA => rch_in hz (hcl rfl) hA
    subst e
    exact hk _ X c (H.get 0 rfl) hX
  simp only [zq18, zq19, zq20, zq21, zq22, zq23, zq24, zq25, zq26, zq27, zq28, zq4, zq3, zq1, zq2, zq0, zq29, zq30, zq14, zq15, zq16, zq17, zq13, zq10, zq12, zq11, zq7, zq5, zq6, zq9, zq8, zq31, zq32, ite_T, ite_F, zq33, zq34, zq35, Nat.reduceEqDiff, len22, len24, fa26_0, fa26_1, fa26_2, len27, fa33_0, fa33_1, len35, fa114_0, fa114_1, fa114_2, fa124_0, fa124_1, len134]
  rw [ldB24 (H.get 2 rfl) rfl]
  simp only [zq18, zq19, zq20, zq21, zq22, zq23, zq24, zq25, zq26, zq27, zq28, zq4, zq3, zq1, zq2, zq0, zq29, zq30, zq14, zq15, zq16, zq17, zq13, zq10, zq12, zq11, zq7, zq5, zq6, zq9, zq8, zq31, zq32, ite_T, ite_F, zq33, zq34, zq35, Nat.reduceEqDiff, len22, len24, fa26_0, fa26_1, fa26_2, len27, fa33_0, fa33_1, len35, fa114_0, fa114_1, fa114_2, fa124_0, fa124_1, len134]
  refine loop_to gm.rules.length 0 (fun i f w' => i ≤ gm.rules.length ∧ f 14 = .int .i64 (i : Int) ∧ ∃ (X : Option Addr) (c : Nat) (out2 : List Int) (more2 : Bool), f 3 = .slice X out2.length c ∧ kI X out2 c w' ∧ f 4 = .bool more2 ∧ Gr w2 w' ∧ SetOk (Rch gm.rules) gm.nons.toNat out2 ∧ (0 : Int) ∈ out2 ∧
      (more2 = false → out2 = out ∧ ∀ q, q < i → (rul gm.rules q).1 ∈ out → ∀ x ∈ (rul gm.rules q).2, ¬ x < 0 → x ∈ out) ∧ (more2 = true → out.length < out2.length))
    ⟨Nat.zero_le _, rfl, X, c, out, false, h3, hX, rfl, Gr.refl _, hok, hz, fun _ => ⟨rfl, fun q hq => by omega⟩, fun h => by cases h⟩ ?_
  rintro i q w3 N2 hag2 ⟨hi, q14, X, c, out2, more2, q3, hX, q4, g2, hok2, hz2, hno, hyes⟩ hN2
  have q12 : q 12 = .slice Y gm.rules.length cy := hag2 12 (by decide)
  have q13 : q 13 = .int .i64 gm.rules.length := hag2 13 (by decide)
  simp only [q12, q13, q14, q3, q4, zq18, zq19, zq20, zq21, zq22, zq23, zq24, zq25, zq26, zq27, zq28, zq4, zq3, zq1, zq2, zq0, zq29, zq30, zq14, zq15, zq16, zq17, zq13, zq10, zq12, zq11, zq7, zq5, zq6, zq9, zq8, zq31, zq32, ite_T, ite_F, zq33, zq34, zq35, Nat.reduceEqDiff, len22, len24, fa26_0, fa26_1, fa26_2, len27, fa33_0, fa33_1, len35, fa114_0, fa114_1, fa114_2, fa124_0, fa124_1, len134]
  by_cases hlt : i < gm.rules.length
  case neg =>
    simp only [show ¬ ((i : Int) < (gm.rules.length : Int)) from by omega, decide_false, zq18, zq19, zq20, zq21, zq22, zq23, zq24, zq25, zq26, zq27, zq28, zq4, zq3, zq1, zq2, zq0, zq29, zq30, zq14, zq15, zq16, zq17, zq13, zq10, zq12, zq11, zq7, zq5, zq6, zq9, zq8, zq31, zq32, ite_T, ite_F, zq33, zq34, zq35, Nat.reduceEqDiff, len22, len24, fa26_0, fa26_1, fa26_2, len27, fa33_0, fa33_1, len35, fa114_0, fa114_1, fa114_2, fa124_0, fa124_1, len134]
    refine hN (out2, more2) _ _ ⟨⟨X, c, q3, hX⟩, q4, gr_trans g g2, hok2, hz2, fun hm r hr' hin => ?_⟩ ?_
    · dsimp only at hm hin ⊢
      obtain ⟨e, hall⟩ := hno hm
      subst e
      obtain ⟨z, hz, rfl⟩ := List.getElem_of_mem hr'
      have := hall z (by omega)
      rw [rul_eq hz] at this
      exact this hin
    · cases more2
      · simp
        omega
      · have := hyes rfl
        have := hok2.len
        simp
        omega
  simp only [show ((i : Int) < (gm.rules.length : Int)) from by omega, decide_true, zq18, zq19, zq20, zq21, zq22, zq23, zq24, zq25, zq26, zq27, zq28, zq4, zq3, zq1, zq2, zq0, zq29, zq30, zq14, zq15, zq16, zq17, zq13, zq10, zq12, zq11, zq7, zq5, zq6, zq9, zq8, zq31, zq32, ite_T, ite_F, zq33, zq34, zq35, Nat.reduceEqDiff, len22, len24, fa26_0, fa26_1, fa26_2, len27, fa33_0, fa33_1, len35, fa114_0, fa114_1, fa114_2, fa124_0, fa124_1, len134]
  have hrm : rul gm.rules i ∈ gm.rules := by rw [rul_eq hlt]; exact List.getElem_mem hlt
  have H := H.step g2
  have H := H.add (P := fun w' => Gr w2 w') fun w' g' => gr_trans g2 g'
  simp only [List.cons_append, List.nil_append] at H
  have hRF := (H.get 1 rfl).2
  refine rdi (ixn24 hRF.ptr hlt) ?_
  refine ld_rule agg33 sz33 hRF hlt fun v hv => ?_
  obtain ⟨Z, cz, rfl, hcz, hZ⟩ := hv
  have H := H.addI hZ.is hcz
  have H := H.addI hX.1 hX.2
  refine newR H fun b9 w4 H => ?_
  simp only [List.cons_append, List.nil_append] at H
  simp only [zq18, zq19, zq20, zq21, zq22, zq23, zq24, zq25, zq26, zq27, zq28, zq4, zq3, zq1, zq2, zq0, zq29, zq30, zq14, zq15, zq16, zq17, zq13, zq10, zq12, zq11, zq7, zq5, zq6, zq9, zq8, zq31, zq32, ite_T, ite_F, zq33, zq34, zq35, Nat.reduceEqDiff, len22, len24, fa26_0, fa26_1, fa26_2, len27, fa33_0, fa33_1, len35, fa114_0, fa114_1, fa114_2, fa124_0, fa124_1, len134]
  rw [ldB27 (H.get 6 rfl) rfl]
  simp only [zq18, zq19, zq20, zq21, zq22, zq23, zq24, zq25, zq26, zq27, zq28, zq4, zq3, zq1, zq2, zq0, zq29, zq30, zq14, zq15, zq16, zq17, zq13, zq10, zq12, zq11, zq7, zq5, zq6, zq9, zq8, zq31, zq32, ite_T, ite_F, zq33, zq34, zq35, Nat.reduceEqDiff, len22, len24, fa26_0, fa26_1, fa26_2, len27, fa33_0, fa33_1, len35, fa114_0, fa114_1, fa114_2, fa124_0, fa124_1, len134]
  have hr2 := hr _ hrm
  refine loop_to (rul gm.rules i).2.length 0 (fun j f w' => j ≤ (rul gm.rules i).2.length ∧ f 21 = .int .i64 (j : Int) ∧ ∃ (X : Option Addr) (c : Nat) (out2 : List Int) (more2 : Bool), f 3 = .slice X out2.length c ∧ kI X out2 c w' ∧ f 4 = .bool more2 ∧ Gr w4 w' ∧ SetOk (Rch gm.rules) gm.nons.toNat out2 ∧ (0 : Int) ∈ out2 ∧
      (more2 = false → out2 = out ∧ (∀ q, q < i → (rul gm.rules q).1 ∈ out → ∀ x ∈ (rul gm.rules q).2, ¬ x < 0 → x ∈ out) ∧ ((rul gm.rules i).1 ∈ out → ∀ x ∈ (rul gm.rules i).2.take j, ¬ x < 0 → x ∈ out)) ∧ (more2 = true → out.length < out2.length))
    ⟨Nat.zero_le _, rfl, X, c, out2, more2, q3, H.get 5 rfl, q4, Gr.refl _, hok2, hz2, fun h => ⟨(hno h).1, (hno h).2, fun _ x hx => by simp at hx⟩, hyes⟩ ?_
  clear hX
  rintro j r w6 N3 hag3 ⟨hj, r21, X, c, out3, more3, r3, hX, r4, g6, hok3, hz3, hno3, hyes3⟩ hN3
  have r6 : r 6 = ptrv b9 := hag3 6 (by decide)
  have r14 : r 14 = .int .i64 (i : Int) := (hag3 14 (by decide)).trans q14
  have r19 : r 19 = .slice Z (rul gm.rules i).2.length cz := hag3 19 (by decide)
  have r20 : r 20 = .int .i64 ((rul gm.rules i).2.length : Int) := hag3 20 (by decide)
  simp only [r3, r6, r19, r20, r21, zq18, zq19, zq20, zq21, zq22, zq23, zq24, zq25, zq26, zq27, zq28, zq4, zq3, zq1, zq2, zq0, zq29, zq30, zq14, zq15, zq16, zq17, zq13, zq10, zq12, zq11, zq7, zq5, zq6, zq9, zq8, zq31, zq32, ite_T, ite_F, zq33, zq34, zq35, Nat.reduceEqDiff, len22, len24, fa26_0, fa26_1, fa26_2, len27, fa33_0, fa33_1, len35, fa114_0, fa114_1, fa114_2, fa124_0, fa124_1, len134]
  have H := H.step g6
  by_cases hlt2 : j < (rul gm.rules i).2.length
  case neg =>
    simp only [show ¬ ((j : Int) < ((rul gm.rules i).2.length : Int)) from by omega, decide_false, r14, zq18, zq19, zq20, zq21, zq22, zq23, zq24, zq25, zq26, zq27, zq28, zq4, zq3, zq1, zq2, zq0, zq29, zq30, zq14, zq15, zq16, zq17, zq13, zq10, zq12, zq11, zq7, zq5, zq6, zq9, zq8, zq31, zq32, ite_T, ite_F, zq33, zq34, zq35, Nat.reduceEqDiff, len22, len24, fa26_0, fa26_1, fa26_2, len27, fa33_0, fa33_1, len35, fa114_0, fa114_1, fa114_2, fa124_0, fa124_1, len134]
    rw [i64_of (by omega) (by omega)]
    rw [List.take_of_length_le (by omega)] at hno3
    refine hN2 _ _ hlt ⟨by omega, rfl, X, c, out3, more3, r3, hX, r4, H.get 3 rfl, hok3, hz3, fun hm => ⟨(hno3 hm).1, fun z hz' hin => ?_⟩, hyes3⟩
    rcases Nat.lt_succ_iff_lt_or_eq.1 hz' with hz' | rfl
    · exact (hno3 hm).2.1 z hz' hin
    · exact (hno3 hm).2.2 hin
  simp only [show ((j : Int) < ((rul gm.rules i).2.length : Int)) from by omega, decide_true, zq18, zq19, zq20, zq21, zq22, zq23, zq24, zq25, zq26, zq27, zq28, zq4, zq3, zq1, zq2, zq0, zq29, zq30, zq14, zq15, zq16, zq17, zq13, zq10, zq12, zq11, zq7, zq5, zq6, zq9, zq8, zq31, zq32, ite_T, ite_F, zq33, zq34, zq35, Nat.reduceEqDiff, len22, len24, fa26_0, fa26_1, fa26_2, len27, fa33_0, fa33_1, len35, fa114_0, fa114_1, fa114_2, fa124_0, fa124_1, len134]
  have H := H.addI hX.1 hX.2
  have H := H.add (P := fun w' => Gr w4 w') fun w' g' => gr_trans g6 g'
  simp only [List.cons_append, List.nil_append] at H
  refine join_as (fun f w' => f 21 = .int .i64 (j : Int) ∧ ∃ (X : Option Addr) (c : Nat) (out2 : List Int) (more2 : Bool), f 3 = .slice X out2.length c ∧ kI X out2 c w' ∧ f 4 = .bool more2 ∧ Gr w4 w' ∧ SetOk (Rch gm.rules) gm.nons.toNat out2 ∧ (0 : Int) ∈ out2 ∧
      (more2 = false → out2 = out ∧ (∀ q, q < i → (rul gm.rules q).1 ∈ out → ∀ x ∈ (rul gm.rules q).2, ¬ x < 0 → x ∈ out) ∧ ((rul gm.rules i).1 ∈ out → ∀ x ∈ (rul gm.rules i).2.take (j + 1), ¬ x < 0 → x ∈ out)) ∧ (more2 = true → out.length < out2.length)) (fun K hK => ?_) ?_
  case refine_2 =>
    rintro f w' ⟨f21, h⟩
    simp only [f21, zq18, zq19, zq20, zq21, zq22, zq23, zq24, zq25, zq26, zq27, zq28, zq4, zq3, zq1, zq2, zq0, zq29, zq30, zq14, zq15, zq16, zq17, zq13, zq10, zq12, zq11, zq7, zq5, zq6, zq9, zq8, zq31, zq32, ite_T, ite_F, zq33, zq34, zq35, Nat.reduceEqDiff, len22, len24, fa26_0, fa26_1, fa26_2, len27, fa33_0, fa33_1, len35, fa114_0, fa114_1, fa114_2, fa124_0, fa124_1, len134]
    rw [i64_of (by omega) (by omega)]
    exact hN3 _ _ hlt2 ⟨by omega, rfl, h⟩
  have hZ' := (H.get 4 rfl).1
  refine rdi (ixn27 hZ'.ptr hlt2) (rdi (ld3 (hZ'.cell j hlt2)) ?_)
  have htk := take_snoc hlt2
  have hmem : (rul gm.rules i).2.getD j 0 ∈ (rul gm.rules i).2 := getD_mem hlt2
  generalize hx : (rul gm.rules i).2.getD j 0 = x at *
  -- nothing comes
  have skip : ∀ (w' : World) (f' : F), Gr w6 w' → f' 21 = .int .i64 (j : Int) → f' 3 = .slice X out3.length c → f' 4 = .bool more3 → ((rul gm.rules i).1 ∈ out3 → ¬ x < 0 → x ∈ out3) → K f' w' := fun w' f' g' e1 e2 e3 hsk => by
    have H := H.step g'
    refine hK f' w' ⟨e1, X, c, out3, more3, e2, H.get 7 rfl, e3, H.get 8 rfl, hok3, hz3, fun hm => ?_, hyes3⟩
    obtain ⟨a1, a2, a3⟩ := hno3 hm
    refine ⟨a1, a2, fun hin y hy h0 => ?_⟩
    rw [htk, List.mem_append, List.mem_singleton] at hy
    rcases hy with hy | rfl
    · exact a3 hin y hy h0
    · rw [← a1] at hin ⊢
      exact hsk hin h0
  by_cases hx0 : x < 0
  · simp only [show ¬ ((0 : Int) ≤ x) from by omega, decide_false, zq18, zq19, zq20, zq21, zq22, zq23, zq24, zq25, zq26, zq27, zq28, zq4, zq3, zq1, zq2, zq0, zq29, zq30, zq14, zq15, zq16, zq17, zq13, zq10, zq12, zq11, zq7, zq5, zq6, zq9, zq8, zq31, zq32, ite_T, ite_F, zq33, zq34, zq35, Nat.reduceEqDiff, len22, len24, fa26_0, fa26_1, fa26_2, len27, fa33_0, fa33_1, len35, fa114_0, fa114_1, fa114_2, fa124_0, fa124_1, len134]
    exact skip _ _ (Gr.refl _) r21 r3 r4 (fun _ h => absurd hx0 h)
  simp only [show ((0 : Int) ≤ x) from by omega, decide_true, zq18, zq19, zq20, zq21, zq22, zq23, zq24, zq25, zq26, zq27, zq28, zq4, zq3, zq1, zq2, zq0, zq29, zq30, zq14, zq15, zq16, zq17, zq13, zq10, zq12, zq11, zq7, zq5, zq6, zq9, zq8, zq31, zq32, ite_T, ite_F, zq33, zq34, zq35, Nat.reduceEqDiff, len22, len24, fa26_0, fa26_1, fa26_2, len27, fa33_0, fa33_1, len35, fa114_0, fa114_1, fa114_2, fa124_0, fa124_1, len134]
  rw [ldB3 (H.get 6 rfl) rfl]
  refine l1Has_c (H.get 7 rfl).1 fun w7 g7 => ?_
  have H := H.step g7
  by_cases hin : (rul gm.rules i).1 ∈ out3
  case neg =>
    simp only [hin, decide_false, zq18, zq19, zq20, zq21, zq22, zq23, zq24, zq25, zq26, zq27, zq28, zq4, zq3, zq1, zq2, zq0, zq29, zq30, zq14, zq15, zq16, zq17, zq13, zq10, zq12, zq11, zq7, zq5, zq6, zq9, zq8, zq31, zq32, ite_T, ite_F, zq33, zq34, zq35, Nat.reduceEqDiff, len22, len24, fa26_0, fa26_1, fa26_2, len27, fa33_0, fa33_1, len35, fa114_0, fa114_1, fa114_2, fa124_0, fa124_1, len134]
    exact skip _ _ g7 r21 r3 r4 (fun h => absurd h hin)
  simp only [hin, decide_true, zq18, zq19, zq20, zq21, zq22, zq23, zq24, zq25, zq26, zq27, zq28, zq4, zq3, zq1, zq2, zq0, zq29, zq30, zq14, zq15, zq16, zq17, zq13, zq10, zq12, zq11, zq7, zq5, zq6, zq9, zq8, zq31, zq32, ite_T, ite_F, zq33, zq34, zq35, Nat.reduceEqDiff, len22, len24, fa26_0, fa26_1, fa26_2, len27, fa33_0, fa33_1, len35, fa114_0, fa114_1, fa114_2, fa124_0, fa124_1, len134]
  refine l1Has_c (H.get 7 rfl).1 fun w8 g8 => ?_
  have H := H.step g8
  by_cases hxin : x ∈ out3
  · simp only [hxin, decide_true, Bool.not_true, zq18, zq19, zq20, zq21, zq22, zq23, zq24, zq25, zq26, zq27, zq28, zq4, zq3, zq1, zq2, zq0, zq29, zq30, zq14, zq15, zq16, zq17, zq13, zq10, zq12, zq11, zq7, zq5, zq6, zq9, zq8, zq31, zq32, ite_T, ite_F, zq33, zq34, zq35, Nat.reduceEqDiff, len22, len24, fa26_0, fa26_1, fa26_2, len27, fa33_0, fa33_1, len35, fa114_0, fa114_1, fa114_2, fa124_0, fa124_1, len134]
    exact skip _ _ (gr_trans g7 g8) r21 r3 r4 (fun _ _ => hxin)
  simp only [hxin, decide_false, Bool.not_false, zq18, zq19, zq20, zq21, zq22, zq23, zq24, zq25, zq26, zq27, zq28, zq4, zq3, zq1, zq2, zq0, zq29, zq30, zq14, zq15, zq16, zq17, zq13, zq10, zq12, zq11, zq7, zq5, zq6, zq9, zq8, zq31, zq32, ite_T, ite_F, zq33, zq34, zq35, Nat.reduceEqDiff, len22, len24, fa26_0, fa26_1, fa26_2, len27, fa33_0, fa33_1, len35, fa114_0, fa114_1, fa114_2, fa124_0, fa124_1, len134]
  have hlen3 := hok3.len
  refine l1Put_c (H.get 7 rfl) (by omega) fun w9 X' c' g9 hX' => ?_
  have H := H.step g9
  obtain ⟨A, eA, hA, hR⟩ := hok3.ok _ hin
  have hput := hok3.put (A := x.toNat) (by have := hb _ hrm x hmem; omega) (.step hrm eA hR hmem hx0)
  rw [show ((x.toNat : Nat) : Int) = x from by omega] at hput
  have hpl := putL_more hok3.rise hxin
  refine hK _ _ ⟨r21, X', c', _, true, rfl, hX', rfl, H.get 8 rfl, hput, putL_mem.2 (.inr hz3), (fun h => by cases h), fun _ => ?_⟩
  cases more3
  · rw [(hno3 rfl).1] at hpl
    rw [(hno3 rfl).1]
    omega
  · have := hyes3 rfl
    omega
end
end Go.Proofs.Ytegcjkhebecgbaa

/- Contracts: what grows, by the reference (l3Growing); NullableOf, ProductiveOf, ReachedOf, GrowingOf of the reference. -/
set_option linter.unusedVariables false
set_option linter.unusedSimpArgs false
set_option maxRecDepth 100000
namespace Go.Sh
open Go
theorem goodRules {gm : Gram} (hg : goodG gm = true) : ∀ r ∈ gm.rules, (0 ≤ r.1 ∧ r.1 < gm.nons) ∧ r.2.length ≤ 4 ∧ ∀ x ∈ r.2, -gm.toks ≤ x ∧ x < gm.nons := fun r hr => by
  obtain ⟨i, hi, rfl⟩ := List.getElem_of_mem hr
  have h1 := good_left hg hi
  have h2 := good_rights hg hi
  rw [rul_eq hi] at h1 h2
  exact ⟨by omega, h2.1, fun x hx => by have := h2.2 x hx; omega⟩
theorem gro_lt {gm : Gram} (hg : goodG gm = true) {A : Nat} (h : Gro gm.rules A) : A < gm.nons.toNat := by
  cases h with
  | tok h1 h2 _ _ _ => have := (goodRules hg _ h1).1; omega
  | non h1 h2 _ _ _ _ => have := (goodRules hg _ h1).1; omega
noncomputable def listV (gm : Gram) (l : List Int) : List Int × Bool := if goodG gm = true then (l, true) else ([], false)
end Go.Sh
namespace Go.Proofs.Ytegcjkhebecgbaa
open Go Go.Sh Go.RowKit
section
variable {w : World} {Y : Option Addr} {cy : Nat} {gm : Gram} {k : Value → World → Prop}
set_option maxHeartbeats 3200000 in
theorem l3Growing_c (hG : kG Y cy gm.rules w) (hg : goodG gm = true) (hk : ∀ w' X c, Gr w w' → kI X (groV gm) c w' → k (.slice X (groV gm).length c) w') :
    CallK Try.prog 195 [grv gm Y cy] k w := by
  have hgr := goodRules hg
  have hn := good_nons hg
  refine enter195 ?_
  unfold S195
  have H := (Kn.nil w).addG hG.1 hG.2
  refine do_box fun b1 w0 g1 hb0 B1 => ?_
  have H := (H.step g1).addB B1
  simp only [List.cons_append, List.nil_append] at H
  have hrl := (H.get 1 rfl).2.le
  rw [ldB_agg agg26 sz26 rfl (H.get 2 rfl)]
  refine l3Close_c (tok := true) (H.get 1 rfl) (by omega) (fun r hr => (hgr r hr).1) (fun r hr => by have := (hgr r hr).2.1; omega) fun w1 XM cM gM hM => ?_
  have H := (H.step gM).addI hM.1 hM.2
  simp only [List.cons_append, List.nil_append] at H
  refine loop_ghost (σ := List Int × Bool) (fun s f w' => (∃ X c, f 4 = .slice X s.1.length c ∧ kI X s.1 c w') ∧ f 5 = .bool s.2 ∧ Gr w1 w' ∧ SetOk (Gro gm.rules) gm.nons.toNat s.1 ∧ (s.2 = false → ∀ r ∈ gm.rules, r.1 ∉ s.1 → (r.2.all (tstM (cloV gm true)) && r.2.any (tstM s.1)) = false))
    (fun s => if s.2 = true then 8 - s.1.length else 0) ([], true) ⟨⟨none, 0, rfl, ⟨⟨by simp, fun h => by simp at h, fun j hj => by simp at hj⟩, Nat.le_refl _⟩⟩, rfl, Gr.refl _, SetOk.nil _ _, fun h => by cases h⟩ ?_
  rintro ⟨out, more⟩ f w2 N hag ⟨⟨X, c, h4, hX⟩, h5, g, hok, hcl⟩ hN
  dsimp only at h4 hX h5 hok hcl hN
  have f1 : f 1 = ptrv b1 := hag 1 (by decide)
  have f3 : f 3 = .slice XM (cloV gm true).length cM := hag 3 (by decide)
  simp only [h4, h5, f1, zq18, zq19, zq20, zq21, zq22, zq23, zq24, zq25, zq26, zq27, zq28, zq4, zq3, zq1, zq2, zq0, zq29, zq30, zq14, zq15, zq16, zq17, zq13, zq10, zq12, zq11, zq7, zq5, zq6, zq9, zq8, zq31, zq32, ite_T, ite_F, zq33, zq34, zq35, Nat.reduceEqDiff, len22, len24, fa26_0, fa26_1, fa26_2, len27, fa33_0, fa33_1, len35, fa114_0, fa114_1, fa114_2, fa124_0, fa124_1, len134]
  have H := H.step g
  have hlen := hok.len
  cases more
  · simp only [zq18, zq19, zq20, zq21, zq22, zq23, zq24, zq25, zq26, zq27, zq28, zq4, zq3, zq1, zq2, zq0, zq29, zq30, zq14, zq15, zq16, zq17, zq13, zq10, zq12, zq11, zq7, zq5, zq6, zq9, zq8, zq31, zq32, ite_T, ite_F, zq33, zq34, zq35, Nat.reduceEqDiff, len22, len24, fa26_0, fa26_1, fa26_2, len27, fa33_0, fa33_1, len35, fa114_0, fa114_1, fa114_2, fa124_0, fa124_1, len134]
    have e : out = groV gm := hok.eq fun A _ hA => gro_in (fun r hr x hx => ((hgr r hr).2.2 x hx).2) (hcl rfl) hA
    subst e
    exact hk _ X c (H.get 0 rfl) hX
  simp only [zq18, zq19, zq20, zq21, zq22, zq23, zq24, zq25, zq26, zq27, zq28, zq4, zq3, zq1, zq2, zq0, zq29, zq30, zq14, zq15, zq16, zq17, zq13, zq10, zq12, zq11, zq7, zq5, zq6, zq9, zq8, zq31, zq32, ite_T, ite_F, zq33, zq34, zq35, Nat.reduceEqDiff, len22, len24, fa26_0, fa26_1, fa26_2, len27, fa33_0, fa33_1, len35, fa114_0, fa114_1, fa114_2, fa124_0, fa124_1, len134]
  rw [ldB24 (H.get 2 rfl) rfl]
  simp only [zq18, zq19, zq20, zq21, zq22, zq23, zq24, zq25, zq26, zq27, zq28, zq4, zq3, zq1, zq2, zq0, zq29, zq30, zq14, zq15, zq16, zq17, zq13, zq10, zq12, zq11, zq7, zq5, zq6, zq9, zq8, zq31, zq32, ite_T, ite_F, zq33, zq34, zq35, Nat.reduceEqDiff, len22, len24, fa26_0, fa26_1, fa26_2, len27, fa33_0, fa33_1, len35, fa114_0, fa114_1, fa114_2, fa124_0, fa124_1, len134]
  refine loop_to gm.rules.length 0 (fun i f w' => i ≤ gm.rules.length ∧ f 18 = .int .i64 (i : Int) ∧ ∃ (X : Option Addr) (c : Nat) (out2 : List Int) (more2 : Bool), f 4 = .slice X out2.length c ∧ kI X out2 c w' ∧ f 5 = .bool more2 ∧ Gr w2 w' ∧ SetOk (Gro gm.rules) gm.nons.toNat out2 ∧
      (more2 = false → out2 = out ∧ ∀ q, q < i → (rul gm.rules q).1 ∉ out → ((rul gm.rules q).2.all (tstM (cloV gm true)) && (rul gm.rules q).2.any (tstM out)) = false) ∧ (more2 = true → out.length < out2.length))
    ⟨Nat.zero_le _, rfl, X, c, out, false, h4, hX, rfl, Gr.refl _, hok, fun _ => ⟨rfl, fun q hq => by omega⟩, fun h => by cases h⟩ ?_
  rintro i q w3 N2 hag2 ⟨hi, q18, X, c, out2, more2, q4, hX, q5, g2, hok2, hno, hyes⟩ hN2
  have q16 : q 16 = .slice Y gm.rules.length cy := hag2 16 (by decide)
  have q17 : q 17 = .int .i64 gm.rules.length := hag2 17 (by decide)
  have q3 : q 3 = .slice XM (cloV gm true).length cM := (hag2 3 (by decide)).trans f3
  simp only [q16, q17, q18, q4, q5, zq18, zq19, zq20, zq21, zq22, zq23, zq24, zq25, zq26, zq27, zq28, zq4, zq3, zq1, zq2, zq0, zq29, zq30, zq14, zq15, zq16, zq17, zq13, zq10, zq12, zq11, zq7, zq5, zq6, zq9, zq8, zq31, zq32, ite_T, ite_F, zq33, zq34, zq35, Nat.reduceEqDiff, len22, len24, fa26_0, fa26_1, fa26_2, len27, fa33_0, fa33_1, len35, fa114_0, fa114_1, fa114_2, fa124_0, fa124_1, len134]
  by_cases hlt : i < gm.rules.length
  case neg =>
    simp only [show ¬ ((i : Int) < (gm.rules.length : Int)) from by omega, decide_false, zq18, zq19, zq20, zq21, zq22, zq23, zq24, zq25, zq26, zq27, zq28, zq4, zq3, zq1, zq2, zq0, zq29, zq30, zq14, zq15, zq16, zq17, zq13, zq10, zq12, zq11, zq7, zq5, zq6, zq9, zq8, zq31, zq32, ite_T, ite_F, zq33, zq34, zq35, Nat.reduceEqDiff, len22, len24, fa26_0, fa26_1, fa26_2, len27, fa33_0, fa33_1, len35, fa114_0, fa114_1, fa114_2, fa124_0, fa124_1, len134]
    refine hN (out2, more2) _ _ ⟨⟨X, c, q4, hX⟩, q5, gr_trans g g2, hok2, fun hm r hr' hnot => ?_⟩ ?_
    · dsimp only at hm hnot ⊢
      obtain ⟨e, hall⟩ := hno hm
      subst e
      obtain ⟨z, hz, rfl⟩ := List.getElem_of_mem hr'
      have := hall z (by omega)
      rw [rul_eq hz] at this
      exact this hnot
    · cases more2
      · simp
        omega
      · have := hyes rfl
        have := hok2.len
        simp
        omega
  simp only [show ((i : Int) < (gm.rules.length : Int)) from by omega, decide_true, zq18, zq19, zq20, zq21, zq22, zq23, zq24, zq25, zq26, zq27, zq28, zq4, zq3, zq1, zq2, zq0, zq29, zq30, zq14, zq15, zq16, zq17, zq13, zq10, zq12, zq11, zq7, zq5, zq6, zq9, zq8, zq31, zq32, ite_T, ite_F, zq33, zq34, zq35, Nat.reduceEqDiff, len22, len24, fa26_0, fa26_1, fa26_2, len27, fa33_0, fa33_1, len35, fa114_0, fa114_1, fa114_2, fa124_0, fa124_1, len134]
  have hrm : rul gm.rules i ∈ gm.rules := by rw [rul_eq hlt]; exact List.getElem_mem hlt
  have H := H.step g2
  have H := H.add (P := fun w' => Gr w2 w') fun w' g' => gr_trans g2 g'
  have H := H.addI hX.1 hX.2
  simp only [List.cons_append, List.nil_append] at H
  refine join_as (fun f w' => f 18 = .int .i64 (i : Int) ∧ ∃ (X : Option Addr) (c : Nat) (out2 : List Int) (more2 : Bool), f 4 = .slice X out2.length c ∧ kI X out2 c w' ∧ f 5 = .bool more2 ∧ Gr w2 w' ∧ SetOk (Gro gm.rules) gm.nons.toNat out2 ∧
      (more2 = false → out2 = out ∧ ∀ q, q < i + 1 → (rul gm.rules q).1 ∉ out → ((rul gm.rules q).2.all (tstM (cloV gm true)) && (rul gm.rules q).2.any (tstM out)) = false) ∧ (more2 = true → out.length < out2.length)) (fun K hK => ?_) ?_
  case refine_2 =>
    rintro f w' ⟨f18, h⟩
    simp only [f18, zq18, zq19, zq20, zq21, zq22, zq23, zq24, zq25, zq26, zq27, zq28, zq4, zq3, zq1, zq2, zq0, zq29, zq30, zq14, zq15, zq16, zq17, zq13, zq10, zq12, zq11, zq7, zq5, zq6, zq9, zq8, zq31, zq32, ite_T, ite_F, zq33, zq34, zq35, Nat.reduceEqDiff, len22, len24, fa26_0, fa26_1, fa26_2, len27, fa33_0, fa33_1, len35, fa114_0, fa114_1, fa114_2, fa124_0, fa124_1, len134]
    rw [i64_of (by omega) (by omega)]
    exact hN2 _ _ hlt ⟨by omega, rfl, h⟩
  have hRF := (H.get 1 rfl).2
  refine rdi (ixn24 hRF.ptr hlt) ?_
  refine ld_rule agg33 sz33 hRF hlt fun v hv => ?_
  obtain ⟨Z, cz, rfl, hcz, hZ⟩ := hv
  have H := H.addI hZ.is hcz
  refine newR H fun b9 w4 H => ?_
  simp only [List.cons_append, List.nil_append] at H
  simp only [zq18, zq19, zq20, zq21, zq22, zq23, zq24, zq25, zq26, zq27, zq28, zq4, zq3, zq1, zq2, zq0, zq29, zq30, zq14, zq15, zq16, zq17, zq13, zq10, zq12, zq11, zq7, zq5, zq6, zq9, zq8, zq31, zq32, ite_T, ite_F, zq33, zq34, zq35, Nat.reduceEqDiff, len22, len24, fa26_0, fa26_1, fa26_2, len27, fa33_0, fa33_1, len35, fa114_0, fa114_1, fa114_2, fa124_0, fa124_1, len134]
  rw [ldB27 (H.get 7 rfl) rfl]
  simp only [zq18, zq19, zq20, zq21, zq22, zq23, zq24, zq25, zq26, zq27, zq28, zq4, zq3, zq1, zq2, zq0, zq29, zq30, zq14, zq15, zq16, zq17, zq13, zq10, zq12, zq11, zq7, zq5, zq6, zq9, zq8, zq31, zq32, ite_T, ite_F, zq33, zq34, zq35, Nat.reduceEqDiff, len22, len24, fa26_0, fa26_1, fa26_2, len27, fa33_0, fa33_1, len35, fa114_0, fa114_1, fa114_2, fa124_0, fa124_1, len134]
  have hr2 := (hgr _ hrm).2.1
  refine loop_to (rul gm.rules i).2.length 0 (fun j f w' => j ≤ (rul gm.rules i).2.length ∧ f 25 = .int .i64 (j : Int) ∧ f 8 = .bool (((rul gm.rules i).2.take j).all (tstM (cloV gm true))) ∧ f 9 = .bool (((rul gm.rules i).2.take j).any (tstM out2)) ∧ Gr w4 w')
    ⟨Nat.zero_le _, rfl, by simp; rfl, by simp; rfl, Gr.refl _⟩ ?_
  rintro j r w6 N3 hag3 ⟨hj, r25, r8, r9, g6⟩ hN3
  have r3 : r 3 = .slice XM (cloV gm true).length cM := (hag3 3 (by decide)).trans q3
  have r4 : r 4 = .slice X out2.length c := (hag3 4 (by decide)).trans q4
  have r5 : r 5 = .bool more2 := (hag3 5 (by decide)).trans q5
  have r7 : r 7 = ptrv b9 := hag3 7 (by decide)
  have r18 : r 18 = .int .i64 (i : Int) := (hag3 18 (by decide)).trans q18
  have r23 : r 23 = .slice Z (rul gm.rules i).2.length cz := hag3 23 (by decide)
  have r24 : r 24 = .int .i64 ((rul gm.rules i).2.length : Int) := hag3 24 (by decide)
  simp only [r3, r4, r7, r8, r9, r23, r24, r25, zq18, zq19, zq20, zq21, zq22, zq23, zq24, zq25, zq26, zq27, zq28, zq4, zq3, zq1, zq2, zq0, zq29, zq30, zq14, zq15, zq16, zq17, zq13, zq10, zq12, zq11, zq7, zq5, zq6, zq9, zq8, zq31, zq32, ite_T, ite_F, zq33, zq34, zq35, Nat.reduceEqDiff, len22, len24, fa26_0, fa26_1, fa26_2, len27, fa33_0, fa33_1, len35, fa114_0, fa114_1, fa114_2, fa124_0, fa124_1, len134]
  have H := H.step g6
  by_cases hlt2 : j < (rul gm.rules i).2.length
  case neg =>
    simp only [show ¬ ((j : Int) < ((rul gm.rules i).2.length : Int)) from by omega, decide_false, r4, r7, r8, r9, zq18, zq19, zq20, zq21, zq22, zq23, zq24, zq25, zq26, zq27, zq28, zq4, zq3, zq1, zq2, zq0, zq29, zq30, zq14, zq15, zq16, zq17, zq13, zq10, zq12, zq11, zq7, zq5, zq6, zq9, zq8, zq31, zq32, ite_T, ite_F, zq33, zq34, zq35, Nat.reduceEqDiff, len22, len24, fa26_0, fa26_1, fa26_2, len27, fa33_0, fa33_1, len35, fa114_0, fa114_1, fa114_2, fa124_0, fa124_1, len134]
    rw [List.take_of_length_le (by omega)]
    have skip : ∀ (w' : World) (f' : F), Gr w6 w' → f' 18 = .int .i64 (i : Int) → f' 4 = .slice X out2.length c → f' 5 = .bool more2 → ((rul gm.rules i).1 ∉ out2 → ((rul gm.rules i).2.all (tstM (cloV gm true)) && (rul gm.rules i).2.any (tstM out2)) = false) → K f' w' := fun w' f' g' e1 e2 e3 hsk => by
      have H := H.step g'
      refine hK f' w' ⟨e1, X, c, out2, more2, e2, H.get 5 rfl, e3, H.get 4 rfl, hok2, fun hm => ⟨(hno hm).1, fun z hz hnot => ?_⟩, hyes⟩
      rcases Nat.lt_succ_iff_lt_or_eq.1 hz with hz | rfl
      · exact (hno hm).2 z hz hnot
      · have e := (hno hm).1
        rw [← e] at hnot ⊢
        exact hsk hnot
    cases ha : (rul gm.rules i).2.all (tstM (cloV gm true))
    · simp only [zq18, zq19, zq20, zq21, zq22, zq23, zq24, zq25, zq26, zq27, zq28, zq4, zq3, zq1, zq2, zq0, zq29, zq30, zq14, zq15, zq16, zq17, zq13, zq10, zq12, zq11, zq7, zq5, zq6, zq9, zq8, zq31, zq32, ite_T, ite_F, zq33, zq34, zq35, Nat.reduceEqDiff, len22, len24, fa26_0, fa26_1, fa26_2, len27, fa33_0, fa33_1, len35, fa114_0, fa114_1, fa114_2, fa124_0, fa124_1, len134]
      exact skip _ _ (Gr.refl _) r18 r4 r5 (fun _ => by rw [ha, Bool.false_and])
    simp only [zq18, zq19, zq20, zq21, zq22, zq23, zq24, zq25, zq26, zq27, zq28, zq4, zq3, zq1, zq2, zq0, zq29, zq30, zq14, zq15, zq16, zq17, zq13, zq10, zq12, zq11, zq7, zq5, zq6, zq9, zq8, zq31, zq32, ite_T, ite_F, zq33, zq34, zq35, Nat.reduceEqDiff, len22, len24, fa26_0, fa26_1, fa26_2, len27, fa33_0, fa33_1, len35, fa114_0, fa114_1, fa114_2, fa124_0, fa124_1, len134]
    cases hs : (rul gm.rules i).2.any (tstM out2)
    · simp only [zq18, zq19, zq20, zq21, zq22, zq23, zq24, zq25, zq26, zq27, zq28, zq4, zq3, zq1, zq2, zq0, zq29, zq30, zq14, zq15, zq16, zq17, zq13, zq10, zq12, zq11, zq7, zq5, zq6, zq9, zq8, zq31, zq32, ite_T, ite_F, zq33, zq34, zq35, Nat.reduceEqDiff, len22, len24, fa26_0, fa26_1, fa26_2, len27, fa33_0, fa33_1, len35, fa114_0, fa114_1, fa114_2, fa124_0, fa124_1, len134]
      exact skip _ _ (Gr.refl _) r18 r4 r5 (fun _ => by rw [hs, Bool.and_false])
    simp only [zq18, zq19, zq20, zq21, zq22, zq23, zq24, zq25, zq26, zq27, zq28, zq4, zq3, zq1, zq2, zq0, zq29, zq30, zq14, zq15, zq16, zq17, zq13, zq10, zq12, zq11, zq7, zq5, zq6, zq9, zq8, zq31, zq32, ite_T, ite_F, zq33, zq34, zq35, Nat.reduceEqDiff, len22, len24, fa26_0, fa26_1, fa26_2, len27, fa33_0, fa33_1, len35, fa114_0, fa114_1, fa114_2, fa124_0, fa124_1, len134]
    rw [ldB3 (H.get 7 rfl) rfl]
    refine l1Has_c (H.get 5 rfl).1 fun w7 g7 => ?_
    have H := H.step g7
    by_cases hin : (rul gm.rules i).1 ∈ out2
    · simp only [hin, decide_true, Bool.not_true, zq18, zq19, zq20, zq21, zq22, zq23, zq24, zq25, zq26, zq27, zq28, zq4, zq3, zq1, zq2, zq0, zq29, zq30, zq14, zq15, zq16, zq17, zq13, zq10, zq12, zq11, zq7, zq5, zq6, zq9, zq8, zq31, zq32, ite_T, ite_F, zq33, zq34, zq35, Nat.reduceEqDiff, len22, len24, fa26_0, fa26_1, fa26_2, len27, fa33_0, fa33_1, len35, fa114_0, fa114_1, fa114_2, fa124_0, fa124_1, len134]
      exact skip _ _ g7 r18 r4 r5 (fun h => absurd hin h)
    simp only [hin, decide_false, Bool.not_false, zq18, zq19, zq20, zq21, zq22, zq23, zq24, zq25, zq26, zq27, zq28, zq4, zq3, zq1, zq2, zq0, zq29, zq30, zq14, zq15, zq16, zq17, zq13, zq10, zq12, zq11, zq7, zq5, zq6, zq9, zq8, zq31, zq32, ite_T, ite_F, zq33, zq34, zq35, Nat.reduceEqDiff, len22, len24, fa26_0, fa26_1, fa26_2, len27, fa33_0, fa33_1, len35, fa114_0, fa114_1, fa114_2, fa124_0, fa124_1, len134]
    rw [ldB3 (H.get 7 rfl) rfl]
    have hlen2 := hok2.len
    refine l1Put_c (H.get 5 rfl) (by omega) fun w8 X' c' g8 hX' => ?_
    have H := H.step g8
    have hb := (hgr _ hrm).1
    have hmade := (tstM_iff (fun x hx => ((hgr _ hrm).2.2 x hx).2)).1 ha
    have hgro : Gro gm.rules (rul gm.rules i).1.toNat := by
      rw [List.any_eq_true] at hs
      obtain ⟨x, hx, hs⟩ := hs
      simp only [tstM, Bool.or_eq_true, decide_eq_true_eq] at hs
      by_cases h0 : x < 0
      · exact .tok hrm (by omega) hmade hx h0
      · have hs := hs.resolve_left h0
        obtain ⟨A, e, _, hA⟩ := hok2.ok x hs
        exact .non hrm (by omega) hmade hx h0 (by rw [e, Int.toNat_natCast]; exact hA)
    have hput := hok2.put (A := (rul gm.rules i).1.toNat) (by omega) hgro
    rw [show (((rul gm.rules i).1.toNat : Nat) : Int) = (rul gm.rules i).1 from by omega] at hput
    have hpl := putL_more hok2.rise hin
    refine hK _ _ ⟨r18, X', c', _, true, rfl, hX', rfl, H.get 4 rfl, hput, (fun h => by cases h), fun _ => ?_⟩
    cases more2
    · rw [(hno rfl).1] at hpl
      rw [(hno rfl).1]
      omega
    · have := hyes rfl
      omega
  simp only [show ((j : Int) < ((rul gm.rules i).2.length : Int)) from by omega, decide_true, zq18, zq19, zq20, zq21, zq22, zq23, zq24, zq25, zq26, zq27, zq28, zq4, zq3, zq1, zq2, zq0, zq29, zq30, zq14, zq15, zq16, zq17, zq13, zq10, zq12, zq11, zq7, zq5, zq6, zq9, zq8, zq31, zq32, ite_T, ite_F, zq33, zq34, zq35, Nat.reduceEqDiff, len22, len24, fa26_0, fa26_1, fa26_2, len27, fa33_0, fa33_1, len35, fa114_0, fa114_1, fa114_2, fa124_0, fa124_1, len134]
  have hZ' := (H.get 6 rfl).1
  refine rdi (ixn27 hZ'.ptr hlt2) (rdi (ld3 (hZ'.cell j hlt2)) ?_)
  have hall := all_take_succ (p := tstM (cloV gm true)) hlt2
  have hany := any_take_succ' (p := tstM out2) hlt2
  have hle27 := hZ'.le
  generalize hx : (rul gm.rules i).2.getD j 0 = x at *
  have step : ∀ (b1 b2 : Bool) (w' : World) (f' : F), Gr w6 w' → f' 25 = .int .i64 ((j : Int) + 1) → f' 8 = .bool b1 → f' 9 = .bool b2 → b1 = ((rul gm.rules i).2.take (j + 1)).all (tstM (cloV gm true)) → b2 = ((rul gm.rules i).2.take (j + 1)).any (tstM out2) → N3 f' w' := fun b1 b2 w' f' g' e1 e2 e3 e4 e5 => by
    refine hN3 f' w' hlt2 ⟨by omega, by rw [e1]; rfl, by rw [e2, e4], by rw [e3, e5], gr_trans g6 g'⟩
  cases hacc : ((rul gm.rules i).2.take j).all (tstM (cloV gm true))
  · simp only [zq18, zq19, zq20, zq21, zq22, zq23, zq24, zq25, zq26, zq27, zq28, zq4, zq3, zq1, zq2, zq0, zq29, zq30, zq14, zq15, zq16, zq17, zq13, zq10, zq12, zq11, zq7, zq5, zq6, zq9, zq8, zq31, zq32, ite_T, ite_F, zq33, zq34, zq35, Nat.reduceEqDiff, len22, len24, fa26_0, fa26_1, fa26_2, len27, fa33_0, fa33_1, len35, fa114_0, fa114_1, fa114_2, fa124_0, fa124_1, len134]
    have ea : false = ((rul gm.rules i).2.take (j + 1)).all (tstM (cloV gm true)) := by rw [hall, hacc, Bool.false_and]
    cases hb : ((rul gm.rules i).2.take j).any (tstM out2)
    · simp only [zq18, zq19, zq20, zq21, zq22, zq23, zq24, zq25, zq26, zq27, zq28, zq4, zq3, zq1, zq2, zq0, zq29, zq30, zq14, zq15, zq16, zq17, zq13, zq10, zq12, zq11, zq7, zq5, zq6, zq9, zq8, zq31, zq32, ite_T, ite_F, zq33, zq34, zq35, Nat.reduceEqDiff, len22, len24, fa26_0, fa26_1, fa26_2, len27, fa33_0, fa33_1, len35, fa114_0, fa114_1, fa114_2, fa124_0, fa124_1, len134]
      by_cases h0 : x < 0
      · simp only [h0, decide_true, zq18, zq19, zq20, zq21, zq22, zq23, zq24, zq25, zq26, zq27, zq28, zq4, zq3, zq1, zq2, zq0, zq29, zq30, zq14, zq15, zq16, zq17, zq13, zq10, zq12, zq11, zq7, zq5, zq6, zq9, zq8, zq31, zq32, ite_T, ite_F, zq33, zq34, zq35, Nat.reduceEqDiff, len22, len24, fa26_0, fa26_1, fa26_2, len27, fa33_0, fa33_1, len35, fa114_0, fa114_1, fa114_2, fa124_0, fa124_1, len134]
        rw [i64_of (by omega) (by omega)]
        exact step false true _ _ (Gr.refl _) rfl rfl rfl ea (by rw [hany, hb, show tstM out2 x = true from by simp [tstM, h0]]; rfl)
      · simp only [h0, decide_false, zq18, zq19, zq20, zq21, zq22, zq23, zq24, zq25, zq26, zq27, zq28, zq4, zq3, zq1, zq2, zq0, zq29, zq30, zq14, zq15, zq16, zq17, zq13, zq10, zq12, zq11, zq7, zq5, zq6, zq9, zq8, zq31, zq32, ite_T, ite_F, zq33, zq34, zq35, Nat.reduceEqDiff, len22, len24, fa26_0, fa26_1, fa26_2, len27, fa33_0, fa33_1, len35, fa114_0, fa114_1, fa114_2, fa124_0, fa124_1, len134]
        refine l1Has_c ((H.get 5 rfl).1.gr (Gr.refl _)) fun w7 g7 => ?_
        rw [i64_of (by omega) (by omega)]
        exact step false _ _ _ (gr_trans (Gr.refl _) g7) rfl rfl rfl ea (by rw [hany, hb, show tstM out2 x = decide (x ∈ out2) from by simp [tstM, h0], Bool.false_or])
    · simp only [zq18, zq19, zq20, zq21, zq22, zq23, zq24, zq25, zq26, zq27, zq28, zq4, zq3, zq1, zq2, zq0, zq29, zq30, zq14, zq15, zq16, zq17, zq13, zq10, zq12, zq11, zq7, zq5, zq6, zq9, zq8, zq31, zq32, ite_T, ite_F, zq33, zq34, zq35, Nat.reduceEqDiff, len22, len24, fa26_0, fa26_1, fa26_2, len27, fa33_0, fa33_1, len35, fa114_0, fa114_1, fa114_2, fa124_0, fa124_1, len134]
      rw [i64_of (by omega) (by omega)]
      exact step false true _ _ (Gr.refl _) rfl rfl rfl ea (by rw [hany, hb, Bool.true_or])
  · simp only [zq18, zq19, zq20, zq21, zq22, zq23, zq24, zq25, zq26, zq27, zq28, zq4, zq3, zq1, zq2, zq0, zq29, zq30, zq14, zq15, zq16, zq17, zq13, zq10, zq12, zq11, zq7, zq5, zq6, zq9, zq8, zq31, zq32, ite_T, ite_F, zq33, zq34, zq35, Nat.reduceEqDiff, len22, len24, fa26_0, fa26_1, fa26_2, len27, fa33_0, fa33_1, len35, fa114_0, fa114_1, fa114_2, fa124_0, fa124_1, len134]
    by_cases hx0 : x < 0
    · simp only [hx0, decide_true, zq18, zq19, zq20, zq21, zq22, zq23, zq24, zq25, zq26, zq27, zq28, zq4, zq3, zq1, zq2, zq0, zq29, zq30, zq14, zq15, zq16, zq17, zq13, zq10, zq12, zq11, zq7, zq5, zq6, zq9, zq8, zq31, zq32, ite_T, ite_F, zq33, zq34, zq35, Nat.reduceEqDiff, len22, len24, fa26_0, fa26_1, fa26_2, len27, fa33_0, fa33_1, len35, fa114_0, fa114_1, fa114_2, fa124_0, fa124_1, len134]
      have ea : true = ((rul gm.rules i).2.take (j + 1)).all (tstM (cloV gm true)) := by rw [hall, hacc, show tstM (cloV gm true) x = true from by simp [tstM, hx0]]; rfl
      cases hb : ((rul gm.rules i).2.take j).any (tstM out2)
      · simp only [zq18, zq19, zq20, zq21, zq22, zq23, zq24, zq25, zq26, zq27, zq28, zq4, zq3, zq1, zq2, zq0, zq29, zq30, zq14, zq15, zq16, zq17, zq13, zq10, zq12, zq11, zq7, zq5, zq6, zq9, zq8, zq31, zq32, ite_T, ite_F, zq33, zq34, zq35, Nat.reduceEqDiff, len22, len24, fa26_0, fa26_1, fa26_2, len27, fa33_0, fa33_1, len35, fa114_0, fa114_1, fa114_2, fa124_0, fa124_1, len134]
        by_cases h0 : x < 0
        · simp only [h0, decide_true, zq18, zq19, zq20, zq21, zq22, zq23, zq24, zq25, zq26, zq27, zq28, zq4, zq3, zq1, zq2, zq0, zq29, zq30, zq14, zq15, zq16, zq17, zq13, zq10, zq12, zq11, zq7, zq5, zq6, zq9, zq8, zq31, zq32, ite_T, ite_F, zq33, zq34, zq35, Nat.reduceEqDiff, len22, len24, fa26_0, fa26_1, fa26_2, len27, fa33_0, fa33_1, len35, fa114_0, fa114_1, fa114_2, fa124_0, fa124_1, len134]
          rw [i64_of (by omega) (by omega)]
          exact step true true _ _ (Gr.refl _) rfl rfl rfl ea (by rw [hany, hb, show tstM out2 x = true from by simp [tstM, h0]]; rfl)
        · simp only [h0, decide_false, zq18, zq19, zq20, zq21, zq22, zq23, zq24, zq25, zq26, zq27, zq28, zq4, zq3, zq1, zq2, zq0, zq29, zq30, zq14, zq15, zq16, zq17, zq13, zq10, zq12, zq11, zq7, zq5, zq6, zq9, zq8, zq31, zq32, ite_T, ite_F, zq33, zq34, zq35, Nat.reduceEqDiff, len22, len24, fa26_0, fa26_1, fa26_2, len27, fa33_0, fa33_1, len35, fa114_0, fa114_1, fa114_2, fa124_0, fa124_1, len134]
          refine l1Has_c ((H.get 5 rfl).1.gr (Gr.refl _)) fun w7 g7 => ?_
          rw [i64_of (by omega) (by omega)]
          exact step true _ _ _ (gr_trans (Gr.refl _) g7) rfl rfl rfl ea (by rw [hany, hb, show tstM out2 x = decide (x ∈ out2) from by simp [tstM, h0], Bool.false_or])
      · simp only [zq18, zq19, zq20, zq21, zq22, zq23, zq24, zq25, zq26, zq27, zq28, zq4, zq3, zq1, zq2, zq0, zq29, zq30, zq14, zq15, zq16, zq17, zq13, zq10, zq12, zq11, zq7, zq5, zq6, zq9, zq8, zq31, zq32, ite_T, ite_F, zq33, zq34, zq35, Nat.reduceEqDiff, len22, len24, fa26_0, fa26_1, fa26_2, len27, fa33_0, fa33_1, len35, fa114_0, fa114_1, fa114_2, fa124_0, fa124_1, len134]
        rw [i64_of (by omega) (by omega)]
        exact step true true _ _ (Gr.refl _) rfl rfl rfl ea (by rw [hany, hb, Bool.true_or])
    · simp only [hx0, decide_false, zq18, zq19, zq20, zq21, zq22, zq23, zq24, zq25, zq26, zq27, zq28, zq4, zq3, zq1, zq2, zq0, zq29, zq30, zq14, zq15, zq16, zq17, zq13, zq10, zq12, zq11, zq7, zq5, zq6, zq9, zq8, zq31, zq32, ite_T, ite_F, zq33, zq34, zq35, Nat.reduceEqDiff, len22, len24, fa26_0, fa26_1, fa26_2, len27, fa33_0, fa33_1, len35, fa114_0, fa114_1, fa114_2, fa124_0, fa124_1, len134]
      refine l1Has_c (H.get 3 rfl).1 fun w8 g8 => ?_
      have ea : decide (x ∈ cloV gm true) = ((rul gm.rules i).2.take (j + 1)).all (tstM (cloV gm true)) := by rw [hall, hacc, show tstM (cloV gm true) x = decide (x ∈ cloV gm true) from by simp [tstM, hx0], Bool.true_and]
      cases hb : ((rul gm.rules i).2.take j).any (tstM out2)
      · simp only [zq18, zq19, zq20, zq21, zq22, zq23, zq24, zq25, zq26, zq27, zq28, zq4, zq3, zq1, zq2, zq0, zq29, zq30, zq14, zq15, zq16, zq17, zq13, zq10, zq12, zq11, zq7, zq5, zq6, zq9, zq8, zq31, zq32, ite_T, ite_F, zq33, zq34, zq35, Nat.reduceEqDiff, len22, len24, fa26_0, fa26_1, fa26_2, len27, fa33_0, fa33_1, len35, fa114_0, fa114_1, fa114_2, fa124_0, fa124_1, len134]
        by_cases h0 : x < 0
        · simp only [h0, decide_true, zq18, zq19, zq20, zq21, zq22, zq23, zq24, zq25, zq26, zq27, zq28, zq4, zq3, zq1, zq2, zq0, zq29, zq30, zq14, zq15, zq16, zq17, zq13, zq10, zq12, zq11, zq7, zq5, zq6, zq9, zq8, zq31, zq32, ite_T, ite_F, zq33, zq34, zq35, Nat.reduceEqDiff, len22, len24, fa26_0, fa26_1, fa26_2, len27, fa33_0, fa33_1, len35, fa114_0, fa114_1, fa114_2, fa124_0, fa124_1, len134]
          rw [i64_of (by omega) (by omega)]
          exact step _ true _ _ g8 rfl rfl rfl ea (by rw [hany, hb, show tstM out2 x = true from by simp [tstM, h0]]; rfl)
        · simp only [h0, decide_false, zq18, zq19, zq20, zq21, zq22, zq23, zq24, zq25, zq26, zq27, zq28, zq4, zq3, zq1, zq2, zq0, zq29, zq30, zq14, zq15, zq16, zq17, zq13, zq10, zq12, zq11, zq7, zq5, zq6, zq9, zq8, zq31, zq32, ite_T, ite_F, zq33, zq34, zq35, Nat.reduceEqDiff, len22, len24, fa26_0, fa26_1, fa26_2, len27, fa33_0, fa33_1, len35, fa114_0, fa114_1, fa114_2, fa124_0, fa124_1, len134]
          refine l1Has_c ((H.get 5 rfl).1.gr g8) fun w7 g7 => ?_
          rw [i64_of (by omega) (by omega)]
          exact step _ _ _ _ (gr_trans g8 g7) rfl rfl rfl ea (by rw [hany, hb, show tstM out2 x = decide (x ∈ out2) from by simp [tstM, h0], Bool.false_or])
      · simp only [zq18, zq19, zq20, zq21, zq22, zq23, zq24, zq25, zq26, zq27, zq28, zq4, zq3, zq1, zq2, zq0, zq29, zq30, zq14, zq15, zq16, zq17, zq13, zq10, zq12, zq11, zq7, zq5, zq6, zq9, zq8, zq31, zq32, ite_T, ite_F, zq33, zq34, zq35, Nat.reduceEqDiff, len22, len24, fa26_0, fa26_1, fa26_2, len27, fa33_0, fa33_1, len35, fa114_0, fa114_1, fa114_2, fa124_0, fa124_1, len134]
        rw [i64_of (by omega) (by omega)]
        exact step _ true _ _ g8 rfl rfl rfl ea (by rw [hany, hb, Bool.true_or])
end
end Go.Proofs.Ytegcjkhebecgbaa

/- Plain: what comes back in itself with more; closing steps in place. -/
set_option linter.unusedVariables false
set_option linter.unusedSimpArgs false
set_option maxRecDepth 100000
namespace Go.Sh
open Go
section
variable {E G : Nat → Nat → Prop}
/-- Some steps, with stops below k. -/
inductive Pk (E : Nat → Nat → Prop) (k : Nat) : Nat → Nat → Prop
  | one {a b : Nat} : E a b → Pk E k a b
  | thru {a m b : Nat} : m < k → Pk E k a m → Pk E k m b → Pk E k a b
/-- Some steps, of which one grows, with stops below k. -/
inductive Rk (E G : Nat → Nat → Prop) (k : Nat) : Nat → Nat → Prop
  | one {a b : Nat} : G a b → Rk E G k a b
  | left {a m b : Nat} : m < k → Pk E k a m → Rk E G k m b → Rk E G k a b
  | right {a m b : Nat} : m < k → Rk E G k a m → Pk E k m b → Rk E G k a b
theorem pk_mono {k l : Nat} (h : k ≤ l) {a b : Nat} (p : Pk E k a b) : Pk E l a b := by
  induction p with
  | one h1 => exact .one h1
  | thru h1 _ _ ih1 ih2 => exact .thru (by omega) ih1 ih2
theorem pk_ends {n k : Nat} (hE : ∀ a b, E a b → a < n ∧ b < n) {a b : Nat} (p : Pk E k a b) : a < n ∧ b < n := by
  induction p with
  | one h1 => exact hE _ _ h1
  | thru _ _ _ ih1 ih2 => exact ⟨ih1.1, ih2.2⟩
theorem rk_ends {n k : Nat} (hE : ∀ a b, E a b → a < n ∧ b < n) (hG : ∀ a b, G a b → E a b) {a b : Nat} (p : Rk E G k a b) : a < n ∧ b < n := by
  induction p with
  | one h1 => exact hE _ _ (hG _ _ h1)
  | left _ h2 _ ih => exact ⟨(pk_ends hE h2).1, ih.2⟩
  | right _ _ h2 ih => exact ⟨ih.1, (pk_ends hE h2).2⟩
theorem pk_down {n k : Nat} (hE : ∀ a b, E a b → a < n ∧ b < n) {a b : Nat} (p : Pk E k a b) : Pk E n a b := by
  induction p with
  | one h1 => exact .one h1
  | thru _ h1 h2 ih1 ih2 => exact .thru (pk_ends hE h1).2 ih1 ih2
theorem pk_succ {k a b : Nat} (p : Pk E (k + 1) a b) : Pk E k a b ∨ (Pk E k a k ∧ Pk E k k b) := by
  induction p with
  | one h => exact .inl (.one h)
  | @thru a m b hm _ _ ih1 ih2 =>
    by_cases e : m = k
    · subst e
      have h1 : Pk E m a m := ih1.elim id fun h => h.1
      have h2 : Pk E m m b := ih2.elim id fun h => h.2
      exact .inr ⟨h1, h2⟩
    · have hm : m < k := by omega
      rcases ih1 with h1 | ⟨h1, h1'⟩
      · rcases ih2 with h2 | ⟨h2, h2'⟩
        · exact .inl (.thru hm h1 h2)
        · exact .inr ⟨.thru hm h1 h2, h2'⟩
      · rcases ih2 with h2 | ⟨h2, h2'⟩
        · exact .inr ⟨h1, .thru hm h1' h2⟩
        · exact .inr ⟨h1, h2'⟩
/-- A walk that grows avoids k, or passes it once, or grows in a round at k. -/
theorem rk_succ {k a b : Nat} (p : Rk E G (k + 1) a b) : Rk E G k k k ∨ Rk E G k a b ∨ (Pk E k a k ∧ Rk E G k k b) ∨ (Rk E G k a k ∧ Pk E k k b) := by
  induction p with
  | one h => exact .inr (.inl (.one h))
  | @left a m b hm hp _ ih =>
    rcases ih with h | h
    · exact .inl h
    have hp := pk_succ hp
    by_cases e : m = k
    · subst e
      have h1 : Pk E m a m := hp.elim id fun h => h.1
      rcases h with h | ⟨h2, h3⟩ | ⟨h2, h3⟩
      · exact .inr (.inr (.inl ⟨h1, h⟩))
      · exact .inr (.inr (.inl ⟨h1, h3⟩))
      · exact .inl h2
    · have hm : m < k := by omega
      rcases hp with h1 | ⟨h1, h1'⟩
      · rcases h with h | ⟨h2, h3⟩ | ⟨h2, h3⟩
        · exact .inr (.inl (.left hm h1 h))
        · exact .inr (.inr (.inl ⟨.thru hm h1 h2, h3⟩))
        · exact .inr (.inr (.inr ⟨.left hm h1 h2, h3⟩))
      · rcases h with h | ⟨h2, h3⟩ | ⟨h2, h3⟩
        · exact .inr (.inr (.inl ⟨h1, .left hm h1' h⟩))
        · exact .inr (.inr (.inl ⟨h1, h3⟩))
        · exact .inl (.left hm h1' h2)
  | @right a m b hm _ hp ih =>
    rcases ih with h | h
    · exact .inl h
    have hp := pk_succ hp
    by_cases e : m = k
    · subst e
      have h1 : Pk E m m b := hp.elim id fun h => h.2
      rcases h with h | ⟨h2, h3⟩ | ⟨h2, h3⟩
      · exact .inr (.inr (.inr ⟨h, h1⟩))
      · exact .inl h3
      · exact .inr (.inr (.inr ⟨h2, h1⟩))
    · have hm : m < k := by omega
      rcases hp with h1 | ⟨h1, h1'⟩
      · rcases h with h | ⟨h2, h3⟩ | ⟨h2, h3⟩
        · exact .inr (.inl (.right hm h h1))
        · exact .inr (.inr (.inl ⟨h2, .right hm h3 h1⟩))
        · exact .inr (.inr (.inr ⟨h2, .thru hm h3 h1⟩))
      · rcases h with h | ⟨h2, h3⟩ | ⟨h2, h3⟩
        · exact .inr (.inr (.inr ⟨.right hm h h1, h1'⟩))
        · exact .inl (.right hm h3 h1)
        · exact .inr (.inr (.inr ⟨h2, h1'⟩))
/-- Something comes back in itself with more. -/
def CycB (E G : Nat → Nat → Prop) (n : Nat) : Prop := ∃ a b, G a b ∧ (a = b ∨ Pk E n b a)
theorem rk_mid {n a b : Nat} (p : Rk E G n a b) : ∃ u v, G u v ∧ (a = u ∨ Pk E n a u) ∧ (v = b ∨ Pk E n v b) := by
  induction p with
  | one h => exact ⟨_, _, h, .inl rfl, .inl rfl⟩
  | left hm hp _ ih =>
    obtain ⟨u, v, h1, h2, h3⟩ := ih
    refine ⟨u, v, h1, .inr ?_, h3⟩
    rcases h2 with rfl | h2
    · exact hp
    · exact .thru hm hp h2
  | right hm _ hp ih =>
    obtain ⟨u, v, h1, h2, h3⟩ := ih
    refine ⟨u, v, h1, h2, .inr ?_⟩
    rcases h3 with rfl | h3
    · exact hp
    · exact .thru hm h3 hp
theorem cyc_iff {n : Nat} (hE : ∀ a b, E a b → a < n ∧ b < n) (hG : ∀ a b, G a b → E a b) : CycB E G n ↔ ∃ a, Rk E G n a a := by
  constructor
  · rintro ⟨a, b, h1, rfl | h2⟩
    · exact ⟨a, .one h1⟩
    · exact ⟨a, .right (hE _ _ (hG _ _ h1)).2 (.one h1) h2⟩
  · rintro ⟨a, h⟩
    obtain ⟨u, v, h1, h2, h3⟩ := rk_mid h
    have ha := (rk_ends hE hG h).1
    refine ⟨u, v, h1, ?_⟩
    rcases h2 with rfl | h2
    · rcases h3 with rfl | h3
      · exact .inl rfl
      · exact .inr h3
    · rcases h3 with rfl | h3
      · exact .inr h2
      · exact .inr (.thru ha h3 h2)
/-! Two tables, closed in place. -/
abbrev Tb2 := Nat → Nat → Bool
def leT (A B : Tb2) : Prop := ∀ a b, A a b = true → B a b = true
theorem leT_refl (A : Tb2) : leT A A := fun _ _ h => h
def setT (A : Tb2) (a b : Nat) (v : Bool) : Tb2 := fun x y => if x = a ∧ y = b then v else A x y
theorem setT_le {A : Tb2} {a b : Nat} {v : Bool} (h : A a b = true → v = true) : leT A (setT A a b v) := fun x y hx => by
  unfold setT
  split
  · rename_i e
    obtain ⟨rfl, rfl⟩ := e
    exact h hx
  · exact hx
structure SndT (E G : Nat → Nat → Prop) (n : Nat) (A M : Tb2) : Prop where
  all : ∀ a b, A a b = true → Pk E n a b
  more : ∀ a b, M a b = true → Rk E G n a b
structure CmpT (E G : Nat → Nat → Prop) (n k : Nat) (A M : Tb2) : Prop where
  all : ∀ a b, Pk E k a b → A a b = true
  more : (∃ a, a < n ∧ M a a = true) ∨ ∀ a b, Rk E G k a b → M a b = true
/-- A round, as far as it has come. -/
structure MidT (E G : Nat → Nat → Prop) (n k a b : Nat) (A0 M0 A M : Tb2) : Prop where
  snd : SndT E G n A M
  le1 : leT A0 A
  le2 : leT M0 M
  all : ∀ x y, (x < a ∨ (x = a ∧ y < b)) → y < n → A0 x k = true → A0 k y = true → A x y = true
  more : ∀ x y, (x < a ∨ (x = a ∧ y < b)) → y < n → ((A0 x k = true ∧ M0 k y = true) ∨ (M0 x k = true ∧ A0 k y = true)) → M x y = true
theorem MidT.start {n k : Nat} {A M : Tb2} (h : SndT E G n A M) : MidT E G n k 0 0 A M A M :=
  ⟨h, leT_refl _, leT_refl _, fun x y h => by omega, fun x y h => by omega⟩
theorem MidT.step {n k a b : Nat} {A0 M0 A M : Tb2} (hk : k < n) (h : MidT E G n k a b A0 M0 A M) :
    MidT E G n k a (b + 1) A0 M0 (setT A a b (A a b || (A a k && A k b))) (setT M a b ((M a b || (A a k && M k b)) || (M a k && A k b))) := by
  have l1 : leT A (setT A a b (A a b || (A a k && A k b))) := setT_le fun h => by rw [h]; rfl
  have l2 : leT M (setT M a b ((M a b || (A a k && M k b)) || (M a k && A k b))) := setT_le fun h => by rw [h]; rfl
  refine ⟨⟨fun x y hx => ?_, fun x y hx => ?_⟩, fun x y hx => l1 _ _ (h.le1 _ _ hx), fun x y hx => l2 _ _ (h.le2 _ _ hx), fun x y hc hy h1 h2 => ?_, fun x y hc hy h1 => ?_⟩
  · unfold setT at hx
    split at hx
    · rename_i e
      obtain ⟨rfl, rfl⟩ := e
      simp only [Bool.or_eq_true, Bool.and_eq_true] at hx
      rcases hx with hx | ⟨h1, h2⟩
      · exact h.snd.all _ _ hx
      · exact .thru hk (h.snd.all _ _ h1) (h.snd.all _ _ h2)
    · exact h.snd.all _ _ hx
  · unfold setT at hx
    split at hx
    · rename_i e
      obtain ⟨rfl, rfl⟩ := e
      simp only [Bool.or_eq_true, Bool.and_eq_true] at hx
      rcases hx with (hx | ⟨h1, h2⟩) | ⟨h1, h2⟩
      · exact h.snd.more _ _ hx
      · exact .left hk (h.snd.all _ _ h1) (h.snd.more _ _ h2)
      · exact .right hk (h.snd.more _ _ h1) (h.snd.all _ _ h2)
    · exact h.snd.more _ _ hx
  · by_cases e : x = a ∧ y = b
    · obtain ⟨rfl, rfl⟩ := e
      unfold setT
      rw [if_pos ⟨rfl, rfl⟩, h.le1 _ _ h1, h.le1 _ _ h2]
      simp
    · exact l1 _ _ (h.all x y (by omega) hy h1 h2)
  · by_cases e : x = a ∧ y = b
    · obtain ⟨rfl, rfl⟩ := e
      unfold setT
      rw [if_pos ⟨rfl, rfl⟩]
      rcases h1 with ⟨h1, h2⟩ | ⟨h1, h2⟩
      · rw [h.le1 _ _ h1, h.le2 _ _ h2]
        simp
      · rw [h.le2 _ _ h1, h.le1 _ _ h2]
        simp
    · exact l2 _ _ (h.more x y (by omega) hy h1)
theorem MidT.row {n k a : Nat} {A0 M0 A M : Tb2} (h : MidT E G n k a n A0 M0 A M) : MidT E G n k (a + 1) 0 A0 M0 A M :=
  ⟨h.snd, h.le1, h.le2, fun x y hc hy => h.all x y (by omega) hy, fun x y hc hy => h.more x y (by omega) hy⟩
theorem MidT.done {n k : Nat} {A0 M0 A M : Tb2} (hE : ∀ a b, E a b → a < n ∧ b < n) (hG : ∀ a b, G a b → E a b) (hk : k < n) (h : MidT E G n k n 0 A0 M0 A M) (hc : CmpT E G n k A0 M0) : CmpT E G n (k + 1) A M := by
  refine ⟨fun a b hp => ?_, ?_⟩
  · have he := pk_ends hE hp
    rcases pk_succ hp with hp | ⟨h1, h2⟩
    · exact h.le1 _ _ (hc.all _ _ hp)
    · exact h.all a b (by omega) he.2 (hc.all _ _ h1) (hc.all _ _ h2)
  · rcases hc.more with ⟨a, ha, hm⟩ | hm
    · exact .inl ⟨a, ha, h.le2 _ _ hm⟩
    · by_cases hd : Rk E G k k k
      · exact .inl ⟨k, hk, h.le2 _ _ (hm _ _ hd)⟩
      · refine .inr fun a b hr => ?_
        have he := rk_ends hE hG hr
        rcases rk_succ hr with hr | hr | ⟨h1, h2⟩ | ⟨h1, h2⟩
        · exact absurd hr hd
        · exact h.le2 _ _ (hm _ _ hr)
        · exact h.more a b (by omega) he.2 (.inl ⟨hc.all _ _ h1, hm _ _ h2⟩)
        · exact h.more a b (by omega) he.2 (.inr ⟨hm _ _ h1, hc.all _ _ h2⟩)
theorem CmpT.zero {n : Nat} {A M : Tb2} (h1 : ∀ a b, E a b → A a b = true) (h2 : ∀ a b, G a b → M a b = true) : CmpT E G n 0 A M := by
  refine ⟨fun a b p => ?_, .inr fun a b p => ?_⟩
  · cases p with
    | one h => exact h1 _ _ h
    | thru h => omega
  · cases p with
    | one h => exact h2 _ _ h
    | left h => omega
    | right h => omega
theorem CmpT.cyc {n : Nat} {A M : Tb2} (hE : ∀ a b, E a b → a < n ∧ b < n) (hG : ∀ a b, G a b → E a b) (h : CmpT E G n n A M) (hs : SndT E G n A M) : (∃ a, a < n ∧ M a a = true) ↔ CycB E G n := by
  rw [cyc_iff hE hG]
  constructor
  · rintro ⟨a, _, ha⟩
    exact ⟨a, hs.more _ _ ha⟩
  · rintro ⟨a, ha⟩
    rcases h.more with h | h
    · exact h
    · exact ⟨a, (rk_ends hE hG ha).1, h _ _ ha⟩
theorem cyc_down {n m : Nat} (hE : ∀ a b, E a b → a < n ∧ b < n) (hm : n ≤ m) : CycB E G m ↔ CycB E G n := by
  constructor
  · rintro ⟨a, b, h1, h2⟩
    exact ⟨a, b, h1, h2.imp id fun h => pk_down hE h⟩
  · rintro ⟨a, b, h1, h2⟩
    exact ⟨a, b, h1, h2.imp id fun h => pk_mono hm h⟩
end
/-! The steps of a grammar. -/
def EdR (rs : List RuleL) (a b : Nat) : Prop := ∃ r ∈ rs, r.1 = (a : Int) ∧ ∃ i, i < r.2.length ∧ r.2.getD i 0 = (b : Int)
def growX (rs : List RuleL) (y : Int) : Prop := y < 0 ∨ Gro rs y.toNat
def EgR (rs : List RuleL) (a b : Nat) : Prop := ∃ r ∈ rs, r.1 = (a : Int) ∧ ∃ i j, i < r.2.length ∧ j < r.2.length ∧ i ≠ j ∧ r.2.getD i 0 = (b : Int) ∧ growX rs (r.2.getD j 0)
theorem egR_edR {rs : List RuleL} {a b : Nat} (h : EgR rs a b) : EdR rs a b := by
  obtain ⟨r, h1, h2, i, j, h3, _, _, h4, _⟩ := h
  exact ⟨r, h1, h2, i, h3, h4⟩
open Classical in
/-- The answer of IsFinite. -/
noncomputable def finiteV (gm : Gram) : Bool × Bool := if goodG gm = true then (!decide (CycB (EdR (usefulR gm.rules)) (EgR (usefulR gm.rules)) 6), true) else (false, false)
end Go.Sh

/- Contracts: the useful grammar, by the reference (l3Useful, UsefulOf, IsUseful). -/
set_option linter.unusedVariables false
set_option linter.unusedSimpArgs false
set_option maxRecDepth 100000
namespace Go.Sh
open Go
section
variable {F : Nat → Prop} {w w' : World} {rs : List RuleL} {cells : List Value}
theorem OwnG.readF {e B c : Nat} {X : Option Addr} (h : OwnG e F w B X c rs) : RulesF (fun q => blk X = some q ∨ F q) w X rs := by
  obtain ⟨cells, h1, h2⟩ := h
  have hcap := Row.cap h1
  refine ⟨by omega, fun hp => h1.ptr hp, fun hp => .inl ?_, fun j hj => ?_⟩
  · have := h1.ptr hp
    conv => lhs; rw [this]
    rfl
  · obtain ⟨Y, d, a1, a2, a3, a4⟩ := h2.cell j hj
    exact ⟨Y, d, h1.src.cell _ _ a1, h1.src.cell _ _ a2, a3, a4.mono fun _ hq => .inr hq.1⟩
theorem Row.readF {e c B : Nat} {X : Option Addr} (h1 : Row w B e 2 X rs.length c cells) (h2 : RuleCells F w rs cells) : RulesF (fun q => blk X = some q ∨ F q) w X rs := by
  have hcap := Row.cap h1
  refine ⟨by omega, fun hp => h1.ptr hp, fun hp => .inl ?_, fun j hj => ?_⟩
  · have := h1.ptr hp
    conv => lhs; rw [this]
    rfl
  · obtain ⟨Y, d, a1, a2, a3, a4⟩ := h2.cell j hj
    exact ⟨Y, d, h1.src.cell _ _ a1, h1.src.cell _ _ a2, a3, a4.mono fun _ hq => .inr hq⟩
end
noncomputable def usefulG (gm : Gram) : Gram := ⟨gm.nons, gm.toks, usefulR gm.rules⟩
open Classical in
theorem madeR_eq {gm : Gram} (hg : goodG gm = true) (rs : List RuleL) (h : ∀ r ∈ rs, r ∈ gm.rules) : rs.filter (fun r => decide (∀ x ∈ r.2, ¬ x < 0 → Clo gm.rules true x.toNat)) = rs.filter (fun r => decide (r.1 ∈ cloV gm true) && r.2.all (tstM (cloV gm true))) := by
  refine List.filter_congr fun r hr => ?_
  have hr' := goodRules hg r (h r hr)
  rw [Bool.eq_iff_iff, decide_eq_true_eq, Bool.and_eq_true, decide_eq_true_eq, tstM_iff fun x hx => (hr'.2.2 x hx).2]
  constructor
  · intro hx
    refine ⟨setL_mem.2 ⟨r.1.toNat, by omega, by omega, .mk (h r hr) (by omega) (fun _ _ _ => rfl) hx⟩, hx⟩
  · exact fun hx => hx.2
open Classical in
theorem rchR_eq {gm : Gram} (hg : goodG gm = true) (qs rs : List RuleL) (h : ∀ r ∈ rs, r ∈ gm.rules) : rs.filter (fun r => decide (Rch qs r.1.toNat)) = rs.filter (fun r => decide (r.1 ∈ rchV ⟨gm.nons, gm.toks, qs⟩)) := by
  refine List.filter_congr fun r hr => ?_
  have hr' := goodRules hg r (h r hr)
  rw [Bool.eq_iff_iff, decide_eq_true_eq, decide_eq_true_eq]
  unfold rchV
  rw [setL_mem]
  constructor
  · exact fun hx => ⟨r.1.toNat, by omega, by dsimp only; omega, hx⟩
  · rintro ⟨A, e, _, hA⟩
    rwa [e, Int.toNat_natCast]
theorem filter_take_succ {p : RuleL → Bool} {rs : List RuleL} {i : Nat} (h : i < rs.length) : (rs.take (i + 1)).filter p = (rs.take i).filter p ++ (if p (rul rs i) = true then [rul rs i] else []) := by
  rw [List.take_succ_eq_append_getElem h, List.filter_append, ← rul_eq h]
  congr 1
  cases hp : p (rul rs i) <;> simp [hp]
end Go.Sh
namespace Go.Proofs.Ytegcjkhebecgbaa
open Go Go.Sh Go.RowKit
section
variable {w0 w : World} {L : List Thing} {k : Value → World → Prop}
/-- A rule whose right side is owned comes to rules. -/
theorem appG (H : Apt w0 w L) (i j : Nat) (hij : i ≠ j) {X Y R : Option Addr} {c d e u : Nat} {cs : List Bool} {rs : List RuleL} {r : RuleL} {ft : Nat → Prop} (hi : L[i]? = some (gth ft X c rs)) (hj : L[j]? = some (ows Y d r.2)) (hl : rs.length ≤ 1000) (hR : Src w R [.int .i64 r.1, .slice Y r.2.length d])
    (hk : ∀ w' ft' X' c', Apt w0 w' ((L.set i (gth ft' X' c' (rs ++ [r]))).set j emp) → k (.slice X' (rs ++ [r]).length c') w') :
    Do Try.prog (sBuiltin .append #[24, 24] u cs [.slice X rs.length c, .slice R 1 e]) k w := by
  obtain ⟨cells, hrow, hrc⟩ := H.gow i hi
  have hY5 := H.own j hj
  have hXY : ∀ q, blk Y = some q → blk X ≠ some q := fun q hq e => H.two i j _ _ hij hi hj q (.inl e) hq
  refine do_append2 u24 inf33 rfl (by decide) hrow hR rfl (by intro v hv; simp at hv; rcases hv with rfl | rfl <;> rfl) (by omega) (by omega) (Nat.zero_le _) fun X' c' w' hr' hg hmv => ?_
  have hnew : ∀ q, q < w.heap.size → blk X ≠ some q → blk X' ≠ some q := fun q hq hn e => by
    rcases hmv with h1 | h1
    · exact hn (h1 ▸ e)
    · have := h1 q e
      omega
  have hrc2 : RuleCells (fun q => (ft q ∨ blk Y = some q) ∧ blk X' ≠ some q) w' (rs ++ [r]) (cells ++ [.int .i64 r.1, .slice Y r.2.length d]) := by
    refine RuleCells.append ((hrc.lt.same fun q hq => hg.block q hq.2 fun e => hq.1.2 e.symm).mono fun q hq => ⟨.inl hq.1.1, hnew q hq.2 hq.1.2⟩) (.cons (Row.cap hY5).1 ?_ .nil)
    have hf : IntsF (fun q => blk Y = some q ∧ q < w.heap.size) w Y r.2 := ⟨Own.ints hY5, fun hp => ⟨blk_ad hY5 hp, ((IntsF.of_own hY5).foot hp).2⟩⟩
    exact (hf.same' fun q hq => hg.block q hq.2 fun e => hXY q hq.1 e.symm).mono fun q hq => ⟨.inr hq.1, hnew q hq.2 (hXY q hq.1)⟩
  have hlen : rs.length + 1 = (rs ++ [r]).length := by simp
  rw [hlen] at hr' ⊢
  refine hk w' (fun q => ft q ∨ blk Y = some q) X' c' (H.join (it := gth (fun q => ft q ∨ blk Y = some q) X' c' (rs ++ [r])) hij hi hj (gx_of hg fun q hq => .inl (.inl hq)) (fun q hq => ?_) (fun q hq => ?_) (gow_kept ⟨_, hr', hrc2⟩))
  · rcases hq with hq | hq | hq
    · rcases hmv with e | e
      · exact .inl (.inl (e ▸ hq))
      · exact .inr (.inr (e q hq))
    · exact .inl (.inr hq)
    · exact .inr (.inl hq)
  · rcases hq with hq | hq | hq
    · exact (hr'.ge hq).2
    · exact Nat.lt_of_lt_of_le ((H.ok i _ hi).hi q (.inr hq)) hg.size
    · exact Nat.lt_of_lt_of_le ((H.ok j _ hj).hi q hq) hg.size
/-- A rule whose right side is read comes to a row. -/
theorem appRow (H : Apt w0 w L) (i : Nat) {X Y R : Option Addr} {c d e u n : Nat} {cs : List Bool} {cells : List Value} {r : RuleL} (hi : L[i]? = some (rwi 33 2 X n c cells)) (hl : n ≤ 1000) (hR : Src w R [.int .i64 r.1, .slice Y r.2.length d])
    (hk : ∀ w' X' c', Apt w0 w' (L.set i (rwi 33 2 X' (n + 1) c' (cells ++ [.int .i64 r.1, .slice Y r.2.length d]))) → k (.slice X' (n + 1) c') w') :
    Do Try.prog (sBuiltin .append #[24, 24] u cs [.slice X n c, .slice R 1 e]) k w := by
  have hrow := H.row i hi
  refine do_append2 u24 inf33 rfl (by decide) hrow hR rfl (by intro v hv; simp at hv; rcases hv with rfl | rfl <;> rfl) (by omega) (by omega) H.gr.size fun X' c' w' hr' hg hmv => ?_
  refine hk w' X' c' (H.set hi (it' := rwi 33 2 X' (n + 1) c' (cells ++ [.int .i64 r.1, .slice Y r.2.length d])) (gx_of hg fun q hq => hq) (fun q hq => ?_) (fun q hq => (hr'.ge hq).2) (rwi_kept hr'))
  rcases hmv with h1 | h1
  · exact .inl (show blk X = some q from h1.symm.trans hq)
  · exact .inr (h1 q hq)
end
end Go.Proofs.Ytegcjkhebecgbaa

/- Contract: the useful grammar, by the reference (l3Useful). -/
set_option linter.unusedVariables false
set_option linter.unusedSimpArgs false
set_option maxRecDepth 100000
namespace Go.Proofs.Ytegcjkhebecgbaa
open Go Go.Sh Go.RowKit
section
variable {w : World} {Y : Option Addr} {cy : Nat} {gm : Gram} {k : Value → World → Prop}
set_option maxHeartbeats 6400000 in
theorem l3Useful_c (hG : kG Y cy gm.rules w) (hg : goodG gm = true) (hk : ∀ w' X c, Gr w w' → (usefulR gm.rules).length ≤ c → RulesF (fun q => w.heap.size ≤ q ∧ q < w'.heap.size) w' X (usefulR gm.rules) → k (.agg #[.int .i64 gm.nons, .int .i64 gm.toks, .slice X (usefulR gm.rules).length c]) w') :
    CallK Try.prog 190 [grv gm Y cy] k w := by
  have hgr := goodRules hg
  have hn := good_nons hg
  have hlen := good_len hg
  refine enter190 ?_
  unfold S190
  have H := (Kn.nil w).addG hG.1 hG.2
  refine do_box fun b1 w1 g1 hb1 B1 => ?_
  have H := (H.step g1).addB B1
  refine do_alloc_of inf26 fun b3 w2 g2 hb3 B3 => ?_
  have H := (H.step g2).addB B3
  simp only [List.cons_append, List.nil_append] at H
  rw [ldB_agg agg26 sz26 rfl (H.get 2 rfl)]
  refine l3Close_c (tok := true) (H.get 1 rfl) (by omega) (fun r hr => (hgr r hr).1) (fun r hr => by have := (hgr r hr).2.1; omega) fun w3 XM cM gM hM => ?_
  have H := (H.step gM).addI hM.1 hM.2
  simp only [List.cons_append, List.nil_append] at H
  simp only [zq18, zq19, zq20, zq21, zq22, zq23, zq24, zq25, zq26, zq27, zq28, zq4, zq3, zq1, zq2, zq0, zq29, zq30, zq14, zq15, zq16, zq17, zq13, zq10, zq12, zq11, zq7, zq5, zq6, zq9, zq8, zq31, zq32, ite_T, ite_F, zq33, zq34, zq35, Nat.reduceEqDiff, len22, len24, fa26_0, fa26_1, fa26_2, len27, fa33_0, fa33_1, len35, fa114_0, fa114_1, fa114_2, fa124_0, fa124_1, len134]
  rw [ldB3 (H.get 2 rfl) rfl, ldB3 (H.get 2 rfl) rfl, bd26 (cells := #[.int .i64 gm.nons, .int .i64 gm.toks, .slice none 0 0]) rfl]
  have A := Apt.nil w3
  refine allocH A inf26 fun b4 w4 A => ?_
  refine storeH A 0 rfl sz26 rfl rfl rfl fun w5 A => ?_
  simp only [List.nil_append, List.set_cons_zero] at A
  have A := nilGow (e := 33) A
  simp only [List.cons_append, List.nil_append] at A
  have H5 := H.step A.gr
  rw [ldB24 (H5.get 2 rfl) rfl]
  simp only [zq18, zq19, zq20, zq21, zq22, zq23, zq24, zq25, zq26, zq27, zq28, zq4, zq3, zq1, zq2, zq0, zq29, zq30, zq14, zq15, zq16, zq17, zq13, zq10, zq12, zq11, zq7, zq5, zq6, zq9, zq8, zq31, zq32, ite_T, ite_F, zq33, zq34, zq35, Nat.reduceEqDiff, len22, len24, fa26_0, fa26_1, fa26_2, len27, fa33_0, fa33_1, len35, fa114_0, fa114_1, fa114_2, fa124_0, fa124_1, len134]
  have hrl := (H.get 1 rfl).2.le
  -- the rules that derive something
  refine loop_to gm.rules.length 0 (fun i f w' => i ≤ gm.rules.length ∧ f 24 = .int .i64 (i : Int) ∧ ∃ ft X c, Apt w3 w' [bx b4 [.int .i64 gm.nons, .int .i64 gm.toks, .slice X ((gm.rules.take i).filter (fun r => decide (r.1 ∈ cloV gm true) && r.2.all (tstM (cloV gm true)))).length c] 26, gth ft X c ((gm.rules.take i).filter (fun r => decide (r.1 ∈ cloV gm true) && r.2.all (tstM (cloV gm true))))])
    ⟨Nat.zero_le _, rfl, _, none, 0, A⟩ ?_
  clear A H5
  rintro i f w6 N hag ⟨hi, f24, ft, X, c, A⟩ hN
  have f1 : f 1 = ptrv b1 := hag 1 (by decide)
  have f2 : f 2 = ptrv b3 := hag 2 (by decide)
  have f3 : f 3 = .slice XM (cloV gm true).length cM := hag 3 (by decide)
  have f4 : f 4 = ptrv b4 := hag 4 (by decide)
  have f22 : f 22 = .slice Y gm.rules.length cy := hag 22 (by decide)
  have f23 : f 23 = .int .i64 gm.rules.length := hag 23 (by decide)
  simp only [f3, f22, f23, f24, zq18, zq19, zq20, zq21, zq22, zq23, zq24, zq25, zq26, zq27, zq28, zq4, zq3, zq1, zq2, zq0, zq29, zq30, zq14, zq15, zq16, zq17, zq13, zq10, zq12, zq11, zq7, zq5, zq6, zq9, zq8, zq31, zq32, ite_T, ite_F, zq33, zq34, zq35, Nat.reduceEqDiff, len22, len24, fa26_0, fa26_1, fa26_2, len27, fa33_0, fa33_1, len35, fa114_0, fa114_1, fa114_2, fa124_0, fa124_1, len134]
  have H := H.step A.gr
  by_cases hlt : i < gm.rules.length
  case pos =>
    simp only [show ((i : Int) < (gm.rules.length : Int)) from by omega, decide_true, zq18, zq19, zq20, zq21, zq22, zq23, zq24, zq25, zq26, zq27, zq28, zq4, zq3, zq1, zq2, zq0, zq29, zq30, zq14, zq15, zq16, zq17, zq13, zq10, zq12, zq11, zq7, zq5, zq6, zq9, zq8, zq31, zq32, ite_T, ite_F, zq33, zq34, zq35, Nat.reduceEqDiff, len22, len24, fa26_0, fa26_1, fa26_2, len27, fa33_0, fa33_1, len35, fa114_0, fa114_1, fa114_2, fa124_0, fa124_1, len134]
    have hrm : rul gm.rules i ∈ gm.rules := by rw [rul_eq hlt]; exact List.getElem_mem hlt
    have hfl := List.length_filter_le (fun r => decide (r.1 ∈ cloV gm true) && r.2.all (tstM (cloV gm true))) (gm.rules.take i)
    rw [List.length_take] at hfl
    have hsucc := filter_take_succ (p := fun r : RuleL => decide (r.1 ∈ cloV gm true) && r.2.all (tstM (cloV gm true))) hlt
    generalize hqs : (gm.rules.take i).filter (fun r => decide (r.1 ∈ cloV gm true) && r.2.all (tstM (cloV gm true))) = qs at *
    refine join_as (fun f w' => f 24 = .int .i64 (i : Int) ∧ ∃ ft X c, Apt w3 w' [bx b4 [.int .i64 gm.nons, .int .i64 gm.toks, .slice X ((gm.rules.take (i + 1)).filter (fun r => decide (r.1 ∈ cloV gm true) && r.2.all (tstM (cloV gm true)))).length c] 26, gth ft X c ((gm.rules.take (i + 1)).filter (fun r => decide (r.1 ∈ cloV gm true) && r.2.all (tstM (cloV gm true))))]) (fun K hK => ?_) ?_
    case refine_2 =>
      rintro f w' ⟨f24, h⟩
      simp only [f24, zq18, zq19, zq20, zq21, zq22, zq23, zq24, zq25, zq26, zq27, zq28, zq4, zq3, zq1, zq2, zq0, zq29, zq30, zq14, zq15, zq16, zq17, zq13, zq10, zq12, zq11, zq7, zq5, zq6, zq9, zq8, zq31, zq32, ite_T, ite_F, zq33, zq34, zq35, Nat.reduceEqDiff, len22, len24, fa26_0, fa26_1, fa26_2, len27, fa33_0, fa33_1, len35, fa114_0, fa114_1, fa114_2, fa124_0, fa124_1, len134]
      rw [i64_of (by omega) (by omega)]
      exact hN _ _ hlt ⟨by omega, rfl, h⟩
    have hRF := (H.get 1 rfl).2
    refine rdi (ixn24 hRF.ptr hlt) ?_
    refine ld_rule agg33 sz33 hRF hlt fun v hv => ?_
    obtain ⟨Z, cz, rfl, hcz, hZ⟩ := hv
    have H := H.addI hZ.is hcz
    refine do_alloc_of inf33 fun b9 w7 g7 hb9 B9 => ?_
    refine do_store (n := 2) sz33 rfl (by intro u hu; simp [Value.cells] at hu; rcases hu with rfl | rfl <;> rfl) B9 (by simp [Value.cells]) fun w8 g8 _ B8 => ?_
    have g68 : Gr w6 w8 := gr_mod g7 g8 fun q hq => by
      obtain rfl := Option.some.inj hq
      exact hb9
    have B8 : Box w8 b9 [.int .i64 (rul gm.rules i).1, .slice Z (rul gm.rules i).2.length cz] 33 := B8
    have H := (H.step g68).addB B8
    simp only [List.cons_append, List.nil_append] at H
    have A := A.step g68
    simp only [zq18, zq19, zq20, zq21, zq22, zq23, zq24, zq25, zq26, zq27, zq28, zq4, zq3, zq1, zq2, zq0, zq29, zq30, zq14, zq15, zq16, zq17, zq13, zq10, zq12, zq11, zq7, zq5, zq6, zq9, zq8, zq31, zq32, ite_T, ite_F, zq33, zq34, zq35, Nat.reduceEqDiff, len22, len24, fa26_0, fa26_1, fa26_2, len27, fa33_0, fa33_1, len35, fa114_0, fa114_1, fa114_2, fa124_0, fa124_1, len134]
    rw [ldB3 (H.get 6 rfl) rfl]
    refine l1Has_c (H.get 4 rfl).1 fun w9 g9 => ?_
    have H := H.step g9
    have A := A.step g9
    rw [ldB27 (H.get 6 rfl) rfl]
    simp only [zq18, zq19, zq20, zq21, zq22, zq23, zq24, zq25, zq26, zq27, zq28, zq4, zq3, zq1, zq2, zq0, zq29, zq30, zq14, zq15, zq16, zq17, zq13, zq10, zq12, zq11, zq7, zq5, zq6, zq9, zq8, zq31, zq32, ite_T, ite_F, zq33, zq34, zq35, Nat.reduceEqDiff, len22, len24, fa26_0, fa26_1, fa26_2, len27, fa33_0, fa33_1, len35, fa114_0, fa114_1, fa114_2, fa124_0, fa124_1, len134]
    refine loop_to (rul gm.rules i).2.length 0 (fun j f w' => j ≤ (rul gm.rules i).2.length ∧ f 35 = .int .i64 (j : Int) ∧ f 7 = .bool (decide ((rul gm.rules i).1 ∈ cloV gm true) && ((rul gm.rules i).2.take j).all (tstM (cloV gm true))) ∧ Gr w9 w')
      ⟨Nat.zero_le _, rfl, by simp; rfl, Gr.refl _⟩ ?_
    rintro j r w10 N3 hag3 ⟨hj, r35, r7, g10⟩ hN3
    have r3 : r 3 = .slice XM (cloV gm true).length cM := (hag3 3 (by decide)).trans f3
    have r4 : r 4 = ptrv b4 := (hag3 4 (by decide)).trans f4
    have r6 : r 6 = ptrv b9 := hag3 6 (by decide)
    have r24 : r 24 = .int .i64 (i : Int) := (hag3 24 (by decide)).trans f24
    have r33 : r 33 = .slice Z (rul gm.rules i).2.length cz := hag3 33 (by decide)
    have r34 : r 34 = .int .i64 ((rul gm.rules i).2.length : Int) := hag3 34 (by decide)
    simp only [r3, r33, r34, r35, r7, zq18, zq19, zq20, zq21, zq22, zq23, zq24, zq25, zq26, zq27, zq28, zq4, zq3, zq1, zq2, zq0, zq29, zq30, zq14, zq15, zq16, zq17, zq13, zq10, zq12, zq11, zq7, zq5, zq6, zq9, zq8, zq31, zq32, ite_T, ite_F, zq33, zq34, zq35, Nat.reduceEqDiff, len22, len24, fa26_0, fa26_1, fa26_2, len27, fa33_0, fa33_1, len35, fa114_0, fa114_1, fa114_2, fa124_0, fa124_1, len134]
    have H := H.step g10
    have A := A.step g10
    by_cases hlt2 : j < (rul gm.rules i).2.length
    case neg =>
      simp only [show ¬ ((j : Int) < ((rul gm.rules i).2.length : Int)) from by omega, decide_false, r4, r6, r7, zq18, zq19, zq20, zq21, zq22, zq23, zq24, zq25, zq26, zq27, zq28, zq4, zq3, zq1, zq2, zq0, zq29, zq30, zq14, zq15, zq16, zq17, zq13, zq10, zq12, zq11, zq7, zq5, zq6, zq9, zq8, zq31, zq32, ite_T, ite_F, zq33, zq34, zq35, Nat.reduceEqDiff, len22, len24, fa26_0, fa26_1, fa26_2, len27, fa33_0, fa33_1, len35, fa114_0, fa114_1, fa114_2, fa124_0, fa124_1, len134]
      rw [List.take_of_length_le (by omega)]
      cases hp : (decide ((rul gm.rules i).1 ∈ cloV gm true) && (rul gm.rules i).2.all (tstM (cloV gm true)))
      · simp only [zq18, zq19, zq20, zq21, zq22, zq23, zq24, zq25, zq26, zq27, zq28, zq4, zq3, zq1, zq2, zq0, zq29, zq30, zq14, zq15, zq16, zq17, zq13, zq10, zq12, zq11, zq7, zq5, zq6, zq9, zq8, zq31, zq32, ite_T, ite_F, zq33, zq34, zq35, Nat.reduceEqDiff, len22, len24, fa26_0, fa26_1, fa26_2, len27, fa33_0, fa33_1, len35, fa114_0, fa114_1, fa114_2, fa124_0, fa124_1, len134]
        rw [hp, if_neg Bool.false_ne_true, List.append_nil] at hsucc
        refine hK _ _ ⟨r24, ft, X, c, ?_⟩
        rw [hsucc]
        exact A
      · simp only [zq18, zq19, zq20, zq21, zq22, zq23, zq24, zq25, zq26, zq27, zq28, zq4, zq3, zq1, zq2, zq0, zq29, zq30, zq14, zq15, zq16, zq17, zq13, zq10, zq12, zq11, zq7, zq5, zq6, zq9, zq8, zq31, zq32, ite_T, ite_F, zq33, zq34, zq35, Nat.reduceEqDiff, len22, len24, fa26_0, fa26_1, fa26_2, len27, fa33_0, fa33_1, len35, fa114_0, fa114_1, fa114_2, fa124_0, fa124_1, len134]
        rw [hp, if_pos rfl] at hsucc
        have H := H.drew
        have A := A.drew
        refine ⟨fun w' => Gr w10.drew w', Gr.refl _, ?_⟩
        refine rdi (rdG one24 (A.box 0 rfl) rfl) ?_
        refine rdi (rdG one3 (H.get 6 rfl) rfl) ?_
        refine rdi (rdG one27 (H.get 6 rfl) rfl) ?_
        have hr4 := (hgr _ hrm).2.1
        refine l1Own_c (H.get 5 rfl).1 rfl (by omega) fun X1 d1 w11 g11 o1 => ?_
        have H := H.step g11
        have A := A.addOwn g11 o1
        simp only [List.cons_append, List.nil_append] at A
        refine ⟨g11, ?_⟩
        rw [bd33 (cells := #[.int .i64 (rul gm.rules i).1, .slice X1 (rul gm.rules i).2.length d1]) rfl]
        refine do_build_of u24 inf33 (cells := [.int .i64 (rul gm.rules i).1, .slice X1 (rul gm.rules i).2.length d1]) (by decide) (by decide) (by simp [Instr.fill, madeCells, Value.cells, rng1, rng2]) rfl fun b5 w12 hb5 hb6 g12 _ r5 => ?_
        refine ⟨gr_trans g11 g12, ?_⟩
        have A := A.step g12
        refine appG A 1 2 (by decide) rfl rfl (by omega) (Row.src (r5 _ (Nat.le_refl _))) fun w13 ft' X' c' A => ?_
        simp only [List.set_cons_zero, List.set_cons_succ] at A
        refine storeH A 0 rfl sz24 rfl rfl rfl fun w14 A => ?_
        simp only [List.set_cons_zero, List.set_cons_succ, List.take_succ_cons, List.take_zero, List.drop_succ_cons, List.drop_zero, List.nil_append, List.cons_append, Value.cells] at A
        have A := A.erase 2
        simp only [List.eraseIdx_cons_zero, List.eraseIdx_cons_succ] at A
        refine hK _ _ ⟨r24, ft', X', c', ?_⟩
        rw [hsucc]
        exact A
    simp only [show ((j : Int) < ((rul gm.rules i).2.length : Int)) from by omega, decide_true, zq18, zq19, zq20, zq21, zq22, zq23, zq24, zq25, zq26, zq27, zq28, zq4, zq3, zq1, zq2, zq0, zq29, zq30, zq14, zq15, zq16, zq17, zq13, zq10, zq12, zq11, zq7, zq5, zq6, zq9, zq8, zq31, zq32, ite_T, ite_F, zq33, zq34, zq35, Nat.reduceEqDiff, len22, len24, fa26_0, fa26_1, fa26_2, len27, fa33_0, fa33_1, len35, fa114_0, fa114_1, fa114_2, fa124_0, fa124_1, len134]
    have hZ' := (H.get 5 rfl).1
    refine rdi (ixn27 hZ'.ptr hlt2) (rdi (ld3 (hZ'.cell j hlt2)) ?_)
    have hall := all_take_succ (p := tstM (cloV gm true)) hlt2
    have hle27 := hZ'.le
    generalize hx : (rul gm.rules i).2.getD j 0 = x at *
    have step : ∀ (bb : Bool) (w' : World) (f' : F), Gr w10 w' → f' 35 = .int .i64 ((j : Int) + 1) → f' 7 = .bool bb → bb = (decide ((rul gm.rules i).1 ∈ cloV gm true) && ((rul gm.rules i).2.take (j + 1)).all (tstM (cloV gm true))) → N3 f' w' := fun bb w' f' g' e1 e2 e3 => by
      refine hN3 f' w' hlt2 ⟨by omega, by rw [e1]; rfl, by rw [e2, e3], gr_trans g10 g'⟩
    cases hacc : (decide ((rul gm.rules i).1 ∈ cloV gm true) && ((rul gm.rules i).2.take j).all (tstM (cloV gm true)))
    · simp only [zq18, zq19, zq20, zq21, zq22, zq23, zq24, zq25, zq26, zq27, zq28, zq4, zq3, zq1, zq2, zq0, zq29, zq30, zq14, zq15, zq16, zq17, zq13, zq10, zq12, zq11, zq7, zq5, zq6, zq9, zq8, zq31, zq32, ite_T, ite_F, zq33, zq34, zq35, Nat.reduceEqDiff, len22, len24, fa26_0, fa26_1, fa26_2, len27, fa33_0, fa33_1, len35, fa114_0, fa114_1, fa114_2, fa124_0, fa124_1, len134]
      rw [i64_of (by omega) (by omega)]
      refine step false _ _ (Gr.refl _) rfl rfl ?_
      rw [hall, ← Bool.and_assoc, hacc, Bool.false_and]
    · simp only [zq18, zq19, zq20, zq21, zq22, zq23, zq24, zq25, zq26, zq27, zq28, zq4, zq3, zq1, zq2, zq0, zq29, zq30, zq14, zq15, zq16, zq17, zq13, zq10, zq12, zq11, zq7, zq5, zq6, zq9, zq8, zq31, zq32, ite_T, ite_F, zq33, zq34, zq35, Nat.reduceEqDiff, len22, len24, fa26_0, fa26_1, fa26_2, len27, fa33_0, fa33_1, len35, fa114_0, fa114_1, fa114_2, fa124_0, fa124_1, len134]
      by_cases hx0 : x < 0
      · simp only [hx0, decide_true, zq18, zq19, zq20, zq21, zq22, zq23, zq24, zq25, zq26, zq27, zq28, zq4, zq3, zq1, zq2, zq0, zq29, zq30, zq14, zq15, zq16, zq17, zq13, zq10, zq12, zq11, zq7, zq5, zq6, zq9, zq8, zq31, zq32, ite_T, ite_F, zq33, zq34, zq35, Nat.reduceEqDiff, len22, len24, fa26_0, fa26_1, fa26_2, len27, fa33_0, fa33_1, len35, fa114_0, fa114_1, fa114_2, fa124_0, fa124_1, len134]
        rw [i64_of (by omega) (by omega)]
        refine step true _ _ (Gr.refl _) rfl rfl ?_
        rw [hall, ← Bool.and_assoc, hacc]
        simp [tstM, hx0]
      · simp only [hx0, decide_false, zq18, zq19, zq20, zq21, zq22, zq23, zq24, zq25, zq26, zq27, zq28, zq4, zq3, zq1, zq2, zq0, zq29, zq30, zq14, zq15, zq16, zq17, zq13, zq10, zq12, zq11, zq7, zq5, zq6, zq9, zq8, zq31, zq32, ite_T, ite_F, zq33, zq34, zq35, Nat.reduceEqDiff, len22, len24, fa26_0, fa26_1, fa26_2, len27, fa33_0, fa33_1, len35, fa114_0, fa114_1, fa114_2, fa124_0, fa124_1, len134]
        refine l1Has_c (H.get 4 rfl).1 fun w11 g11 => ?_
        rw [i64_of (by omega) (by omega)]
        refine step (decide (x ∈ cloV gm true)) _ _ g11 rfl rfl ?_
        rw [hall, ← Bool.and_assoc, hacc]
        simp [tstM, hx0]
  -- and are reached
  simp only [show ¬ ((i : Int) < (gm.rules.length : Int)) from by omega, decide_false, f1, f2, f4, zq18, zq19, zq20, zq21, zq22, zq23, zq24, zq25, zq26, zq27, zq28, zq4, zq3, zq1, zq2, zq0, zq29, zq30, zq14, zq15, zq16, zq17, zq13, zq10, zq12, zq11, zq7, zq5, zq6, zq9, zq8, zq31, zq32, ite_T, ite_F, zq33, zq34, zq35, Nat.reduceEqDiff, len22, len24, fa26_0, fa26_1, fa26_2, len27, fa33_0, fa33_1, len35, fa114_0, fa114_1, fa114_2, fa124_0, fa124_1, len134]
  have hmade : (gm.rules.take i).filter (fun r => decide (r.1 ∈ cloV gm true) && r.2.all (tstM (cloV gm true))) = madeR gm.rules := by
    rw [List.take_of_length_le (by omega), ← madeR_eq hg gm.rules fun r hr => hr]
    rfl
  rw [hmade] at A
  have hsub : ∀ r ∈ madeR gm.rules, r ∈ gm.rules := fun r hr => (madeR_mem.1 hr).1
  have hml : (madeR gm.rules).length ≤ 16 := Nat.le_trans (List.length_filter_le _ _) hlen
  generalize hms : madeR gm.rules = ms at *
  have hmG := gowK (A.gow 1 rfl)
  have hmF := (A.gow 1 rfl).readF
  have hfoot : ∀ q, (blk X = some q ∨ ft q) → w3.heap.size ≤ q ∧ q < w6.heap.size := fun q hq => ⟨(A.ok 1 _ rfl).lo q hq, (A.ok 1 _ rfl).hi q hq⟩
  rw [ldB_agg agg26 sz26 rfl (A.box 0 rfl)]
  refine l3Reached_c (gm := ⟨gm.nons, gm.toks, ms⟩) hmG (by omega) (fun r hr x hx => ((hgr r (hsub r hr)).2.2 x hx).2) (fun r hr => (hgr r (hsub r hr)).1.1) (fun r hr => by have := (hgr r (hsub r hr)).2.1; dsimp only at *; omega) fun w7 XR cR gR hR => ?_
  have H := H.step gR
  have hmF := hmF.gr gR
  rw [ldB3 (H.get 2 rfl) rfl, ldB3 (H.get 2 rfl) rfl, bd26 (cells := #[.int .i64 gm.nons, .int .i64 gm.toks, .slice none 0 0]) rfl]
  have A4 := (A.box 0 rfl).gr gR
  have G := Apt.nil w7
  refine allocH G inf26 fun b92 w8 G => ?_
  refine storeH G 0 rfl sz26 rfl rfl rfl fun w9 G => ?_
  simp only [List.nil_append, List.set_cons_zero] at G
  have G := G.addNil 33 2
  simp only [List.cons_append, List.nil_append] at G
  rw [ldB24 (A4.gr G.gr) rfl]
  simp only [zq18, zq19, zq20, zq21, zq22, zq23, zq24, zq25, zq26, zq27, zq28, zq4, zq3, zq1, zq2, zq0, zq29, zq30, zq14, zq15, zq16, zq17, zq13, zq10, zq12, zq11, zq7, zq5, zq6, zq9, zq8, zq31, zq32, ite_T, ite_F, zq33, zq34, zq35, Nat.reduceEqDiff, len22, len24, fa26_0, fa26_1, fa26_2, len27, fa33_0, fa33_1, len35, fa114_0, fa114_1, fa114_2, fa124_0, fa124_1, len134]
  have hR2 := hR.1
  refine loop_to ms.length 0 (fun i f w' => i ≤ ms.length ∧ f 73 = .int .i64 (i : Int) ∧ ∃ X2 c2 cells, RuleCells (fun q => blk X = some q ∨ ft q) w7 ((ms.take i).filter (fun r => decide (r.1 ∈ rchV ⟨gm.nons, gm.toks, ms⟩))) cells ∧ Apt w7 w' [bx b92 [.int .i64 gm.nons, .int .i64 gm.toks, .slice X2 ((ms.take i).filter (fun r => decide (r.1 ∈ rchV ⟨gm.nons, gm.toks, ms⟩))).length c2] 26, rwi 33 2 X2 ((ms.take i).filter (fun r => decide (r.1 ∈ rchV ⟨gm.nons, gm.toks, ms⟩))).length c2 cells])
    ⟨Nat.zero_le _, rfl, none, 0, [], .nil, G⟩ ?_
  clear G
  rintro l q w10 N2 hag2 ⟨hl, q73, X2, c2, cells, hcells, G⟩ hN2
  have q2 : q 2 = ptrv b3 := (hag2 2 (by decide)).trans f2
  have q10 : q 10 = .slice XR (rchV ⟨gm.nons, gm.toks, ms⟩).length cR := hag2 10 (by decide)
  have q11 : q 11 = ptrv b92 := hag2 11 (by decide)
  have q71 : q 71 = .slice X ms.length c := hag2 71 (by decide)
  have q72 : q 72 = .int .i64 ms.length := hag2 72 (by decide)
  simp only [q71, q72, q73, zq18, zq19, zq20, zq21, zq22, zq23, zq24, zq25, zq26, zq27, zq28, zq4, zq3, zq1, zq2, zq0, zq29, zq30, zq14, zq15, zq16, zq17, zq13, zq10, zq12, zq11, zq7, zq5, zq6, zq9, zq8, zq31, zq32, ite_T, ite_F, zq33, zq34, zq35, Nat.reduceEqDiff, len22, len24, fa26_0, fa26_1, fa26_2, len27, fa33_0, fa33_1, len35, fa114_0, fa114_1, fa114_2, fa124_0, fa124_1, len134]
  by_cases hlt2 : l < ms.length
  case neg =>
    simp only [show ¬ ((l : Int) < (ms.length : Int)) from by omega, decide_false, q2, q11, zq18, zq19, zq20, zq21, zq22, zq23, zq24, zq25, zq26, zq27, zq28, zq4, zq3, zq1, zq2, zq0, zq29, zq30, zq14, zq15, zq16, zq17, zq13, zq10, zq12, zq11, zq7, zq5, zq6, zq9, zq8, zq31, zq32, ite_T, ite_F, zq33, zq34, zq35, Nat.reduceEqDiff, len22, len24, fa26_0, fa26_1, fa26_2, len27, fa33_0, fa33_1, len35, fa114_0, fa114_1, fa114_2, fa124_0, fa124_1, len134]
    have hu : (ms.take l).filter (fun r => decide (r.1 ∈ rchV ⟨gm.nons, gm.toks, ms⟩)) = usefulR gm.rules := by
      rw [List.take_of_length_le (by omega), ← rchR_eq hg ms ms hsub]
      unfold usefulR
      rw [hms]
      rfl
    rw [hu] at hcells G
    rw [ldB_agg agg26 sz26 rfl (G.box 0 rfl)]
    have H := H.step G.gr
    have hrow := G.row 1 rfl
    have hfin : RulesF (fun q => blk X2 = some q ∨ (blk X = some q ∨ ft q)) w10 X2 (usefulR gm.rules) := hrow.readF (hcells.gr G.gr)
    have hb3' : b3 < w3.heap.size := (H.get 3 rfl |> fun _ => (Box.lt (B3.gr gM)))
    have hfoot2 : ∀ q, (blk X2 = some q ∨ (blk X = some q ∨ ft q)) → w3.heap.size ≤ q ∧ q < w10.heap.size := fun q hq => by
      rcases hq with hq | hq
      · have := hrow.ge hq
        have := A.gr.size
        have := gR.size
        omega
      · have := hfoot q hq
        have := gR.size
        have := G.gr.size
        omega
    refine do_store (n := 3) sz26 rfl (by intro u hu; simp [Value.cells] at hu; rcases hu with rfl | rfl | rfl <;> rfl) (H.get 3 rfl) (by simp [Value.cells]) fun w11 g11 _ B11 => ?_
    have B11 : Box w11 b3 [.int .i64 gm.nons, .int .i64 gm.toks, .slice X2 (usefulR gm.rules).length c2] 26 := B11
    rw [rd_loadVar, ldB_agg agg26 sz26 rfl B11]
    have hgx : Gx (fun q => q = b3) w10 w11 := gx_of g11 fun q hq => (Option.some.inj hq).symm
    have hw3 : w.heap.size ≤ w3.heap.size := by
      have := g1.size
      have := g2.size
      have := gM.size
      omega
    refine hk w11 X2 c2 (gr_put (H.get 0 rfl) g11 (by have := g1.size; omega)) hrow.cap.1 ((hfin.gx hgx fun q hq e => by have := hfoot2 q hq; omega).mono fun q hq => ?_)
    have := hfoot2 q hq
    have := g11.size
    omega
  simp only [show ((l : Int) < (ms.length : Int)) from by omega, decide_true, zq18, zq19, zq20, zq21, zq22, zq23, zq24, zq25, zq26, zq27, zq28, zq4, zq3, zq1, zq2, zq0, zq29, zq30, zq14, zq15, zq16, zq17, zq13, zq10, zq12, zq11, zq7, zq5, zq6, zq9, zq8, zq31, zq32, ite_T, ite_F, zq33, zq34, zq35, Nat.reduceEqDiff, len22, len24, fa26_0, fa26_1, fa26_2, len27, fa33_0, fa33_1, len35, fa114_0, fa114_1, fa114_2, fa124_0, fa124_1, len134]
  have hfl := List.length_filter_le (fun r => decide (r.1 ∈ rchV ⟨gm.nons, gm.toks, ms⟩)) (ms.take l)
  rw [List.length_take] at hfl
  have hsucc := filter_take_succ (p := fun r : RuleL => decide (r.1 ∈ rchV ⟨gm.nons, gm.toks, ms⟩)) hlt2
  generalize hqs : (ms.take l).filter (fun r => decide (r.1 ∈ rchV ⟨gm.nons, gm.toks, ms⟩)) = qs at *
  refine join_as (fun f w' => f 73 = .int .i64 (l : Int) ∧ ∃ X2 c2 cells, RuleCells (fun q => blk X = some q ∨ ft q) w7 ((ms.take (l + 1)).filter (fun r => decide (r.1 ∈ rchV ⟨gm.nons, gm.toks, ms⟩))) cells ∧ Apt w7 w' [bx b92 [.int .i64 gm.nons, .int .i64 gm.toks, .slice X2 ((ms.take (l + 1)).filter (fun r => decide (r.1 ∈ rchV ⟨gm.nons, gm.toks, ms⟩))).length c2] 26, rwi 33 2 X2 ((ms.take (l + 1)).filter (fun r => decide (r.1 ∈ rchV ⟨gm.nons, gm.toks, ms⟩))).length c2 cells]) (fun K hK => ?_) ?_
  case refine_2 =>
    rintro f w' ⟨f73, h⟩
    simp only [f73, zq18, zq19, zq20, zq21, zq22, zq23, zq24, zq25, zq26, zq27, zq28, zq4, zq3, zq1, zq2, zq0, zq29, zq30, zq14, zq15, zq16, zq17, zq13, zq10, zq12, zq11, zq7, zq5, zq6, zq9, zq8, zq31, zq32, ite_T, ite_F, zq33, zq34, zq35, Nat.reduceEqDiff, len22, len24, fa26_0, fa26_1, fa26_2, len27, fa33_0, fa33_1, len35, fa114_0, fa114_1, fa114_2, fa124_0, fa124_1, len134]
    rw [i64_of (by omega) (by omega)]
    exact hN2 _ _ hlt2 ⟨by omega, rfl, h⟩
  obtain ⟨Z, cz, z1, z2, z3, z4⟩ := hmF.row l hlt2
  refine rdi (ixn24 hmF.ptr hlt2) ?_
  rw [ld_agg agg33 sz33 (cs := [.int .i64 (rul ms l).1, .slice Z (rul ms l).2.length cz]) rfl (fun j hj => by
    match j, hj with
    | 0, _ => rw [add_add, Nat.add_zero]; exact G.gr.cell z1
    | 1, _ => rw [add_add]; exact G.gr.cell z2)]
  refine do_alloc_of inf33 fun b9 w11 g11 hb9 B9 => ?_
  refine do_store (n := 2) sz33 rfl (by intro u hu; simp [Value.cells] at hu; rcases hu with rfl | rfl <;> rfl) B9 (by simp [Value.cells]) fun w12 g12 _ B12 => ?_
  have g1012 : Gr w10 w12 := gr_mod g11 g12 fun q hq => by
    obtain rfl := Option.some.inj hq
    exact hb9
  have B12 : Box w12 b9 [.int .i64 (rul ms l).1, .slice Z (rul ms l).2.length cz] 33 := B12
  have G := G.step g1012
  simp only [q10, zq18, zq19, zq20, zq21, zq22, zq23, zq24, zq25, zq26, zq27, zq28, zq4, zq3, zq1, zq2, zq0, zq29, zq30, zq14, zq15, zq16, zq17, zq13, zq10, zq12, zq11, zq7, zq5, zq6, zq9, zq8, zq31, zq32, ite_T, ite_F, zq33, zq34, zq35, Nat.reduceEqDiff, len22, len24, fa26_0, fa26_1, fa26_2, len27, fa33_0, fa33_1, len35, fa114_0, fa114_1, fa114_2, fa124_0, fa124_1, len134]
  rw [ldB3 B12 rfl]
  refine l1Has_c (hR2.gr G.gr) fun w13 g13 => ?_
  have G := G.step g13
  by_cases hin : (rul ms l).1 ∈ rchV ⟨gm.nons, gm.toks, ms⟩
  case neg =>
    simp only [hin, decide_false, zq18, zq19, zq20, zq21, zq22, zq23, zq24, zq25, zq26, zq27, zq28, zq4, zq3, zq1, zq2, zq0, zq29, zq30, zq14, zq15, zq16, zq17, zq13, zq10, zq12, zq11, zq7, zq5, zq6, zq9, zq8, zq31, zq32, ite_T, ite_F, zq33, zq34, zq35, Nat.reduceEqDiff, len22, len24, fa26_0, fa26_1, fa26_2, len27, fa33_0, fa33_1, len35, fa114_0, fa114_1, fa114_2, fa124_0, fa124_1, len134]
    rw [decide_eq_false hin, if_neg Bool.false_ne_true, List.append_nil] at hsucc
    refine hK _ _ ⟨q73, X2, c2, cells, ?_, ?_⟩
    · rw [hsucc]
      exact hcells
    · rw [hsucc]
      exact G
  simp only [hin, decide_true, q11, zq18, zq19, zq20, zq21, zq22, zq23, zq24, zq25, zq26, zq27, zq28, zq4, zq3, zq1, zq2, zq0, zq29, zq30, zq14, zq15, zq16, zq17, zq13, zq10, zq12, zq11, zq7, zq5, zq6, zq9, zq8, zq31, zq32, ite_T, ite_F, zq33, zq34, zq35, Nat.reduceEqDiff, len22, len24, fa26_0, fa26_1, fa26_2, len27, fa33_0, fa33_1, len35, fa114_0, fa114_1, fa114_2, fa124_0, fa124_1, len134]
  rw [decide_eq_true hin, if_pos rfl] at hsucc
  rw [ldB24 (G.box 0 rfl) rfl, ldB_agg agg33 sz33 rfl (B12.gr g13)]
  refine do_build_of u24 inf33 (cells := [.int .i64 (rul ms l).1, .slice Z (rul ms l).2.length cz]) (by decide) (by decide) (by simp [Instr.fill, madeCells, Value.cells, rng1, rng2]) rfl fun b5 w14 hb5 hb6 g14 _ r5 => ?_
  have G := G.step g14
  refine appRow G 1 rfl (by omega) (Row.src (r5 _ (Nat.le_refl _))) fun w15 X' c' G => ?_
  simp only [List.set_cons_zero, List.set_cons_succ] at G
  refine storeH G 0 rfl sz24 rfl rfl rfl fun w16 G => ?_
  simp only [List.set_cons_zero, List.set_cons_succ, List.take_succ_cons, List.take_zero, List.drop_succ_cons, List.drop_zero, List.nil_append, List.cons_append, Value.cells] at G
  refine hK _ _ ⟨q73, X', c', cells ++ [.int .i64 (rul ms l).1, .slice Z (rul ms l).2.length cz], ?_, ?_⟩
  · rw [hsucc]
    exact hcells.append (.cons z3 z4 .nil)
  · rw [hsucc, List.length_append]
    exact G
end
end Go.Proofs.Ytegcjkhebecgbaa

/- Contracts: sameRules, sameGrammar of the laws; GoodGrammar, GoodWord of the program; a grammar that is read as a thing. -/
set_option linter.unusedVariables false
set_option linter.unusedSimpArgs false
set_option maxRecDepth 100000
namespace Go.Sh
open Go
theorem RulesF.same {F : Nat → Prop} {w w' : World} {X : Option Addr} {rs : List RuleL} (h : RulesF F w X rs) (hs : ∀ q, F q → w'.heap[q]? = w.heap[q]?) : RulesF F w' X rs := by
  refine ⟨h.le, h.ptr, h.foot, fun j hj => ?_⟩
  obtain ⟨Y, c, h1, h2, h3, h4⟩ := h.row j hj
  have hb : w'.heap[(ad X).block]? = w.heap[(ad X).block]? := hs _ (h.foot (by omega))
  have cell : ∀ i, w'.cell? ((ad X).add i) = w.cell? ((ad X).add i) := fun i => by
    unfold World.cell?
    rw [add_block, hb]
  exact ⟨Y, c, by rw [cell]; exact h1, by rw [cell]; exact h2, h3, h4.same' hs⟩
end Go.Sh
namespace Go.Proofs.Ytegcjkhebecgbaa
open Go Go.Sh Go.RowKit
section
variable {w : World} {Y X Z : Option Addr} {cy cx cz : Nat} {gm g2 : Gram} {ws : List Int} {k : Value → World → Prop}
end
end Go.Proofs.Ytegcjkhebecgbaa

/- Contracts: UsefulOf of the reference; a grammar is handed back. -/
set_option linter.unusedVariables false
set_option linter.unusedSimpArgs false
set_option maxRecDepth 100000
namespace Go.Sh
open Go
noncomputable def usefulV (gm : Gram) : Gram × Bool := if goodG gm = true then (usefulG gm, true) else (⟨0, 0, []⟩, false)
end Go.Sh
namespace Go.Proofs.Ytegcjkhebecgbaa
open Go Go.Sh Go.RowKit
section
variable {w : World} {Y : Option Addr} {cy : Nat} {gm : Gram} {k : Value → World → Prop}
end
end Go.Proofs.Ytegcjkhebecgbaa

/- A map as memory, among things that lie apart: every entry is right. -/
set_option linter.unusedVariables false
set_option linter.unusedSimpArgs false
set_option maxRecDepth 100000
namespace Go.Sh
open Go Go.WideMaps
section
variable {P : Program} {k : Value → World → Prop} {w0 w : World} {L : List Thing} {Good : Value → Value → Prop}
end
end Go.Sh
namespace Go.Proofs.Ytegcjkhebecgbaa
open Go Go.Sh Go.RowKit Go.WideMaps
end Go.Proofs.Ytegcjkhebecgbaa

/- Bk: bodies of functions as terms of the frame calculus, printed by shgen.py of this repository. -/
set_option linter.unusedVariables false
set_option maxRecDepth 100000
namespace Go.Proofs.Ytegcjkhebecgbaa
open Go Go.Sh

/-! loop.example/g00758/spec.l10Sized -/
/-! loop.example/g00758/spec.l10Cap -/
/-! loop.example/g00758/spec.l10Row -/
end Go.Proofs.Ytegcjkhebecgbaa

/- Contracts: sums and products kept at most one more than is told (the program's plus, times). -/
set_option linter.unusedVariables false
set_option linter.unusedSimpArgs false
set_option maxRecDepth 100000
namespace Go.Proofs.Ytegcjkhebecgbaa
open Go Go.Sh Go.RowKit
end Go.Proofs.Ytegcjkhebecgbaa

/- Contract: in how many ways symbols have trees of a size (the reference's l10Row). -/
set_option linter.unusedVariables false
set_option linter.unusedSimpArgs false
set_option maxRecDepth 100000
namespace Go.Sh
open Go
/-- A table of counts in memory: nonterminal, from and to, size. -/
structure TabR (w : World) (X : Option Addr) (nons n m : Nat) (t : Nat → Nat → Nat → Nat → Nat) : Prop where
  ptr : 0 < nons → X = some (ad X)
  row : ∀ A, A < nons → ∃ Y c, w.cell? ((ad X).add A) = some (.slice Y (n * n) c) ∧ Y = some (ad Y) ∧ ∀ i j, i < n → j < n → ∃ Z z, w.cell? ((ad Y).add (i * n + j)) = some (.slice Z (m + 1) z) ∧ Z = some (ad Z) ∧ ∀ k, k ≤ m → w.cell? ((ad Z).add k) = some (.int .i64 (t A i j k))
theorem TabR.gr {w w' : World} {X : Option Addr} {nons n m : Nat} {t : Nat → Nat → Nat → Nat → Nat} (h : TabR w X nons n m t) (g : Gr w w') : TabR w' X nons n m t := ⟨h.ptr, fun A hA => by
  obtain ⟨Y, c, h1, h2, h3⟩ := h.row A hA
  refine ⟨Y, c, g.cell h1, h2, fun i j hi hj => ?_⟩
  obtain ⟨Z, z, h4, h5, h6⟩ := h3 i j hi hj
  exact ⟨Z, z, g.cell h4, h5, fun k hk => g.cell (h6 k hk)⟩⟩
end Go.Sh
namespace Go.Proofs.Ytegcjkhebecgbaa
open Go Go.Sh Go.RowKit
end Go.Proofs.Ytegcjkhebecgbaa

/- A family of slices of numbers that are owned (their heads lie elsewhere). -/
set_option linter.unusedVariables false
set_option linter.unusedSimpArgs false
set_option maxRecDepth 100000
namespace Go.Sh
open Go
structure Fam (e : Nat) (w : World) (B : Nat) (ls : List (List Int)) (ps : Nat → Option Addr × Nat) : Prop where
  own : ∀ j, j < ls.length → Own e w B (ps j).1 (ps j).2 (rgt ls j)
  two : ∀ i j, i < ls.length → j < ls.length → i ≠ j → blk (ps i).1 = none ∨ blk (ps i).1 ≠ blk (ps j).1
def FootL (ps : Nat → Option Addr × Nat) (n q : Nat) : Prop := ∃ l, l < n ∧ blk (ps l).1 = some q
section
variable {e B B' : Nat} {w w' w0 : World} {ls : List (List Int)} {ps : Nat → Option Addr × Nat} {L : List Thing}
theorem Fam.same (h : Fam e w B ls ps) (hs : ∀ q, FootL ps ls.length q → w'.heap[q]? = w.heap[q]?) : Fam e w' B ls ps :=
  ⟨fun j hj => Row.same (h.own j hj) fun q hq => hs q ⟨j, hj, hq⟩, h.two⟩
theorem Fam.up (h : Fam e w B ls ps) (hs : ∀ q, FootL ps ls.length q → B' ≤ q) : Fam e w B' ls ps :=
  ⟨fun j hj => Row.up (h.own j hj) fun q hq => hs q ⟨j, hj, hq⟩, h.two⟩
theorem Fam.mono (h : Fam e w B ls ps) (hb : B' ≤ B) : Fam e w B' ls ps := ⟨fun j hj => Row.mono (h.own j hj) hb, h.two⟩
theorem Fam.foot (h : Fam e w B ls ps) {q : Nat} (hq : FootL ps ls.length q) : B ≤ q ∧ q < w.heap.size := by
  obtain ⟨l, hl, hq⟩ := hq
  exact Row.ge (h.own l hl) hq
end
end Go.Sh
namespace Go.Proofs.Ytegcjkhebecgbaa
open Go Go.Sh Go.RowKit
end Go.Proofs.Ytegcjkhebecgbaa

/- A table of counts: heads and leaves. -/
set_option linter.unusedVariables false
set_option linter.unusedSimpArgs false
set_option maxRecDepth 100000
namespace Go.Sh
open Go
/-- Where a leaf of a table stands. -/
def idxT (n A i j : Nat) : Nat := A * (n * n) + (i * n + j)
theorem idxT_lt {nons n A i j : Nat} (hA : A < nons) (hi : i < n) (hj : j < n) : idxT n A i j < nons * (n * n) := by
  have h1 := place_lt hi hj
  have h2 : (A + 1) * (n * n) ≤ nons * (n * n) := Nat.mul_le_mul_right _ hA
  rw [Nat.add_mul] at h2
  unfold idxT
  omega
theorem idxT_inj {n A i j A' i' j' : Nat} (hi : i < n) (hj : j < n) (hi' : i' < n) (hj' : j' < n) (h : idxT n A i j = idxT n A' i' j') : A = A' ∧ i = i' ∧ j = j' := by
  have h1 := place_lt hi hj
  have h2 := place_lt hi' hj'
  have hn : 0 < n := by omega
  have hnn : 0 < n * n := Nat.mul_pos hn hn
  unfold idxT at h
  have e1 : A = A' := by
    have := congrArg (· / (n * n)) h
    simp only [Nat.mul_comm _ (n * n), Nat.mul_add_div hnn, Nat.div_eq_of_lt h1, Nat.div_eq_of_lt h2, Nat.add_zero] at this
    exact this
  subst e1
  have h3 : i * n + j = i' * n + j' := by omega
  have e2 : i = i' := by
    have := congrArg (· / n) h3
    simp only [Nat.mul_comm _ n, Nat.mul_add_div hn, Nat.div_eq_of_lt hj, Nat.div_eq_of_lt hj', Nat.add_zero] at this
    exact this
  subst e2
  exact ⟨rfl, rfl, by omega⟩
theorem rgt_put {ls : List (List Int)} {i j : Nat} {l : List Int} (hi : i < ls.length) : rgt (ls.set i l) j = if j = i then l else rgt ls j := by
  simp only [rgt, List.getD_eq_getElem?_getD, List.getElem?_set]
  by_cases hij : i = j
  · subst hij
    simp [hi]
  · rw [if_neg hij, if_neg (fun e => hij e.symm)]
theorem getD_put {l : List Int} {i j : Nat} {x : Int} (hi : i < l.length) : (l.set i x).getD j 0 = if j = i then x else l.getD j 0 := by
  simp only [List.getD_eq_getElem?_getD, List.getElem?_set]
  by_cases hij : i = j
  · subst hij
    simp [hi]
  · rw [if_neg hij, if_neg (fun e => hij e.symm)]
structure LeafT (ls : List (List Int)) (nons n m : Nat) (t : Nat → Nat → Nat → Nat → Nat) : Prop where
  len : ls.length = nons * (n * n)
  row : ∀ A i j, A < nons → i < n → j < n → (rgt ls (idxT n A i j)).length = m + 1
  val : ∀ A i j k, A < nons → i < n → j < n → k ≤ m → (rgt ls (idxT n A i j)).getD k 0 = (t A i j k : Int)
theorem LeafT.congr {ls : List (List Int)} {nons n m : Nat} {t t' : Nat → Nat → Nat → Nat → Nat} (h : LeafT ls nons n m t) (he : ∀ A i j k, A < nons → i < n → j < n → k ≤ m → t' A i j k = t A i j k) : LeafT ls nons n m t' :=
  ⟨h.len, h.row, fun A i j k hA hi hj hk => by rw [h.val A i j k hA hi hj hk, he A i j k hA hi hj hk]⟩
theorem LeafT.put {ls : List (List Int)} {nons n m : Nat} {t t' : Nat → Nat → Nat → Nat → Nat} (h : LeafT ls nons n m t) {A i j k v : Nat} (hA : A < nons) (hi : i < n) (hj : j < n) (hk : k ≤ m) (h1 : t' A i j k = v)
    (h2 : ∀ A' i' j' k', A' < nons → i' < n → j' < n → k' ≤ m → ¬ (A' = A ∧ i' = i ∧ j' = j ∧ k' = k) → t' A' i' j' k' = t A' i' j' k') : LeafT (ls.set (idxT n A i j) ((rgt ls (idxT n A i j)).set k (v : Int))) nons n m t' := by
  have hlt : idxT n A i j < ls.length := by rw [h.len]; exact idxT_lt hA hi hj
  refine ⟨by rw [List.length_set]; exact h.len, fun A' i' j' hA' hi' hj' => ?_, fun A' i' j' k' hA' hi' hj' hk' => ?_⟩
  · rw [rgt_put hlt]
    split
    · rw [List.length_set]; exact h.row A i j hA hi hj
    · exact h.row A' i' j' hA' hi' hj'
  · rw [rgt_put hlt]
    split
    · rename_i he
      obtain ⟨rfl, rfl, rfl⟩ := idxT_inj hi' hj' hi hj he
      rw [getD_put (by rw [h.row _ _ _ hA hi hj]; omega)]
      split
      · rename_i hkk
        subst hkk
        rw [h1]
      · rename_i hkk
        rw [h.val _ _ _ _ hA hi hj hk', h2 _ _ _ _ hA hi hj hk' (fun hh => hkk hh.2.2.2)]
    · rename_i he
      rw [h.val _ _ _ _ hA' hi' hj' hk', h2 _ _ _ _ hA' hi' hj' hk' (fun hh => he (by rw [hh.1, hh.2.1, hh.2.2.1]))]
structure HeadT (hs : List (List Value)) (ps : Nat → Option Addr × Nat) (nons n m : Nat) : Prop where
  len : hs.length = nons
  row : ∀ A, A < nons → (vls hs A).length = n * n
  val : ∀ A p, A < nons → p < n * n → (vls hs A)[p]? = some (.slice (ps (A * (n * n) + p)).1 (m + 1) (ps (A * (n * n) + p)).2)
section
variable {e e1 e2 nons n m c B1 B2 : Nat} {w : World} {X : Option Addr} {hs : List (List Value)} {hp ps : Nat → Option Addr × Nat} {ls : List (List Int)} {t : Nat → Nat → Nat → Nat → Nat}
end
end Go.Sh

/- Contract: the program's numbers of trees by size (trees, rest). -/
set_option linter.unusedVariables false
set_option linter.unusedSimpArgs false
set_option maxRecDepth 100000
namespace Go.Sh
open Go
def keyV (a b c d : Nat) : Value := .agg #[.int .i64 (a : Int), .int .i64 (b : Int), .int .i64 (c : Int), .int .i64 (d : Int), .int .i64 0]
theorem keyV_inj {a b c d a' b' c' d' : Nat} (h : keyV a b c d = keyV a' b' c' d') : a = a' ∧ b = b' ∧ c = c' ∧ d = d' := by
  simp only [keyV, Value.agg.injEq, Array.mk.injEq, List.cons.injEq, Value.int.injEq, true_and, and_true, Int.natCast_inj] at h
  exact h
/-- What the memory holds. -/
def GoodC (M : Nat) (rs : List RuleL) (ws : List Int) (key v : Value) : Prop :=
  ∃ q p i j s : Nat, q ≤ 16 ∧ p ≤ 4 ∧ i ≤ 10 ∧ j ≤ 10 ∧ s ≤ 20 ∧ key = keyV (q * 5 + p) i j s ∧ v = .int .i64 ((min M (cntR (cntC rs ws) ws ((rul rs q).2.drop p) i j s) : Nat) : Int)
theorem GoodC.get {M : Nat} {rs : List RuleL} {ws : List Int} {q p i j s : Nat} {v : Value} (hp : p ≤ 4) (h : GoodC M rs ws (keyV (q * 5 + p) i j s) v) : v = .int .i64 ((min M (cntR (cntC rs ws) ws ((rul rs q).2.drop p) i j s) : Nat) : Int) := by
  obtain ⟨q', p', i', j', s', h1, h2, h3, h4, h5, h6, rfl⟩ := h
  obtain ⟨e1, rfl, rfl, rfl⟩ := keyV_inj h6
  obtain ⟨rfl, rfl⟩ : q = q' ∧ p = p' := by omega
  rfl
theorem rd_buildA {P : Program} {S : WS} {k : Value → Prop} {t e n sz by' : Nat} {z : Value} {qs : List (Nat × Value)} {cells : Array Value} {m : Nat} (ht : P.underlying t = some (.array n e)) (he : szOf P e m) (H : Inf P t z sz by') (hf : Instr.fill (fun i => some (i * m, m)) z.cells qs = some cells) : Rd P S (sBuild t qs) k = k (.agg cells) := rd_eq fun w _ => by
  obtain ⟨i, hi, hz, _, _⟩ := H
  have e0 : (zeroValue t).run P w = .ok z w := by simp [zeroValue, run_info hi, hz]
  simp only [sBuild, Instr.build, Sem.run_bind, e0, Result.andThen, run_underlying ht, run_size he, hf]
  rfl
end Go.Sh
namespace Go.Proofs.Ytegcjkhebecgbaa
open Go Go.Sh Go.RowKit Go.WideMaps
end Go.Proofs.Ytegcjkhebecgbaa

/- Cd: bodies of functions as terms of the frame calculus, printed by shgen.py of this repository. -/
set_option linter.unusedVariables false
set_option maxRecDepth 100000
namespace Go.Proofs.Ytegcjkhebecgbaa
open Go Go.Sh

/-! loop.example/g00758/impl.listOf -/
def pl187 : Plans := fun _ => ⟨false, [], .nil⟩
def S187 (v0 : Value) (k : Value → World → Prop) (w : World) : Prop :=
 Do Try.prog (sBox 163 v0) (fun t1 w2 =>
 Do Try.prog (sBuildSlice 27 0 []) (fun t3 w4 =>
 Rd Try.prog (WS.at w4) (sLoad 163 t1) fun t5 =>
 LoopF [9, 10, 11, 4, 5, 12, 13, 14, 15, 16, 3, 17, 8] (fun Q6 f7 w8 =>
  Rd Try.prog (WS.at w8) (sBin .lss 3 true (f7 8) (.int .i64 6)) fun t9 =>
  CondK t9
   (Join (fun K10 =>
   Rd Try.prog (WS.at w8) (sIndex 163 (f7 7) (f7 8)) fun t13 =>
   CondK t13
    (Do Try.prog (sBuildSlice 27 1 [(0, (f7 8))]) (fun t14 w15 =>
    Do Try.prog (sBuiltin .append #[27, 27] 27 [false, false] [(f7 3), t14]) (fun t16 w17 =>
    K10 (F.upd (F.upd (F.upd (F.upd (F.upd (F.upd (F.upd (F.upd (F.upd (F.upd (F.upd f7 9 t9) 10 (f7 8)) 11 t13) 4 (f7 8)) 5 t13) 12 t13) 13 (f7 3)) 14 (f7 8)) 15 t14) 16 t16) 3 t16) w17) w15) w8)
    (K10 (F.upd (F.upd (F.upd (F.upd (F.upd (F.upd f7 9 t9) 10 (f7 8)) 11 t13) 4 (f7 8)) 5 t13) 12 t13) w8)) (fun f11 w12 =>
   Rd Try.prog (WS.at w12) (sBin .add 3 true (f11 8) (.int .i64 1)) fun t18 =>
   Q6 .normal (F.upd (F.upd f11 17 t18) 8 t18) w12))
   (Q6 (.exit 0) (F.upd f7 9 t9) w8))
  (blockQ 0 (seqQ (fun f19 w20 =>
 k (f19 3) w20) (bodyQ Try.prog [.tmp 2] k)))
  (F.upd (F.upd (F.upd (F.upd (F.upd (F.upd (initF [v0]) 1 t1) 2 (.slice none 0 0)) 6 t3) 3 t3) 7 t5) 8 (.int .i64 0)) w4) w2) w
theorem body187 : Try.f187.body = some (bodyOf Try.f187) := by kernel_rfl
theorem same187 (v0 : Value) (k : Value → World → Prop) (w : World) : wpF Try.prog pl187 (bodyOf Try.f187) (bodyQ Try.prog Try.f187.results.toList k) (initF [v0]) w = S187 v0 k w := by kernel_rfl
theorem enter187 {v0 : Value} {k : Value → World → Prop} {w : World} (h : S187 v0 k w) : CallK Try.prog 187 [v0] k w :=
  call_of_wpF (pl := pl187) mixed Try.func187 body187 (by kernel_rfl) (of_decide_eq_true (by kernel_rfl)) (by kernel_rfl) (by kernel_rfl) (Eq.mpr (same187 v0 k w) h)

/-! (loop.example/g00758/impl.Grammar).productive -/
def pl188 : Plans := fun _ => ⟨false, [], .nil⟩
def S188 (v0 : Value) (k : Value → World → Prop) (w : World) : Prop :=
 Do Try.prog (sBox 26 v0) (fun t1 w2 =>
 Do Try.prog (sAlloc 163) (fun t3 w4 =>
 Rd Try.prog (WS.at w4) (sLoad 26 t1) fun t5 =>
 CallK Try.prog 269 [t5, (.func (.func 270) #[] #[])] (fun t6 w7 =>
 Do Try.prog (sStore 163 t3 t6) (fun _ w8 =>
 Rd Try.prog (WS.at w8) (sLoadVar 163 t3) fun t9 => k t9 w8) w7) w4) w2) w
theorem body188 : Try.f188.body = some (bodyOf Try.f188) := by kernel_rfl
theorem same188 (v0 : Value) (k : Value → World → Prop) (w : World) : wpF Try.prog pl188 (bodyOf Try.f188) (bodyQ Try.prog Try.f188.results.toList k) (initF [v0]) w = S188 v0 k w := by kernel_rfl
theorem enter188 {v0 : Value} {k : Value → World → Prop} {w : World} (h : S188 v0 k w) : CallK Try.prog 188 [v0] k w :=
  call_of_wpF (pl := pl188) mixed Try.func188 body188 (by kernel_rfl) (of_decide_eq_true (by kernel_rfl)) (by kernel_rfl) (by kernel_rfl) (Eq.mpr (same188 v0 k w) h)

/-! (loop.example/g00758/impl.Grammar).nullable -/
def pl189 : Plans := fun _ => ⟨false, [], .nil⟩
def S189 (v0 : Value) (k : Value → World → Prop) (w : World) : Prop :=
 Do Try.prog (sBox 26 v0) (fun t1 w2 =>
 Do Try.prog (sAlloc 163) (fun t3 w4 =>
 Rd Try.prog (WS.at w4) (sLoad 26 t1) fun t5 =>
 CallK Try.prog 269 [t5, (.func (.func 272) #[] #[])] (fun t6 w7 =>
 Do Try.prog (sStore 163 t3 t6) (fun _ w8 =>
 Rd Try.prog (WS.at w8) (sLoadVar 163 t3) fun t9 => k t9 w8) w7) w4) w2) w
theorem body189 : Try.f189.body = some (bodyOf Try.f189) := by kernel_rfl
theorem same189 (v0 : Value) (k : Value → World → Prop) (w : World) : wpF Try.prog pl189 (bodyOf Try.f189) (bodyQ Try.prog Try.f189.results.toList k) (initF [v0]) w = S189 v0 k w := by kernel_rfl
theorem enter189 {v0 : Value} {k : Value → World → Prop} {w : World} (h : S189 v0 k w) : CallK Try.prog 189 [v0] k w :=
  call_of_wpF (pl := pl189) mixed Try.func189 body189 (by kernel_rfl) (of_decide_eq_true (by kernel_rfl)) (by kernel_rfl) (by kernel_rfl) (Eq.mpr (same189 v0 k w) h)

/-! (loop.example/g00758/impl.Grammar).leastLong -/
def pl186 : Plans := fun _ => ⟨false, [], .nil⟩
def S186 (v0 : Value) (k : Value → World → Prop) (w : World) : Prop :=
 Do Try.prog (sBox 26 v0) (fun t1 w2 =>
 Do Try.prog (sAlloc 160) (fun t3 w4 =>
 Rd Try.prog (WS.at w4) (sBuild 160 []) fun t5 =>
 Do Try.prog (sAlloc 160) (fun t6 w7 =>
 Do Try.prog (sStore 160 t6 t5) (fun _ w8 =>
 LoopF [13, 14, 4, 15, 16, 17, 12] (fun Q9 f10 w11 =>
  Rd Try.prog (WS.at w11) (sBin .lss 3 true (f10 12) (.int .i64 6)) fun t12 =>
  CondK t12
   (Rd Try.prog (WS.at w11) (sIndexAddr 160 (f10 3) (f10 12)) fun t13 =>
   Do Try.prog (sStore 3 t13 (.int .i64 (-1))) (fun _ w14 =>
   Rd Try.prog (WS.at w14) (sBin .add 3 true (f10 12) (.int .i64 1)) fun t15 =>
   Q9 .normal (F.upd (F.upd (F.upd (F.upd (F.upd (F.upd (F.upd f10 13 t12) 14 (f10 12)) 4 (f10 12)) 15 (f10 12)) 16 t13) 17 t15) 12 t15) w14) w11)
   (Q9 (.exit 0) (F.upd f10 13 t12) w11))
  (blockQ 0 (seqQ (fun f16 w17 =>
 LoopF [18, 5, 19, 20, 21, 22, 23, 24, 25, 7, 8, 26, 27, 28, 29, 30, 31, 32, 10, 39, 40, 38, 42, 43, 41, 44, 45, 8, 47, 48, 49, 50, 46, 8, 33, 34, 35, 36, 37, 8, 51, 29, 52, 53, 54, 55, 56, 57, 58, 59, 60, 61, 62, 63, 64, 65, 66, 67, 68, 69, 70, 71, 72, 5, 73, 22] (fun Q18 f19 w20 =>
  CondK (f19 5)
   (Rd Try.prog (WS.at w20) (sFieldAddr 26 (f19 1) 2) fun t21 =>
   Rd Try.prog (WS.at w20) (sLoad 24 t21) fun t22 =>
   Rd Try.prog (WS.at w20) (sBuiltin .len #[24] 3 [false] [t22]) fun t23 =>
   LoopF [23, 24, 25, 7, 8, 26, 27, 28, 29, 30, 31, 32, 10, 39, 40, 38, 42, 43, 41, 44, 45, 8, 47, 48, 49, 50, 46, 8, 33, 34, 35, 36, 37, 8, 51, 29, 52, 53, 54, 55, 56, 57, 58, 59, 60, 61, 62, 63, 64, 65, 66, 67, 68, 69, 70, 71, 72, 5, 73, 22] (fun Q24 f25 w26 =>
    Rd Try.prog (WS.at w26) (sBin .lss 3 false (f25 22) (f25 21)) fun t27 =>
    CondK t27
     (Join (fun K28 =>
     Rd Try.prog (WS.at w26) (sIndexAddr 24 (f25 20) (f25 22)) fun t31 =>
     Rd Try.prog (WS.at w26) (sLoad 33 t31) fun t32 =>
     Do Try.prog (sAlloc 33) (fun t33 w34 =>
     Do Try.prog (sStore 33 t33 t32) (fun _ w35 =>
     Rd Try.prog (WS.at w35) (sFieldAddr 33 t33 1) fun t36 =>
     Rd Try.prog (WS.at w35) (sLoad 27 t36) fun t37 =>
     Rd Try.prog (WS.at w35) (sBuiltin .len #[27] 3 [false] [t37]) fun t38 =>
     LoopF [30, 31, 32, 10, 39, 40, 38, 42, 43, 41, 44, 45, 8, 47, 48, 49, 50, 46, 8, 33, 34, 35, 36, 37, 8, 51, 29] (fun Q39 f40 w41 =>
      Rd Try.prog (WS.at w41) (sBin .lss 3 false (f40 29) (f40 28)) fun t42 =>
      CondK t42
       (Join (fun K43 =>
       Rd Try.prog (WS.at w41) (sIndexAddr 27 (f40 27) (f40 29)) fun t46 =>
       Rd Try.prog (WS.at w41) (sLoad 3 t46) fun t47 =>
       Rd Try.prog (WS.at w41) (sBin .lss 3 true (f40 8) (.int .i64 0)) fun t48 =>
       CondK t48
        (K43 (F.upd (F.upd (F.upd (F.upd (F.upd (F.upd (F.upd f40 30 t42) 31 t46) 32 t47) 10 t47) 39 (f40 8)) 40 t48) 38 t48) w41)
        (Rd Try.prog (WS.at w41) (sBin .lss 3 true t47 (.int .i64 0)) fun t49 =>
        CondK t49
         (Rd Try.prog (WS.at w41) (sBin .add 3 true (f40 8) (.int .i64 1)) fun t50 =>
         K43 (F.upd (F.upd (F.upd (F.upd (F.upd (F.upd (F.upd (F.upd (F.upd (F.upd (F.upd (F.upd (F.upd f40 30 t42) 31 t46) 32 t47) 10 t47) 39 (f40 8)) 40 t48) 38 t48) 42 t47) 43 t49) 41 t49) 44 (f40 8)) 45 t50) 8 t50) w41)
         (Rd Try.prog (WS.at w41) (sIndexAddr 160 (f40 3) t47) fun t51 =>
         Rd Try.prog (WS.at w41) (sLoad 3 t51) fun t52 =>
         Rd Try.prog (WS.at w41) (sBin .lss 3 true t52 (.int .i64 0)) fun t53 =>
         CondK t53
          (K43 (F.upd (F.upd (F.upd (F.upd (F.upd (F.upd (F.upd (F.upd (F.upd (F.upd (F.upd (F.upd (F.upd (F.upd (F.upd (F.upd f40 30 t42) 31 t46) 32 t47) 10 t47) 39 (f40 8)) 40 t48) 38 t48) 42 t47) 43 t49) 41 t49) 47 t47) 48 t51) 49 t52) 50 t53) 46 t53) 8 (.int .i64 (-1))) w41)
          (Rd Try.prog (WS.at w41) (sIndexAddr 160 (f40 3) t47) fun t54 =>
          Rd Try.prog (WS.at w41) (sLoad 3 t54) fun t55 =>
          Rd Try.prog (WS.at w41) (sBin .add 3 false (f40 8) t55) fun t56 =>
          K43 (F.upd (F.upd (F.upd (F.upd (F.upd (F.upd (F.upd (F.upd (F.upd (F.upd (F.upd (F.upd (F.upd (F.upd (F.upd (F.upd (F.upd (F.upd (F.upd (F.upd (F.upd f40 30 t42) 31 t46) 32 t47) 10 t47) 39 (f40 8)) 40 t48) 38 t48) 42 t47) 43 t49) 41 t49) 47 t47) 48 t51) 49 t52) 50 t53) 46 t53) 33 (f40 8)) 34 t47) 35 t54) 36 t55) 37 t56) 8 t56) w41)))) (fun f44 w45 =>
       Rd Try.prog (WS.at w45) (sBin .add 3 true (f44 29) (.int .i64 1)) fun t57 =>
       Q39 .normal (F.upd (F.upd f44 51 t57) 29 t57) w45))
       (Q39 (.exit 6) (F.upd f40 30 t42) w41))
      (blockQ 6 (seqQ (fun f58 w59 =>
     Rd Try.prog (WS.at w59) (sBin .geq 3 true (f58 8) (.int .i64 0)) fun t60 =>
     GuardK t60 true (fun k w' => Rd Try.prog (WS.at w59) (sFieldAddr 33 (f58 7) 0) fun v => k v w') (fun t61 w62 =>
     GuardK t60 true (fun k w' => Rd Try.prog (WS.at w62) (sLoad 3 t61) fun v => k v w') (fun t63 w64 =>
     GuardK t60 true (fun k w' => Rd Try.prog (WS.at w64) (sIndexAddr 160 (f58 3) t63) fun v => k v w') (fun t65 w66 =>
     GuardK t60 true (fun k w' => Rd Try.prog (WS.at w66) (sLoad 3 t65) fun v => k v w') (fun t67 w68 =>
     GuardK t60 true (fun k w' => Rd Try.prog (WS.at w68) (sBin .lss 3 true t67 (.int .i64 0)) fun v => k v w') (fun t69 w70 =>
     GuardK t60 true (fun k w' => k t69 w') (fun t71 w72 =>
     GuardK t71 false (fun k w' => k (f58 8) w') (fun t73 w74 =>
     GuardK t71 false (fun k w' => Rd Try.prog (WS.at w74) (sFieldAddr 33 (f58 7) 0) fun v => k v w') (fun t75 w76 =>
     GuardK t71 false (fun k w' => Rd Try.prog (WS.at w76) (sLoad 3 t75) fun v => k v w') (fun t77 w78 =>
     GuardK t71 false (fun k w' => Rd Try.prog (WS.at w78) (sIndexAddr 160 (f58 3) t77) fun v => k v w') (fun t79 w80 =>
     GuardK t71 false (fun k w' => Rd Try.prog (WS.at w80) (sLoad 3 t79) fun v => k v w') (fun t81 w82 =>
     GuardK t71 false (fun k w' => Rd Try.prog (WS.at w82) (sBin .lss 3 false t73 t81) fun v => k v w') (fun t83 w84 =>
     GuardK t60 true (fun k w' => Rd Try.prog (WS.at w84) (sPick t71 (.bool true) t83) fun v => k v w') (fun t85 w86 =>
     Rd Try.prog (WS.at w86) (sPick t60 t85 (.bool false)) fun t87 =>
     CondK t87
      (Rd Try.prog (WS.at w86) (sFieldAddr 33 (f58 7) 0) fun t88 =>
      Rd Try.prog (WS.at w86) (sLoad 3 t88) fun t89 =>
      Rd Try.prog (WS.at w86) (sIndexAddr 160 (f58 3) t89) fun t90 =>
      Do Try.prog (sStore 3 t90 (f58 8)) (fun _ w91 =>
      K28 (F.upd (F.upd (F.upd (F.upd (F.upd (F.upd (F.upd (F.upd (F.upd (F.upd (F.upd (F.upd (F.upd (F.upd (F.upd (F.upd (F.upd (F.upd (F.upd (F.upd (F.upd (F.upd f58 52 (f58 8)) 53 t60) 54 t60) 55 t61) 56 t63) 57 t65) 58 t67) 59 t69) 60 t71) 61 t73) 62 t75) 63 t77) 64 t79) 65 t81) 66 t83) 67 t85) 68 t87) 69 t88) 70 t89) 71 (f58 8)) 72 t90) 5 (.bool true)) w91) w86)
      (K28 (F.upd (F.upd (F.upd (F.upd (F.upd (F.upd (F.upd (F.upd (F.upd (F.upd (F.upd (F.upd (F.upd (F.upd (F.upd (F.upd (F.upd f58 52 (f58 8)) 53 t60) 54 t60) 55 t61) 56 t63) 57 t65) 58 t67) 59 t69) 60 t71) 61 t73) 62 t75) 63 t77) 64 t79) 65 t81) 66 t83) 67 t85) 68 t87) w86)) w84) w82) w80) w78) w76) w74) w72) w70) w68) w66) w64) w62) w59) (blockQ 5 (seqQ K28 Q24))))
      (F.upd (F.upd (F.upd (F.upd (F.upd (F.upd (F.upd (F.upd (F.upd f25 23 t27) 24 t31) 25 t32) 7 t33) 8 (.int .i64 0)) 26 t36) 27 t37) 28 t38) 29 (.int .i64 0)) w35) w34) w26) (fun f29 w30 =>
     Rd Try.prog (WS.at w30) (sBin .add 3 true (f29 22) (.int .i64 1)) fun t94 =>
     Q24 .normal (F.upd (F.upd f29 73 t94) 22 t94) w30))
     (Q24 (.exit 4) (F.upd f25 23 t27) w26))
    (blockQ 4 (blockQ 3 Q18))
    (F.upd (F.upd (F.upd (F.upd (F.upd (F.upd f19 18 (f19 5)) 5 (.bool false)) 19 t21) 20 t22) 21 t23) 22 (.int .i64 0)) w20)
   (Q18 (.exit 2) (F.upd f19 18 (f19 5)) w20))
  (blockQ 2 (seqQ (fun f95 w96 =>
 Rd Try.prog (WS.at w96) (sLoad 160 (f95 3)) fun t97 =>
 Do Try.prog (sStore 160 (f95 2) t97) (fun _ w98 =>
 Rd Try.prog (WS.at w98) (sLoadVar 160 (f95 2)) fun t99 => k t99 w98) w96) (bodyQ Try.prog [.cell 2 160] k)))
  (F.upd f16 5 (.bool true)) w17) (bodyQ Try.prog [.cell 2 160] k)))
  (F.upd (F.upd (F.upd (F.upd (F.upd (initF [v0]) 1 t1) 2 t3) 11 t5) 3 t6) 12 (.int .i64 0)) w8) w7) w4) w2) w
theorem body186 : Try.f186.body = some (bodyOf Try.f186) := by kernel_rfl
theorem same186 (v0 : Value) (k : Value → World → Prop) (w : World) : wpF Try.prog pl186 (bodyOf Try.f186) (bodyQ Try.prog Try.f186.results.toList k) (initF [v0]) w = S186 v0 k w := by kernel_rfl
theorem enter186 {v0 : Value} {k : Value → World → Prop} {w : World} (h : S186 v0 k w) : CallK Try.prog 186 [v0] k w :=
  call_of_wpF (pl := pl186) mixed Try.func186 body186 (by kernel_rfl) (of_decide_eq_true (by kernel_rfl)) (by kernel_rfl) (by kernel_rfl) (Eq.mpr (same186 v0 k w) h)

/-! (loop.example/g00758/impl.Grammar).reached -/
def pl191 : Plans := fun _ => ⟨false, [], .nil⟩
def S191 (v0 : Value) (k : Value → World → Prop) (w : World) : Prop :=
 Do Try.prog (sBox 26 v0) (fun t1 w2 =>
 Do Try.prog (sAlloc 163) (fun t3 w4 =>
 Rd Try.prog (WS.at w4) (sBuild 163 [(0, (.bool true))]) fun t5 =>
 Do Try.prog (sAlloc 163) (fun t6 w7 =>
 Do Try.prog (sStore 163 t6 t5) (fun _ w8 =>
 LoopF [10, 4, 11, 12, 13, 14, 15, 16, 17, 6, 18, 19, 20, 21, 22, 23, 24, 8, 25, 26, 27, 28, 29, 30, 31, 32, 33, 34, 35, 36, 37, 38, 39, 40, 4, 41, 21, 42, 14] (fun Q9 f10 w11 =>
  CondK (f10 4)
   (Rd Try.prog (WS.at w11) (sFieldAddr 26 (f10 1) 2) fun t12 =>
   Rd Try.prog (WS.at w11) (sLoad 24 t12) fun t13 =>
   Rd Try.prog (WS.at w11) (sBuiltin .len #[24] 3 [false] [t13]) fun t14 =>
   LoopF [15, 16, 17, 6, 18, 19, 20, 21, 22, 23, 24, 8, 25, 26, 27, 28, 29, 30, 31, 32, 33, 34, 35, 36, 37, 38, 39, 40, 4, 41, 21, 42, 14] (fun Q15 f16 w17 =>
    Rd Try.prog (WS.at w17) (sBin .lss 3 false (f16 14) (f16 13)) fun t18 =>
    CondK t18
     (Rd Try.prog (WS.at w17) (sIndexAddr 24 (f16 12) (f16 14)) fun t19 =>
     Rd Try.prog (WS.at w17) (sLoad 33 t19) fun t20 =>
     Do Try.prog (sAlloc 33) (fun t21 w22 =>
     Do Try.prog (sStore 33 t21 t20) (fun _ w23 =>
     Rd Try.prog (WS.at w23) (sFieldAddr 33 t21 1) fun t24 =>
     Rd Try.prog (WS.at w23) (sLoad 27 t24) fun t25 =>
     Rd Try.prog (WS.at w23) (sBuiltin .len #[27] 3 [false] [t25]) fun t26 =>
     LoopF [22, 23, 24, 8, 25, 26, 27, 28, 29, 30, 31, 32, 33, 34, 35, 36, 37, 38, 39, 40, 4, 41, 21] (fun Q27 f28 w29 =>
      Rd Try.prog (WS.at w29) (sBin .lss 3 false (f28 21) (f28 20)) fun t30 =>
      CondK t30
       (Join (fun K31 =>
       Rd Try.prog (WS.at w29) (sIndexAddr 27 (f28 19) (f28 21)) fun t34 =>
       Rd Try.prog (WS.at w29) (sLoad 3 t34) fun t35 =>
       Rd Try.prog (WS.at w29) (sFieldAddr 33 (f28 6) 0) fun t36 =>
       Rd Try.prog (WS.at w29) (sLoad 3 t36) fun t37 =>
       Rd Try.prog (WS.at w29) (sIndexAddr 163 (f28 3) t37) fun t38 =>
       Rd Try.prog (WS.at w29) (sLoad 4 t38) fun t39 =>
       GuardK t39 true (fun k w' => k t35 w') (fun t40 w41 =>
       GuardK t39 true (fun k w' => Rd Try.prog (WS.at w41) (sBin .geq 3 true t40 (.int .i64 0)) fun v => k v w') (fun t42 w43 =>
       Rd Try.prog (WS.at w43) (sPick t39 t42 (.bool false)) fun t44 =>
       GuardK t44 true (fun k w' => k t35 w') (fun t45 w46 =>
       GuardK t44 true (fun k w' => Rd Try.prog (WS.at w46) (sIndexAddr 163 (f28 3) t45) fun v => k v w') (fun t47 w48 =>
       GuardK t44 true (fun k w' => Rd Try.prog (WS.at w48) (sLoad 4 t47) fun v => k v w') (fun t49 w50 =>
       GuardK t44 true (fun k w' => Rd Try.prog (WS.at w50) (sUn .not t49) fun v => k v w') (fun t51 w52 =>
       Rd Try.prog (WS.at w52) (sPick t44 t51 (.bool false)) fun t53 =>
       CondK t53
        (Rd Try.prog (WS.at w52) (sIndexAddr 163 (f28 3) t35) fun t54 =>
        Do Try.prog (sStore 4 t54 (.bool true)) (fun _ w55 =>
        K31 (F.upd (F.upd (F.upd (F.upd (F.upd (F.upd (F.upd (F.upd (F.upd (F.upd (F.upd (F.upd (F.upd (F.upd (F.upd (F.upd (F.upd (F.upd (F.upd (F.upd (F.upd f28 22 t30) 23 t34) 24 t35) 8 t35) 25 t36) 26 t37) 27 t38) 28 t39) 29 t39) 30 t40) 31 t42) 32 t44) 33 t44) 34 t45) 35 t47) 36 t49) 37 t51) 38 t53) 39 t35) 40 t54) 4 (.bool true)) w55) w52)
        (K31 (F.upd (F.upd (F.upd (F.upd (F.upd (F.upd (F.upd (F.upd (F.upd (F.upd (F.upd (F.upd (F.upd (F.upd (F.upd (F.upd (F.upd (F.upd f28 22 t30) 23 t34) 24 t35) 8 t35) 25 t36) 26 t37) 27 t38) 28 t39) 29 t39) 30 t40) 31 t42) 32 t44) 33 t44) 34 t45) 35 t47) 36 t49) 37 t51) 38 t53) w52)) w50) w48) w46) w43) w41) w29) (fun f32 w33 =>
       Rd Try.prog (WS.at w33) (sBin .add 3 true (f32 21) (.int .i64 1)) fun t56 =>
       Q27 .normal (F.upd (F.upd f32 41 t56) 21 t56) w33))
       (Q27 (.exit 4) (F.upd f28 22 t30) w29))
      (blockQ 4 (blockQ 3 (seqQ (fun f57 w58 =>
     Rd Try.prog (WS.at w58) (sBin .add 3 true (f57 14) (.int .i64 1)) fun t59 =>
     Q15 .normal (F.upd (F.upd f57 42 t59) 14 t59) w58) Q15)))
      (F.upd (F.upd (F.upd (F.upd (F.upd (F.upd (F.upd (F.upd f16 15 t18) 16 t19) 17 t20) 6 t21) 18 t24) 19 t25) 20 t26) 21 (.int .i64 0)) w23) w22) w17)
     (Q15 (.exit 2) (F.upd f16 15 t18) w17))
    (blockQ 2 (blockQ 1 Q9))
    (F.upd (F.upd (F.upd (F.upd (F.upd (F.upd f10 10 (f10 4)) 4 (.bool false)) 11 t12) 12 t13) 13 t14) 14 (.int .i64 0)) w11)
   (Q9 (.exit 0) (F.upd f10 10 (f10 4)) w11))
  (blockQ 0 (seqQ (fun f60 w61 =>
 Rd Try.prog (WS.at w61) (sLoad 163 (f60 3)) fun t62 =>
 Do Try.prog (sStore 163 (f60 2) t62) (fun _ w63 =>
 Rd Try.prog (WS.at w63) (sLoadVar 163 (f60 2)) fun t64 => k t64 w63) w61) (bodyQ Try.prog [.cell 2 163] k)))
  (F.upd (F.upd (F.upd (F.upd (F.upd (initF [v0]) 1 t1) 2 t3) 9 t5) 3 t6) 4 (.bool true)) w8) w7) w4) w2) w
theorem body191 : Try.f191.body = some (bodyOf Try.f191) := by kernel_rfl
theorem same191 (v0 : Value) (k : Value → World → Prop) (w : World) : wpF Try.prog pl191 (bodyOf Try.f191) (bodyQ Try.prog Try.f191.results.toList k) (initF [v0]) w = S191 v0 k w := by kernel_rfl
theorem enter191 {v0 : Value} {k : Value → World → Prop} {w : World} (h : S191 v0 k w) : CallK Try.prog 191 [v0] k w :=
  call_of_wpF (pl := pl191) mixed Try.func191 body191 (by kernel_rfl) (of_decide_eq_true (by kernel_rfl)) (by kernel_rfl) (by kernel_rfl) (Eq.mpr (same191 v0 k w) h)

/-! (loop.example/g00758/impl.Grammar).growing -/
def pl194 : Plans := fun _ => ⟨false, [], .nil⟩
def S194 (v0 : Value) (k : Value → World → Prop) (w : World) : Prop :=
 Do Try.prog (sBox 26 v0) (fun t1 w2 =>
 Do Try.prog (sAlloc 163) (fun t3 w4 =>
 Rd Try.prog (WS.at w4) (sLoad 26 t1) fun t5 =>
 CallK Try.prog 188 [t5] (fun t6 w7 =>
 Do Try.prog (sAlloc 163) (fun t8 w9 =>
 Do Try.prog (sStore 163 t8 t6) (fun _ w10 =>
 Rd Try.prog (WS.at w10) (sLoad 26 t1) fun t11 =>
 Rd Try.prog (WS.at w10) (sMakeFunc (.func 275) [] [t8]) fun t12 =>
 CallK Try.prog 269 [t11, t12] (fun t13 w14 =>
 Do Try.prog (sStore 163 t3 t13) (fun _ w15 =>
 Rd Try.prog (WS.at w15) (sLoadVar 163 t3) fun t16 => k t16 w15) w14) w10) w9) w7) w4) w2) w
theorem body194 : Try.f194.body = some (bodyOf Try.f194) := by kernel_rfl
theorem same194 (v0 : Value) (k : Value → World → Prop) (w : World) : wpF Try.prog pl194 (bodyOf Try.f194) (bodyQ Try.prog Try.f194.results.toList k) (initF [v0]) w = S194 v0 k w := by kernel_rfl
theorem enter194 {v0 : Value} {k : Value → World → Prop} {w : World} (h : S194 v0 k w) : CallK Try.prog 194 [v0] k w :=
  call_of_wpF (pl := pl194) mixed Try.func194 body194 (by kernel_rfl) (of_decide_eq_true (by kernel_rfl)) (by kernel_rfl) (by kernel_rfl) (Eq.mpr (same194 v0 k w) h)

/-! (loop.example/g00758/impl.Grammar).closed -/
def pl269 : Plans := fun _ => ⟨false, [], .nil⟩
def S269 (v0 v1 : Value) (k : Value → World → Prop) (w : World) : Prop :=
 Do Try.prog (sBox 26 v0) (fun t1 w2 =>
 Do Try.prog (sAlloc 163) (fun t3 w4 =>
 Rd Try.prog (WS.at w4) (sBuild 163 []) fun t5 =>
 Do Try.prog (sAlloc 163) (fun t6 w7 =>
 Do Try.prog (sStore 163 t6 t5) (fun _ w8 =>
 LoopF [10, 6, 11, 12, 13, 14, 15, 16, 17, 8, 18, 19, 20, 21, 22, 23, 24, 25, 26, 27, 28, 29, 30, 31, 6, 32, 14] (fun Q9 f10 w11 =>
  CondK (f10 6)
   (Rd Try.prog (WS.at w11) (sFieldAddr 26 (f10 2) 2) fun t12 =>
   Rd Try.prog (WS.at w11) (sLoad 24 t12) fun t13 =>
   Rd Try.prog (WS.at w11) (sBuiltin .len #[24] 3 [false] [t13]) fun t14 =>
   LoopF [15, 16, 17, 8, 18, 19, 20, 21, 22, 23, 24, 25, 26, 27, 28, 29, 30, 31, 6, 32, 14] (fun Q15 f16 w17 =>
    Rd Try.prog (WS.at w17) (sBin .lss 3 false (f16 14) (f16 13)) fun t18 =>
    CondK t18
     (Join (fun K19 =>
     Rd Try.prog (WS.at w17) (sIndexAddr 24 (f16 12) (f16 14)) fun t22 =>
     Rd Try.prog (WS.at w17) (sLoad 33 t22) fun t23 =>
     Do Try.prog (sAlloc 33) (fun t24 w25 =>
     Do Try.prog (sStore 33 t24 t23) (fun _ w26 =>
     Rd Try.prog (WS.at w26) (sFieldAddr 33 t24 0) fun t27 =>
     Rd Try.prog (WS.at w26) (sLoad 3 t27) fun t28 =>
     Rd Try.prog (WS.at w26) (sIndexAddr 163 (f16 5) t28) fun t29 =>
     Rd Try.prog (WS.at w26) (sLoad 4 t29) fun t30 =>
     Rd Try.prog (WS.at w26) (sUn .not t30) fun t31 =>
     GuardK t31 true (fun k w' => k (f16 1) w') (fun t32 w33 =>
     GuardK t31 true (fun k w' => Rd Try.prog (WS.at w33) (sLoad 33 t24) fun v => k v w') (fun t34 w35 =>
     GuardK t31 true (fun k w' => Rd Try.prog (WS.at w35) (sLoad 163 (f16 5)) fun v => k v w') (fun t36 w37 =>
     GuardK t31 true (fun k w' => Do Try.prog (sCallV t32 [t34, t36] 4) k w') (fun t38 w39 =>
     Rd Try.prog (WS.at w39) (sPick t31 t38 (.bool false)) fun t40 =>
     CondK t40
      (Rd Try.prog (WS.at w39) (sFieldAddr 33 t24 0) fun t41 =>
      Rd Try.prog (WS.at w39) (sLoad 3 t41) fun t42 =>
      Rd Try.prog (WS.at w39) (sIndexAddr 163 (f16 5) t42) fun t43 =>
      Do Try.prog (sStore 4 t43 (.bool true)) (fun _ w44 =>
      K19 (F.upd (F.upd (F.upd (F.upd (F.upd (F.upd (F.upd (F.upd (F.upd (F.upd (F.upd (F.upd (F.upd (F.upd (F.upd (F.upd (F.upd (F.upd (F.upd f16 15 t18) 16 t22) 17 t23) 8 t24) 18 t27) 19 t28) 20 t29) 21 t30) 22 t31) 23 t31) 24 t32) 25 t34) 26 t36) 27 t38) 28 t40) 29 t41) 30 t42) 31 t43) 6 (.bool true)) w44) w39)
      (K19 (F.upd (F.upd (F.upd (F.upd (F.upd (F.upd (F.upd (F.upd (F.upd (F.upd (F.upd (F.upd (F.upd (F.upd (F.upd f16 15 t18) 16 t22) 17 t23) 8 t24) 18 t27) 19 t28) 20 t29) 21 t30) 22 t31) 23 t31) 24 t32) 25 t34) 26 t36) 27 t38) 28 t40) w39)) w37) w35) w33) w26) w25) w17) (fun f20 w21 =>
     Rd Try.prog (WS.at w21) (sBin .add 3 true (f20 14) (.int .i64 1)) fun t45 =>
     Q15 .normal (F.upd (F.upd f20 32 t45) 14 t45) w21))
     (Q15 (.exit 2) (F.upd f16 15 t18) w17))
    (blockQ 2 (blockQ 1 Q9))
    (F.upd (F.upd (F.upd (F.upd (F.upd (F.upd f10 10 (f10 6)) 6 (.bool false)) 11 t12) 12 t13) 13 t14) 14 (.int .i64 0)) w11)
   (Q9 (.exit 0) (F.upd f10 10 (f10 6)) w11))
  (blockQ 0 (seqQ (fun f46 w47 =>
 Rd Try.prog (WS.at w47) (sLoad 163 (f46 5)) fun t48 =>
 Do Try.prog (sStore 163 (f46 4) t48) (fun _ w49 =>
 Rd Try.prog (WS.at w49) (sLoadVar 163 (f46 4)) fun t50 => k t50 w49) w47) (bodyQ Try.prog [.cell 4 163] k)))
  (F.upd (F.upd (F.upd (F.upd (F.upd (initF [v0, v1]) 2 t1) 4 t3) 9 t5) 5 t6) 6 (.bool true)) w8) w7) w4) w2) w
theorem body269 : Try.f269.body = some (bodyOf Try.f269) := by kernel_rfl
theorem same269 (v0 v1 : Value) (k : Value → World → Prop) (w : World) : wpF Try.prog pl269 (bodyOf Try.f269) (bodyQ Try.prog Try.f269.results.toList k) (initF [v0, v1]) w = S269 v0 v1 k w := by kernel_rfl
theorem enter269 {v0 v1 : Value} {k : Value → World → Prop} {w : World} (h : S269 v0 v1 k w) : CallK Try.prog 269 [v0, v1] k w :=
  call_of_wpF (pl := pl269) mixed Try.func269 body269 (by kernel_rfl) (of_decide_eq_true (by kernel_rfl)) (by kernel_rfl) (by kernel_rfl) (Eq.mpr (same269 v0 v1 k w) h)

/-! (loop.example/g00758/impl.Grammar).productive$1 -/
def pl270 : Plans := fun _ => ⟨false, [], .nil⟩
def S270 (v0 v1 : Value) (k : Value → World → Prop) (w : World) : Prop :=
 Do Try.prog (sBox 33 v0) (fun t1 w2 =>
 Do Try.prog (sBox 163 v1) (fun t3 w4 =>
 Rd Try.prog (WS.at w4) (sFieldAddr 33 t1 1) fun t5 =>
 Rd Try.prog (WS.at w4) (sLoad 27 t5) fun t6 =>
 Rd Try.prog (WS.at w4) (sMakeFunc (.func 271) [] [t3]) fun t7 =>
 CallK Try.prog 250 [t6, t7] (fun t8 w9 =>
 Rd Try.prog (WS.at w9) (sUn .not t8) fun t10 =>
 k t10 w9) w4) w2) w
theorem body270 : Try.f270.body = some (bodyOf Try.f270) := by kernel_rfl
theorem same270 (v0 v1 : Value) (k : Value → World → Prop) (w : World) : wpF Try.prog pl270 (bodyOf Try.f270) (bodyQ Try.prog Try.f270.results.toList k) (initF [v0, v1]) w = S270 v0 v1 k w := by kernel_rfl
theorem enter270 {v0 v1 : Value} {k : Value → World → Prop} {w : World} (h : S270 v0 v1 k w) : CallK Try.prog 270 [v0, v1] k w :=
  call_of_wpF (pl := pl270) mixed Try.func270 body270 (by kernel_rfl) (of_decide_eq_true (by kernel_rfl)) (by kernel_rfl) (by kernel_rfl) (Eq.mpr (same270 v0 v1 k w) h)

/-! (loop.example/g00758/impl.Grammar).productive$1$1 -/
def pl271 : Plans := fun _ => ⟨false, [], .nil⟩
def S271 (v0 v1 : Value) (k : Value → World → Prop) (w : World) : Prop :=
 Rd Try.prog (WS.at w) (sBin .geq 3 true v0 (.int .i64 0)) fun t1 =>
 GuardK t1 true (fun k w' => k v0 w') (fun t2 w3 =>
 GuardK t1 true (fun k w' => Rd Try.prog (WS.at w3) (sIndexAddr 163 v1 t2) fun v => k v w') (fun t4 w5 =>
 GuardK t1 true (fun k w' => Rd Try.prog (WS.at w5) (sLoad 4 t4) fun v => k v w') (fun t6 w7 =>
 GuardK t1 true (fun k w' => Rd Try.prog (WS.at w7) (sUn .not t6) fun v => k v w') (fun t8 w9 =>
 Rd Try.prog (WS.at w9) (sPick t1 t8 (.bool false)) fun t10 =>
 k t10 w9) w7) w5) w3) w
theorem body271 : Try.f271.body = some (bodyOf Try.f271) := by kernel_rfl
theorem same271 (v0 v1 : Value) (k : Value → World → Prop) (w : World) : wpF Try.prog pl271 (bodyOf Try.f271) (bodyQ Try.prog Try.f271.results.toList k) (initF [v0, v1]) w = S271 v0 v1 k w := by kernel_rfl
theorem enter271 {v0 v1 : Value} {k : Value → World → Prop} {w : World} (h : S271 v0 v1 k w) : CallK Try.prog 271 [v0, v1] k w :=
  call_of_wpF (pl := pl271) mixed Try.func271 body271 (by kernel_rfl) (of_decide_eq_true (by kernel_rfl)) (by kernel_rfl) (by kernel_rfl) (Eq.mpr (same271 v0 v1 k w) h)

/-! (loop.example/g00758/impl.Grammar).nullable$1 -/
def pl272 : Plans := fun _ => ⟨false, [], .nil⟩
def S272 (v0 v1 : Value) (k : Value → World → Prop) (w : World) : Prop :=
 Do Try.prog (sBox 33 v0) (fun t1 w2 =>
 Do Try.prog (sBox 163 v1) (fun t3 w4 =>
 Rd Try.prog (WS.at w4) (sFieldAddr 33 t1 1) fun t5 =>
 Rd Try.prog (WS.at w4) (sLoad 27 t5) fun t6 =>
 Rd Try.prog (WS.at w4) (sMakeFunc (.func 273) [] [t3]) fun t7 =>
 CallK Try.prog 250 [t6, t7] (fun t8 w9 =>
 Rd Try.prog (WS.at w9) (sUn .not t8) fun t10 =>
 k t10 w9) w4) w2) w
theorem body272 : Try.f272.body = some (bodyOf Try.f272) := by kernel_rfl
theorem same272 (v0 v1 : Value) (k : Value → World → Prop) (w : World) : wpF Try.prog pl272 (bodyOf Try.f272) (bodyQ Try.prog Try.f272.results.toList k) (initF [v0, v1]) w = S272 v0 v1 k w := by kernel_rfl
theorem enter272 {v0 v1 : Value} {k : Value → World → Prop} {w : World} (h : S272 v0 v1 k w) : CallK Try.prog 272 [v0, v1] k w :=
  call_of_wpF (pl := pl272) mixed Try.func272 body272 (by kernel_rfl) (of_decide_eq_true (by kernel_rfl)) (by kernel_rfl) (by kernel_rfl) (Eq.mpr (same272 v0 v1 k w) h)

/-! (loop.example/g00758/impl.Grammar).nullable$1$1 -/
def pl273 : Plans := fun _ => ⟨false, [], .nil⟩
def S273 (v0 v1 : Value) (k : Value → World → Prop) (w : World) : Prop :=
 Rd Try.prog (WS.at w) (sBin .lss 3 true v0 (.int .i64 0)) fun t1 =>
 GuardK t1 false (fun k w' => k v0 w') (fun t2 w3 =>
 GuardK t1 false (fun k w' => Rd Try.prog (WS.at w3) (sIndexAddr 163 v1 t2) fun v => k v w') (fun t4 w5 =>
 GuardK t1 false (fun k w' => Rd Try.prog (WS.at w5) (sLoad 4 t4) fun v => k v w') (fun t6 w7 =>
 GuardK t1 false (fun k w' => Rd Try.prog (WS.at w7) (sUn .not t6) fun v => k v w') (fun t8 w9 =>
 Rd Try.prog (WS.at w9) (sPick t1 (.bool true) t8) fun t10 =>
 k t10 w9) w7) w5) w3) w
theorem body273 : Try.f273.body = some (bodyOf Try.f273) := by kernel_rfl
theorem same273 (v0 v1 : Value) (k : Value → World → Prop) (w : World) : wpF Try.prog pl273 (bodyOf Try.f273) (bodyQ Try.prog Try.f273.results.toList k) (initF [v0, v1]) w = S273 v0 v1 k w := by kernel_rfl
theorem enter273 {v0 v1 : Value} {k : Value → World → Prop} {w : World} (h : S273 v0 v1 k w) : CallK Try.prog 273 [v0, v1] k w :=
  call_of_wpF (pl := pl273) mixed Try.func273 body273 (by kernel_rfl) (of_decide_eq_true (by kernel_rfl)) (by kernel_rfl) (by kernel_rfl) (Eq.mpr (same273 v0 v1 k w) h)

/-! (loop.example/g00758/impl.Grammar).growing$1 -/
def pl275 : Plans := fun _ => ⟨false, [], .nil⟩
def S275 (v0 v1 v2 : Value) (k : Value → World → Prop) (w : World) : Prop :=
 Do Try.prog (sBox 33 v0) (fun t1 w2 =>
 Do Try.prog (sBox 163 v1) (fun t3 w4 =>
 Rd Try.prog (WS.at w4) (sFieldAddr 33 t1 1) fun t5 =>
 Rd Try.prog (WS.at w4) (sLoad 27 t5) fun t6 =>
 Rd Try.prog (WS.at w4) (sMakeFunc (.func 276) [] [v2]) fun t7 =>
 CallK Try.prog 250 [t6, t7] (fun t8 w9 =>
 Rd Try.prog (WS.at w9) (sUn .not t8) fun t10 =>
 GuardK t10 true (fun k w' => Rd Try.prog (WS.at w9) (sFieldAddr 33 t1 1) fun v => k v w') (fun t11 w12 =>
 GuardK t10 true (fun k w' => Rd Try.prog (WS.at w12) (sLoad 27 t11) fun v => k v w') (fun t13 w14 =>
 GuardK t10 true (fun k w' => Rd Try.prog (WS.at w14) (sMakeFunc (.func 277) [] [t3]) fun v => k v w') (fun t15 w16 =>
 GuardK t10 true (fun k w' => CallK Try.prog 250 [t13, t15] k w') (fun t17 w18 =>
 Rd Try.prog (WS.at w18) (sPick t10 t17 (.bool false)) fun t19 =>
 k t19 w18) w16) w14) w12) w9) w4) w2) w
theorem body275 : Try.f275.body = some (bodyOf Try.f275) := by kernel_rfl
theorem same275 (v0 v1 v2 : Value) (k : Value → World → Prop) (w : World) : wpF Try.prog pl275 (bodyOf Try.f275) (bodyQ Try.prog Try.f275.results.toList k) (initF [v0, v1, v2]) w = S275 v0 v1 v2 k w := by kernel_rfl
theorem enter275 {v0 v1 v2 : Value} {k : Value → World → Prop} {w : World} (h : S275 v0 v1 v2 k w) : CallK Try.prog 275 [v0, v1, v2] k w :=
  call_of_wpF (pl := pl275) mixed Try.func275 body275 (by kernel_rfl) (of_decide_eq_true (by kernel_rfl)) (by kernel_rfl) (by kernel_rfl) (Eq.mpr (same275 v0 v1 v2 k w) h)

/-! (loop.example/g00758/impl.Grammar).growing$1$1 -/
def pl276 : Plans := fun _ => ⟨false, [], .nil⟩
def S276 (v0 v1 : Value) (k : Value → World → Prop) (w : World) : Prop :=
 Rd Try.prog (WS.at w) (sBin .geq 3 true v0 (.int .i64 0)) fun t1 =>
 GuardK t1 true (fun k w' => k v0 w') (fun t2 w3 =>
 GuardK t1 true (fun k w' => Rd Try.prog (WS.at w3) (sIndexAddr 163 v1 t2) fun v => k v w') (fun t4 w5 =>
 GuardK t1 true (fun k w' => Rd Try.prog (WS.at w5) (sLoad 4 t4) fun v => k v w') (fun t6 w7 =>
 GuardK t1 true (fun k w' => Rd Try.prog (WS.at w7) (sUn .not t6) fun v => k v w') (fun t8 w9 =>
 Rd Try.prog (WS.at w9) (sPick t1 t8 (.bool false)) fun t10 =>
 k t10 w9) w7) w5) w3) w
theorem body276 : Try.f276.body = some (bodyOf Try.f276) := by kernel_rfl
theorem same276 (v0 v1 : Value) (k : Value → World → Prop) (w : World) : wpF Try.prog pl276 (bodyOf Try.f276) (bodyQ Try.prog Try.f276.results.toList k) (initF [v0, v1]) w = S276 v0 v1 k w := by kernel_rfl
theorem enter276 {v0 v1 : Value} {k : Value → World → Prop} {w : World} (h : S276 v0 v1 k w) : CallK Try.prog 276 [v0, v1] k w :=
  call_of_wpF (pl := pl276) mixed Try.func276 body276 (by kernel_rfl) (of_decide_eq_true (by kernel_rfl)) (by kernel_rfl) (by kernel_rfl) (Eq.mpr (same276 v0 v1 k w) h)

/-! (loop.example/g00758/impl.Grammar).growing$1$2 -/
def pl277 : Plans := fun _ => ⟨false, [], .nil⟩
def S277 (v0 v1 : Value) (k : Value → World → Prop) (w : World) : Prop :=
 Rd Try.prog (WS.at w) (sBin .lss 3 true v0 (.int .i64 0)) fun t1 =>
 GuardK t1 false (fun k w' => k v0 w') (fun t2 w3 =>
 GuardK t1 false (fun k w' => Rd Try.prog (WS.at w3) (sIndexAddr 163 v1 t2) fun v => k v w') (fun t4 w5 =>
 GuardK t1 false (fun k w' => Rd Try.prog (WS.at w5) (sLoad 4 t4) fun v => k v w') (fun t6 w7 =>
 Rd Try.prog (WS.at w7) (sPick t1 (.bool true) t6) fun t8 =>
 k t8 w7) w5) w3) w
theorem body277 : Try.f277.body = some (bodyOf Try.f277) := by kernel_rfl
theorem same277 (v0 v1 : Value) (k : Value → World → Prop) (w : World) : wpF Try.prog pl277 (bodyOf Try.f277) (bodyQ Try.prog Try.f277.results.toList k) (initF [v0, v1]) w = S277 v0 v1 k w := by kernel_rfl
theorem enter277 {v0 v1 : Value} {k : Value → World → Prop} {w : World} (h : S277 v0 v1 k w) : CallK Try.prog 277 [v0, v1] k w :=
  call_of_wpF (pl := pl277) mixed Try.func277 body277 (by kernel_rfl) (of_decide_eq_true (by kernel_rfl)) (by kernel_rfl) (by kernel_rfl) (Eq.mpr (same277 v0 v1 k w) h)

/-! loop.example/g00758/impl.LeastLong -/
def pl58 : Plans := fun _ => ⟨false, [], .nil⟩
def S58 (v0 : Value) (k : Value → World → Prop) (w : World) : Prop :=
 Do Try.prog (sBox 26 v0) (fun t1 w2 =>
 Rd Try.prog (WS.at w2) (sLoad 26 t1) fun t3 =>
 CallK Try.prog 148 [t3] (fun t4 w5 =>
 Rd Try.prog (WS.at w5) (sUn .not t4) fun t6 =>
 CondK t6
  (k (.tuple #[(.int .i64 0), (.bool false)]) w5)
  (Rd Try.prog (WS.at w5) (sLoad 26 t1) fun t7 =>
  CallK Try.prog 186 [t7] (fun t8 w9 =>
  Do Try.prog (sAlloc 160) (fun t10 w11 =>
  Do Try.prog (sStore 160 t10 t8) (fun _ w12 =>
  Rd Try.prog (WS.at w12) (sIndexAddr 160 t10 (.int .i64 0)) fun t13 =>
  Rd Try.prog (WS.at w12) (sLoad 3 t13) fun t14 =>
  Rd Try.prog (WS.at w12) (sBin .lss 3 true t14 (.int .i64 0)) fun t15 =>
  CondK t15
   (k (.tuple #[(.int .i64 0), (.bool false)]) w12)
   (Rd Try.prog (WS.at w12) (sIndexAddr 160 t10 (.int .i64 0)) fun t16 =>
   Rd Try.prog (WS.at w12) (sLoad 3 t16) fun t17 =>
   k (.tuple #[t17, (.bool true)]) w12)) w11) w9) w5)) w2) w
theorem body58 : Try.f58.body = some (bodyOf Try.f58) := by kernel_rfl
theorem same58 (v0 : Value) (k : Value → World → Prop) (w : World) : wpF Try.prog pl58 (bodyOf Try.f58) (bodyQ Try.prog Try.f58.results.toList k) (initF [v0]) w = S58 v0 k w := by kernel_rfl
theorem enter58 {v0 : Value} {k : Value → World → Prop} {w : World} (h : S58 v0 k w) : CallK Try.prog 58 [v0] k w :=
  call_of_wpF (pl := pl58) mixed Try.func58 body58 (by kernel_rfl) (of_decide_eq_true (by kernel_rfl)) (by kernel_rfl) (by kernel_rfl) (Eq.mpr (same58 v0 k w) h)

/-! loop.example/g00758/impl.ProductiveOf -/
def pl60 : Plans := fun _ => ⟨false, [], .nil⟩
def S60 (v0 : Value) (k : Value → World → Prop) (w : World) : Prop :=
 Do Try.prog (sBox 26 v0) (fun t1 w2 =>
 Rd Try.prog (WS.at w2) (sLoad 26 t1) fun t3 =>
 CallK Try.prog 148 [t3] (fun t4 w5 =>
 Rd Try.prog (WS.at w5) (sUn .not t4) fun t6 =>
 CondK t6
  (k (.tuple #[(.slice none 0 0), (.bool false)]) w5)
  (Rd Try.prog (WS.at w5) (sLoad 26 t1) fun t7 =>
  CallK Try.prog 188 [t7] (fun t8 w9 =>
  CallK Try.prog 187 [t8] (fun t10 w11 =>
  k (.tuple #[t10, (.bool true)]) w11) w9) w5)) w2) w
theorem body60 : Try.f60.body = some (bodyOf Try.f60) := by kernel_rfl
theorem same60 (v0 : Value) (k : Value → World → Prop) (w : World) : wpF Try.prog pl60 (bodyOf Try.f60) (bodyQ Try.prog Try.f60.results.toList k) (initF [v0]) w = S60 v0 k w := by kernel_rfl
theorem enter60 {v0 : Value} {k : Value → World → Prop} {w : World} (h : S60 v0 k w) : CallK Try.prog 60 [v0] k w :=
  call_of_wpF (pl := pl60) mixed Try.func60 body60 (by kernel_rfl) (of_decide_eq_true (by kernel_rfl)) (by kernel_rfl) (by kernel_rfl) (Eq.mpr (same60 v0 k w) h)

/-! loop.example/g00758/impl.NullableOf -/
def pl61 : Plans := fun _ => ⟨false, [], .nil⟩
def S61 (v0 : Value) (k : Value → World → Prop) (w : World) : Prop :=
 Do Try.prog (sBox 26 v0) (fun t1 w2 =>
 Rd Try.prog (WS.at w2) (sLoad 26 t1) fun t3 =>
 CallK Try.prog 148 [t3] (fun t4 w5 =>
 Rd Try.prog (WS.at w5) (sUn .not t4) fun t6 =>
 CondK t6
  (k (.tuple #[(.slice none 0 0), (.bool false)]) w5)
  (Rd Try.prog (WS.at w5) (sLoad 26 t1) fun t7 =>
  CallK Try.prog 189 [t7] (fun t8 w9 =>
  CallK Try.prog 187 [t8] (fun t10 w11 =>
  k (.tuple #[t10, (.bool true)]) w11) w9) w5)) w2) w
theorem body61 : Try.f61.body = some (bodyOf Try.f61) := by kernel_rfl
theorem same61 (v0 : Value) (k : Value → World → Prop) (w : World) : wpF Try.prog pl61 (bodyOf Try.f61) (bodyQ Try.prog Try.f61.results.toList k) (initF [v0]) w = S61 v0 k w := by kernel_rfl
theorem enter61 {v0 : Value} {k : Value → World → Prop} {w : World} (h : S61 v0 k w) : CallK Try.prog 61 [v0] k w :=
  call_of_wpF (pl := pl61) mixed Try.func61 body61 (by kernel_rfl) (of_decide_eq_true (by kernel_rfl)) (by kernel_rfl) (by kernel_rfl) (Eq.mpr (same61 v0 k w) h)

/-! loop.example/g00758/impl.ReachedOf -/
/-! loop.example/g00758/impl.GrowingOf -/
end Go.Proofs.Ytegcjkhebecgbaa
