/- Texts of this repository put together: ShJ0, ShU4, ShU5, ShU6, ShY1, ShX1, ShX2, ShY2, ShZ1, ShD1, ShE3, ShD2, ShF2, ShF3, ShF4, Bd, ShJ1, ShB3, Sh80, Sh81, ShF5, ShF6, ShB1, ShF7, ShX3, Bj, Bk, ShX5, ShX4, ShX6, ShX7, ShXA, Cd, ShF8, ShF9, ShFA, ShFB, ShFC, E1, Sh83, Sh84. -/
import Derived.Test.YteabbgaffgpegaaKFirstsc
import Derived.Test.YteabbgaffgpegaaKFirstsb
import Derived.Test.YteabbgaffgpegaaProg
import Derived.Test.YteabbgaffgpegaaKFirstsa
import Derived.DeepKeys3
import Derived.WideKeyArr
import Derived.WideMake

set_option linter.unusedVariables false
set_option linter.unusedSimpArgs false
set_option maxRecDepth 100000
namespace Go.Sh
open Go
end Go.Sh
namespace Go.Proofs.Yteabbgaffgpegaa
open Go Go.Sh Go.RowKit

end Go.Proofs.Yteabbgaffgpegaa

namespace Go.Sh
open Go
end Go.Sh
namespace Go.Proofs.Yteabbgaffgpegaa
open Go Go.Sh Go.RowKit
end Go.Proofs.Yteabbgaffgpegaa

namespace Go.Sh
open Go
end Go.Sh
namespace Go.Proofs.Yteabbgaffgpegaa
open Go Go.Sh Go.RowKit
end Go.Proofs.Yteabbgaffgpegaa

namespace Go.Sh
open Go
def cmpI (x y : Int) : Int := if x < y then -1 else if y < x then 1 else 0
def cmpL : List Int → List Int → Int
  | x :: xs, y :: ys => if cmpI x y ≠ 0 then cmpI x y else cmpL xs ys
  | [], [] => 0
  | [], _ :: _ => -1
  | _ :: _, [] => 1
theorem cmpI_lt {x y : Int} : cmpI x y < 0 ↔ x < y := by
  unfold cmpI
  split
  · omega
  · split <;> omega
theorem cmpI_eq {x y : Int} : cmpI x y = 0 ↔ x = y := by
  unfold cmpI
  split
  · omega
  · split <;> omega
structure AtS (w : World) (X : Option Addr) (n c : Nat) (ls : List (List Int)) (ps : Nat → Option Addr × Nat) (i : Nat) : Prop where
  len : n = ls.length - i
  le : n ≤ c
  ptr : 0 < n → X = some (ad X)
  cell : ∀ j, j < n → w.cell? ((ad X).add j) = some (.slice (ps (i + j)).1 (rgt ls (i + j)).length (ps (i + j)).2)
theorem AtS.gr {w w' : World} {X : Option Addr} {n c i : Nat} {ls : List (List Int)} {ps : Nat → Option Addr × Nat} (h : AtS w X n c ls ps i) (g : Gr w w') : AtS w' X n c ls ps i := ⟨h.len, h.le, h.ptr, fun j hj => g.cell (h.cell j hj)⟩
theorem AtS.first {w : World} {X : Option Addr} {n c i : Nat} {ls : List (List Int)} {ps : Nat → Option Addr × Nat} (h : AtS w X n c ls ps i) (h0 : 0 < n) : w.cell? ((ad X).add 0) = some (.slice (ps i).1 (rgt ls i).length (ps i).2) := h.cell 0 h0
theorem AtS.next {w : World} {X : Option Addr} {n c i : Nat} {ls : List (List Int)} {ps : Nat → Option Addr × Nat} (h : AtS w X n c ls ps i) (h0 : 0 < n) : AtS w (sub X 1 c 1) (n - 1) (c - 1) ls ps (i + 1) := by
  have hl := h.len
  have hle := h.le
  have hX := h.ptr h0
  refine ⟨by omega, by omega, fun h1 => ?_, fun j hj => ?_⟩
  · unfold Sh.sub
    rw [if_neg (by omega), hX]
    rfl
  · have := h.cell (j + 1) (by omega)
    unfold Sh.sub
    rw [if_neg (by omega), hX]
    show w.cell? (((ad X).add (1 * 1)).add j) = _
    rw [zxc_, show 1 * 1 + j = j + 1 from by omega, this, show i + (j + 1) = i + 1 + j from by omega]
theorem AtS.of {w : World} {e1 e2 B c : Nat} {X : Option Addr} {ls : List (List Int)} {ps : Nat → Option Addr × Nat} (o : OwnSS e1 e2 w B X c ls ps) : AtS w X ls.length c ls ps 0 := by
  refine ⟨by omega, ?_, fun h => o.ptr h, fun j hj => ?_⟩
  · obtain ⟨⟨cells, hr, hc⟩, _⟩ := o
    exact hr.cap.1
  · rw [Nat.zero_add]
    exact o.cell hj
end Go.Sh
namespace Go.Proofs.Yteabbgaffgpegaa
open Go Go.Sh Go.RowKit
end Go.Proofs.Yteabbgaffgpegaa

namespace Go.Sh
open Go
def ltL (a b : List Int) : Prop := cmpL a b < 0
theorem cmpI_anti (x y : Int) : cmpI y x = - cmpI x y := by
  unfold cmpI
  by_cases h1 : x < y
  · rw [if_pos h1, if_neg (by omega), if_pos h1]
    rfl
  · by_cases h2 : y < x
    · rw [if_pos h2, if_neg h1, if_pos h2]
    · rw [if_neg h2, if_neg h1, if_neg h1, if_neg h2]
      rfl
theorem zxm_ : ∀ a b : List Int, cmpL b a = - cmpL a b := by
  intro a
  induction a with
  | nil => intro b; cases b <;> rfl
  | cons x a ih =>
    intro b
    cases b with
    | nil => rfl
    | cons y b =>
      rw [cmpL, cmpL, cmpI_anti x y]
      by_cases h : cmpI x y = 0
      · rw [if_neg (fun e => e (by omega)), if_neg (fun e => e h)]
        exact ih b
      · rw [if_pos h, if_pos (by omega)]
theorem cmpL_zero : ∀ {a b : List Int}, cmpL a b = 0 → a = b := by
  intro a
  induction a with
  | nil => intro b h; cases b with
    | nil => rfl
    | cons y b => cases h
  | cons x a ih =>
    intro b h
    cases b with
    | nil => cases h
    | cons y b =>
      rw [cmpL] at h
      by_cases e : cmpI x y = 0
      · rw [if_neg (fun h => h e)] at h
        rw [cmpI_eq.1 e, ih h]
      · rw [if_pos e] at h
        exact absurd h e
theorem zpe_ (a : List Int) : ¬ ltL a a := by
  intro h
  have := zxm_ a a
  unfold ltL at h
  omega
theorem ltL_tri (a b : List Int) : ltL a b ∨ a = b ∨ ltL b a := by
  unfold ltL
  have := zxm_ a b
  by_cases h : cmpL a b = 0
  · exact .inr (.inl (cmpL_zero h))
  · omega
theorem ltL_cons {x y : Int} {a b : List Int} : ltL (x :: a) (y :: b) ↔ x < y ∨ (x = y ∧ ltL a b) := by
  unfold ltL
  rw [cmpL]
  by_cases e : cmpI x y = 0
  · rw [if_neg (fun h => h e)]
    have := cmpI_eq.1 e
    omega
  · rw [if_pos e, cmpI_lt]
    have : ¬ x = y := fun h => e (cmpI_eq.2 h)
    omega
theorem zvf_ : ∀ {a b c : List Int}, ltL a b → ltL b c → ltL a c := by
  intro a
  induction a with
  | nil =>
    intro b c h1 h2
    cases c with
    | nil =>
      cases b with
      | nil => exact h2
      | cons y b => exact absurd h2 (by unfold ltL; show ¬ ((1 : Int) < 0); omega)
    | cons z c => show (-1 : Int) < 0; omega
  | cons x a ih =>
    intro b c h1 h2
    cases b with
    | nil => exact absurd h1 (by unfold ltL; show ¬ ((1 : Int) < 0); omega)
    | cons y b =>
      cases c with
      | nil => exact absurd h2 (by unfold ltL; show ¬ ((1 : Int) < 0); omega)
      | cons z c =>
        rw [ltL_cons] at h1 h2 ⊢
        rcases h1 with h1 | ⟨h1, h1'⟩
        · rcases h2 with h2 | ⟨h2, h2'⟩
          · exact .inl (by omega)
          · exact .inl (by omega)
        · rcases h2 with h2 | ⟨h2, h2'⟩
          · exact .inl (by omega)
          · exact .inr ⟨by omega, ih h1' h2'⟩
abbrev Rise (l : List (List Int)) : Prop := l.Pairwise ltL
theorem zvj_ : ∀ {l' l : List (List Int)}, Rise l → Rise l' → (∀ x ∈ l, x ∈ l') → l.Sublist l' := by
  intro l'
  induction l' with
  | nil =>
    intro l _ _ h
    cases l with
    | nil => exact List.Sublist.slnil
    | cons a l => exact absurd (h a (List.mem_cons_self ..)) (by simp)
  | cons b s ih =>
    intro l hl hl' h
    cases l with
    | nil => exact List.nil_sublist _
    | cons a t =>
      have hl1 := List.pairwise_cons.1 hl
      have hl2 := List.pairwise_cons.1 hl'
      rcases List.mem_cons.1 (h a (List.mem_cons_self ..)) with e | e
      · subst e
        refine List.Sublist.cons_cons _ (ih hl1.2 hl2.2 fun x hx => ?_)
        rcases List.mem_cons.1 (h x (List.mem_cons_of_mem _ hx)) with e | e
        · subst e
          exact absurd (hl1.1 _ hx) (zpe_ _)
        · exact e
      · refine List.Sublist.cons _ (ih hl hl2.2 fun x hx => ?_)
        rcases List.mem_cons.1 (h x hx) with e' | e'
        · subst e'
          rcases List.mem_cons.1 hx with e2 | e2
          · subst e2
            exact e
          · exact absurd (zvf_ (hl1.1 _ e2) (hl2.1 _ e)) (zpe_ _)
        · exact e'
structure Firsts (M : Nat) (S : List Int → Prop) (l : List (List Int)) : Prop where
  rise : Rise l
  mem : ∀ x ∈ l, S x
  len : l.length ≤ M
  all : ∀ x, S x → x ∈ l ∨ (l.length = M ∧ ∀ y ∈ l, ltL y x)
theorem Firsts.sub {M : Nat} {S : List Int → Prop} {l l' : List (List Int)} (h : Firsts M S l) (h' : Firsts M S l') : ∀ x ∈ l, x ∈ l' := by
  intro x hx
  rcases h'.all x (h.mem x hx) with e | ⟨e1, e2⟩
  · exact e
  · exfalso
    have hs : l'.Sublist l := zvj_ h'.rise h.rise fun y hy => by
      rcases h.all y (h'.mem y hy) with e | ⟨_, e3⟩
      · exact e
      · exact absurd (zvf_ (e2 y hy) (e3 x hx)) (zpe_ _)
    have := hs.eq_of_length_le (by rw [e1]; exact h.len)
    subst this
    exact zpe_ _ (e2 x hx)
theorem Firsts.nil (M : Nat) {S : List Int → Prop} (h : ∀ x, ¬ S x) : Firsts M S [] := ⟨List.Pairwise.nil, fun x hx => by simp at hx, Nat.zero_le _, fun x hx => absurd hx (h x)⟩
theorem Firsts.zero (S : List Int → Prop) : Firsts 0 S [] := ⟨List.Pairwise.nil, fun x hx => by simp at hx, Nat.zero_le _, fun x hx => .inr ⟨rfl, fun y hy => by simp at hy⟩⟩
theorem Firsts.congr {M : Nat} {S S' : List Int → Prop} {l : List (List Int)} (h : Firsts M S l) (e : ∀ x, S' x ↔ S x) : Firsts M S' l := ⟨h.rise, fun x hx => (e x).2 (h.mem x hx), h.len, fun x hx => h.all x ((e x).1 hx)⟩
def Under (M : Nat) (S : List Int → Prop) (x : List Int) : Prop := ∃ ys, Rise ys ∧ ys.length = M ∧ ∀ y ∈ ys, S y ∧ ltL y x
theorem Firsts.more {M : Nat} {S S' : List Int → Prop} {l : List (List Int)} (h : Firsts M S l) (h1 : ∀ x, S x → S' x) (h2 : ∀ x, S' x → S x ∨ Under M S x) : Firsts M S' l := by
  refine ⟨h.rise, fun x hx => h1 x (h.mem x hx), h.len, fun x hx => ?_⟩
  rcases h2 x hx with e | ⟨ys, hy1, hy2, hy3⟩
  · exact h.all x e
  by_cases hxl : x ∈ l
  · exact .inl hxl
  have key : ∀ z ∈ l, ltL z x := fun z hz => by
    rcases ltL_tri z x with e | e | e
    · exact e
    · subst e
      exact absurd hz hxl
    · exfalso
      have hs : ys.Sublist l := zvj_ hy1 h.rise fun y hy => by
        rcases h.all y (hy3 y hy).1 with e1 | ⟨_, e1⟩
        · exact e1
        · exact absurd (zvf_ (e1 z hz) (zvf_ (hy3 y hy).2 e)) (zpe_ _)
      have := hs.eq_of_length_le (by rw [hy2]; exact h.len)
      subst this
      exact absurd (zvf_ (hy3 z hz).2 e) (zpe_ _)
  refine .inr ⟨?_, key⟩
  by_cases hlt : l.length = M
  · exact hlt
  · exfalso
    have hs : ys.Sublist l := zvj_ hy1 h.rise fun y hy => by
      rcases h.all y (hy3 y hy).1 with e1 | ⟨e1, _⟩
      · exact e1
      · exact absurd e1 hlt
    have := hs.length_le
    have := h.len
    omega
theorem Firsts.of_rise (M : Nat) {l : List (List Int)} (h : Rise l) : Firsts M (fun x => x ∈ l) (l.take M) := by
  refine ⟨h.sublist (List.take_sublist _ _), fun x hx => (List.take_sublist _ _).subset hx, by rw [List.length_take]; omega, fun x hx => ?_⟩
  rw [← List.take_append_drop M l] at hx
  rcases List.mem_append.1 hx with e | e
  · exact .inl e
  · refine .inr ⟨?_, fun y hy => ?_⟩
    · rw [List.length_take]
      have : 0 < (l.drop M).length := List.length_pos_of_mem e
      rw [List.length_drop] at this
      omega
    · have h' := h
      rw [← List.take_append_drop M l] at h'
      exact (List.pairwise_append.1 h').2.2 y hy x e
theorem Firsts.take {M m : Nat} {S : List Int → Prop} {l : List (List Int)} (h : Firsts M S l) (hm : m ≤ M) : Firsts m S (l.take m) := by
  refine (Firsts.of_rise m h.rise).more h.mem fun x hx => ?_
  rcases h.all x hx with e | ⟨e1, e2⟩
  · exact .inl e
  · refine .inr ⟨l.take m, h.rise.sublist (List.take_sublist _ _), by rw [List.length_take]; omega, fun y hy => ?_⟩
    have := (List.take_sublist _ _).subset hy
    exact ⟨this, e2 y this⟩
theorem Firsts.add {M : Nat} {S : List Int → Prop} {pre post : List (List Int)} {x : List Int} (h : Firsts M S (pre ++ post)) (h1 : ∀ y ∈ pre, ltL y x) (h2 : ∀ y ∈ post, ltL x y) : Firsts M (fun z => S z ∨ z = x) (if M ≤ pre.length then pre ++ post else (pre ++ x :: post).take M) := by
  have hr : Rise (pre ++ x :: post) := by
    have := List.pairwise_append.1 h.rise
    refine List.pairwise_append.2 ⟨this.1, List.pairwise_cons.2 ⟨h2, this.2.1⟩, fun a ha b hb => ?_⟩
    rcases List.mem_cons.1 hb with e | e
    · subst e
      exact h1 a ha
    · exact this.2.2 a ha b e
  have hlen := h.len
  rw [List.length_append] at hlen
  have hf := Firsts.of_rise M hr
  have he : (pre ++ x :: post).take M = if M ≤ pre.length then pre ++ post else (pre ++ x :: post).take M := by
    split
    · rw [List.take_append_of_le_length (by omega), List.take_of_length_le (by omega)]
      have : post = [] := List.eq_nil_of_length_eq_zero (by omega)
      rw [this, List.append_nil]
    · rfl
  rw [← he]
  refine hf.more (fun z hz => ?_) fun z hz => ?_
  · rcases List.mem_append.1 hz with e | e
    · exact .inl (h.mem z (List.mem_append_left _ e))
    · rcases List.mem_cons.1 e with e | e
      · exact .inr e
      · exact .inl (h.mem z (List.mem_append_right _ e))
  · have hsub : ∀ y ∈ pre ++ post, y ∈ pre ++ x :: post := fun y hy => by
      rcases List.mem_append.1 hy with e | e
      · exact List.mem_append_left _ e
      · exact List.mem_append_right _ (List.mem_cons_of_mem _ e)
    rcases hz with hz | hz
    · rcases h.all z hz with e | ⟨e1, e2⟩
      · exact .inl (hsub z e)
      · exact .inr ⟨pre ++ post, h.rise, e1, fun y hy => ⟨hsub y hy, e2 y hy⟩⟩
    · subst hz
      exact .inl (List.mem_append_right _ (List.mem_cons_self ..))
theorem Firsts.append {M : Nat} {S S' : List Int → Prop} {l l' : List (List Int)} (h : Firsts M S l) (h' : Firsts (M - l.length) S' l') (hl : ∀ x y, S x → S' y → ltL x y) : Firsts M (fun z => S z ∨ S' z) (l ++ l') := by
  have h1 := h.len
  have h2 := h'.len
  refine ⟨List.pairwise_append.2 ⟨h.rise, h'.rise, fun a ha b hb => hl a b (h.mem a ha) (h'.mem b hb)⟩, fun x hx => ?_, by rw [List.length_append]; omega, fun x hx => ?_⟩
  · rcases List.mem_append.1 hx with e | e
    · exact .inl (h.mem x e)
    · exact .inr (h'.mem x e)
  · rcases hx with hx | hx
    · rcases h.all x hx with e | ⟨e1, e2⟩
      · exact .inl (List.mem_append_left _ e)
      · have : l' = [] := List.eq_nil_of_length_eq_zero (by omega)
        subst this
        rw [List.append_nil]
        exact .inr ⟨e1, e2⟩
    · rcases h'.all x hx with e | ⟨e1, e2⟩
      · exact .inl (List.mem_append_right _ e)
      · refine .inr ⟨by rw [List.length_append]; omega, fun y hy => ?_⟩
        rcases List.mem_append.1 hy with e | e
        · exact hl y x (h.mem y e) hx
        · exact e2 y e
theorem Firsts.map {M : Nat} {S : List Int → Prop} {l : List (List Int)} (h : Firsts M S l) (q : Int) : Firsts M (fun t => ∃ r, S r ∧ t = q :: r) (l.map (q :: ·)) := by
  refine ⟨List.pairwise_map.2 (h.rise.imp fun e => ltL_cons.2 (.inr ⟨rfl, e⟩)), fun x hx => ?_, by rw [List.length_map]; exact h.len, fun x hx => ?_⟩
  · obtain ⟨r, hr, rfl⟩ := List.mem_map.1 hx
    exact ⟨r, h.mem r hr, rfl⟩
  · obtain ⟨r, hr, rfl⟩ := hx
    rcases h.all r hr with e | ⟨e1, e2⟩
    · exact .inl (List.mem_map.2 ⟨r, e, rfl⟩)
    · refine .inr ⟨by rw [List.length_map]; exact e1, fun y hy => ?_⟩
      obtain ⟨y', hy', rfl⟩ := List.mem_map.1 hy
      exact ltL_cons.2 (.inr ⟨rfl, e2 y' hy'⟩)
def sumN (f : Nat → Nat) : Nat → Nat
  | 0 => 0
  | n + 1 => sumN f n + f n
def cntR (c : Nat → Nat → Nat → Nat → Nat) (ws : List Int) : List Int → Nat → Nat → Nat → Nat
  | [], i, j, s => if i = j ∧ s = 0 then 1 else 0
  | x :: xs, i, j, s => if x < 0 then (if i < j ∧ ws.getD i 0 = -1 - x then cntR c ws xs (i + 1) j s else 0)
      else sumN (fun m => sumN (fun k => c x.toNat i (i + m) (k + 1) * cntR c ws xs (i + m) j (s - (k + 1))) s) (j + 1 - i)
def sumR (rs : List RuleL) (p : RuleL → Nat) : Nat := rs.foldl (fun a r => a + p r) 0
def cntT (rs : List RuleL) (ws : List Int) : Nat → Nat → Nat → Nat → Nat → Nat
  | 0, _, _, _, _ => 0
  | f + 1, A, i, j, s => if s = 0 then 0 else sumR rs fun r => if r.1 = (A : Int) then cntR (cntT rs ws f) ws r.2 i j (s - 1) else 0
def cntC (rs : List RuleL) (ws : List Int) (A i j s : Nat) : Nat := cntT rs ws s A i j s
theorem zdf_ {f g : Nat → Nat} : ∀ {n : Nat}, (∀ k, k < n → f k = g k) → sumN f n = sumN g n := by
  intro n
  induction n with
  | zero => intro _; rfl
  | succ n ih =>
    intro h
    rw [sumN, sumN, ih fun k hk => h k (by omega), h n (by omega)]
theorem zwk_ {c c' : Nat → Nat → Nat → Nat → Nat} {ws : List Int} : ∀ {xs : List Int} {i j s : Nat}, (∀ A i j k, k ≤ s → c A i j k = c' A i j k) → cntR c ws xs i j s = cntR c' ws xs i j s := by
  intro xs
  induction xs with
  | nil => intro i j s _; rfl
  | cons x xs ih =>
    intro i j s h
    rw [cntR, cntR]
    split
    · split
      · exact ih h
      · rfl
    · refine zdf_ fun m _ => zdf_ fun k hk => ?_
      rw [h _ _ _ _ (by omega), ih fun A i j k' hk' => h A i j k' (by omega)]
theorem zxk_ {rs : List RuleL} {p q : RuleL → Nat} (h : ∀ r, p r = q r) : sumR rs p = sumR rs q := by
  rw [show p = q from funext h]
theorem cntT_more {rs : List RuleL} {ws : List Int} : ∀ {f g A i j s : Nat}, s ≤ f → s ≤ g → cntT rs ws f A i j s = cntT rs ws g A i j s := by
  intro f
  induction f with
  | zero =>
    intro g A i j s h1 h2
    obtain rfl : s = 0 := by omega
    cases g with
    | zero => rfl
    | succ g => rw [cntT, cntT, if_pos rfl]
  | succ f ih =>
    intro g A i j s h1 h2
    cases g with
    | zero =>
      obtain rfl : s = 0 := by omega
      rw [cntT, cntT, if_pos rfl]
    | succ g =>
      rw [cntT, cntT]
      split
      · rfl
      · refine zxk_ fun r => ?_
        split
        · exact zwk_ fun A i j k hk => ih (by omega) (by omega)
        · rfl
theorem cntC_zero (rs : List RuleL) (ws : List Int) (A i j : Nat) : cntC rs ws A i j 0 = 0 := rfl
theorem zym_ (rs : List RuleL) (ws : List Int) (A i j s : Nat) : cntC rs ws A i j (s + 1) = sumR rs fun r => if r.1 = (A : Int) then cntR (cntC rs ws) ws r.2 i j s else 0 := by
  unfold cntC
  rw [cntT, if_neg (by omega)]
  refine zxk_ fun r => ?_
  split
  · exact zwk_ fun A i j k hk => cntT_more (by omega) (Nat.le_refl _)
  · rfl
theorem Inc.still {α : Type} {f : TS → α → TS} : ∀ {l : List α} {s : TS}, (∀ a ∈ l, ∀ s, Inc s (f s a)) → s.2 = false → (l.foldl f s).2 = false → ∀ a ∈ l, f s a = s := by
  intro l
  induction l with
  | nil => intro s _ _ _ a ha; simp at ha
  | cons b l ih =>
    intro s h hs he a ha
    rw [List.foldl_cons] at he
    have hb : f s b = s := by
      rcases h b (List.mem_cons_self ..) s with e | ⟨e, _⟩
      · exact e
      · exfalso
        rcases Inc.fold (fun c hc => h c (List.mem_cons_of_mem _ hc)) (f s b) with e' | ⟨e', _⟩
        · rw [e', e] at he
          cases he
        · rw [e'] at he
          cases he
    rcases List.mem_cons.1 ha with rfl | ha
    · exact hb
    · rw [hb] at he
      exact ih (fun c hc => h c (List.mem_cons_of_mem _ hc)) hs he a ha
theorem pass_closed {rs : List (Int × List Int)} {w : List Int} {T : Tab} (hr : ∀ r ∈ rs, r.1.toNat < 6) (hw : w.length ≤ 10) (h : (zie_ rs w (T, false)).2 = false) {r : Int × List Int} (hm : r ∈ rs) {i j : Nat} (hij : i ≤ j) (hj : j ≤ w.length) (hf : zxb_ T w r.2 i j = true) : T r.1.toNat i j = true := by
  have h1 := Inc.still (f := ruleT w) (fun r h s => zpm_ (hr r h) hw s) rfl h r hm
  have h2 := Inc.still (f := rowT w r) (l := List.range (w.length + 1)) (s := (T, false)) (fun i hi s => rowT_inc (hr r hm) hw (by have := List.mem_range.1 hi; omega) s) rfl (by
    show (ruleT w (T, false) r).2 = false
    rw [h1]) i (List.mem_range.2 (by omega))
  have h3 := Inc.still (f := stepT w r i) (l := List.range' i (w.length + 1 - i)) (s := (T, false)) (fun j hj s => by
    rw [List.mem_range'_1] at hj
    exact zmm_ (hr r hm) (by omega) (by omega)) rfl (by
    show (rowT w r (T, false) i).2 = false
    rw [h2]) j (List.mem_range'_1.2 ⟨hij, by omega⟩)
  unfold stepT at h3
  cases hT : T r.1.toNat i j
  · rw [if_pos (by simp [hT, hf])] at h3
    have := congrArg Prod.snd h3
    cases this
  · rfl
theorem pass_same {rs : List (Int × List Int)} {w : List Int} {T : Tab} (hr : ∀ r ∈ rs, r.1.toNat < 6) (hw : w.length ≤ 10) (h : (zie_ rs w (T, false)).2 = false) : (zie_ rs w (T, false)).1 = T := by
  rcases zrf_ hr hw (T, false) with e | ⟨e, _⟩
  · rw [e]
  · rw [e] at h
    cases h
theorem span_closed {rs : List (Int × List Int)} {w : List Int} (hr : ∀ r ∈ rs, r.1.toNat < 6) (hw : w.length ≤ 10) {r : Int × List Int} (hm : r ∈ rs) {i j : Nat} (hij : i ≤ j) (hj : j ≤ w.length) (hf : zxb_ (spanT rs w) w r.2 i j = true) : spanT rs w r.1.toNat i j = true := by
  obtain ⟨U, hU⟩ := Span.ex hr hw 726 noTab (by unfold openT; exact Nat.le_trans List.countP_le_length (by simp))
  rw [← hU.eq] at hf ⊢
  have key : ∀ {T U : Tab}, Span rs w T U → zxb_ U w r.2 i j = true → U r.1.toNat i j = true := by
    intro T U h
    induction h with
    | done h1 =>
      intro hf
      rw [pass_same hr hw h1] at hf ⊢
      exact pass_closed hr hw h1 hm hij hj hf
    | more _ _ ih => exact ih
  exact key hU hf
theorem sumN_pos {f : Nat → Nat} : ∀ {n : Nat}, 0 < sumN f n → ∃ k, k < n ∧ 0 < f k := by
  intro n
  induction n with
  | zero => intro h; simp [sumN] at h
  | succ n ih =>
    intro h
    rw [sumN] at h
    by_cases h0 : 0 < f n
    · exact ⟨n, by omega, h0⟩
    · obtain ⟨k, hk, h1⟩ := ih (by omega)
      exact ⟨k, by omega, h1⟩
theorem sumR_pos {p : RuleL → Nat} : ∀ {rs : List RuleL} , 0 < sumR rs p → ∃ r ∈ rs, 0 < p r := by
  have key : ∀ (rs : List RuleL) (a : Nat), 0 < rs.foldl (fun a r => a + p r) a → 0 < a ∨ ∃ r ∈ rs, 0 < p r := by
    intro rs
    induction rs with
    | nil => intro a h; exact .inl h
    | cons r rs ih =>
      intro a h
      rw [List.foldl_cons] at h
      rcases ih _ h with h1 | ⟨q, hq, h1⟩
      · by_cases h0 : 0 < p r
        · exact .inr ⟨r, List.mem_cons_self .., h0⟩
        · exact .inl (by omega)
      · exact .inr ⟨q, List.mem_cons_of_mem _ hq, h1⟩
  intro rs h
  rcases key rs 0 h with h | h
  · omega
  · exact h
theorem zap_ {c : Nat → Nat → Nat → Nat → Nat} {T : Tab} {ws : List Int} : ∀ {xs : List Int} {i j s : Nat}, j ≤ ws.length → (∀ A i j k, i ≤ j → j ≤ ws.length → k ≤ s → 0 < c A i j k → T A i j = true) → 0 < cntR c ws xs i j s → zxb_ T ws xs i j = true := by
  intro xs
  induction xs with
  | nil =>
    intro i j s hj hc h
    rw [cntR] at h
    split at h
    · rename_i h1
      exact decide_eq_true h1.1
    · omega
  | cons x xs ih =>
    intro i j s hj hc h
    rw [cntR] at h
    by_cases hx : x < 0
    · rw [if_pos hx] at h
      split at h
      · rename_i h1
        rw [zmj_ hx, decide_eq_true h1.1, decide_eq_true h1.2, ih hj hc h]
        rfl
      · omega
    · rw [if_neg hx] at h
      obtain ⟨m, hm, h1⟩ := sumN_pos h
      obtain ⟨k, hk, h2⟩ := sumN_pos h1
      have h3 : 0 < c x.toNat i (i + m) (k + 1) := Nat.pos_of_ne_zero fun e => by rw [e, Nat.zero_mul] at h2; omega
      have h4 : 0 < cntR c ws xs (i + m) j (s - (k + 1)) := Nat.pos_of_ne_zero fun e => by rw [e, Nat.mul_zero] at h2; omega
      rw [zpj_ hx]
      refine any_at (m := i + m) (by omega) (by omega) ?_
      rw [hc _ _ _ _ (by omega) (by omega) (by omega) h3, ih hj (fun A i j k' a b d e => hc A i j k' a b (by omega) e) h4]
      rfl
theorem cntC_span {rs : List RuleL} {ws : List Int} (hr : ∀ r ∈ rs, r.1.toNat < 6) (hw : ws.length ≤ 10) : ∀ {s A i j : Nat}, i ≤ j → j ≤ ws.length → 0 < cntC rs ws A i j s → spanT rs ws A i j = true := by
  intro s
  induction s using Nat.strongRecOn with
  | _ s ih =>
    intro A i j hij hj h
    cases s with
    | zero => rw [cntC_zero] at h; omega
    | succ s =>
      rw [zym_] at h
      obtain ⟨r, hm, h1⟩ := sumR_pos h
      split at h1
      · rename_i h2
        have hf := zap_ (T := spanT rs ws) hj (fun A i j k a b d e => ih k (by omega) a b e) h1
        have := span_closed hr hw hm hij hj hf
        rwa [h2, Int.toNat_natCast] at this
      · omega
inductive Der (rs : List RuleL) (ws : List Int) : Nat ⊕ List Int → Nat → Nat → Nat → List Int → Prop
  | tree {A q i j s : Nat} {r : List Int} : q < rs.length → (rul rs q).1 = (A : Int) → Der rs ws (.inr (rul rs q).2) i j s r → Der rs ws (.inl A) i j (s + 1) ((q : Int) :: r)
  | nil {i : Nat} : Der rs ws (.inr []) i i 0 []
  | tok {x : Int} {xs : List Int} {i j s : Nat} {r : List Int} : x < 0 → i < j → ws.getD i 0 = -1 - x → Der rs ws (.inr xs) (i + 1) j s r → Der rs ws (.inr (x :: xs)) i j s r
  | non {x : Int} {xs : List Int} {i m j k s : Nat} {a b : List Int} : ¬ x < 0 → i ≤ m → m ≤ j → Der rs ws (.inl x.toNat) i m k a → Der rs ws (.inr xs) m j s b → Der rs ws (.inr (x :: xs)) i j (k + s) (a ++ b)
section
variable {rs : List RuleL} {ws : List Int}
theorem der_tree {A i j s : Nat} {t : List Int} : Der rs ws (.inl A) i j s t ↔ ∃ (q : Nat) (r : List Int) (s' : Nat), s = s' + 1 ∧ t = (q : Int) :: r ∧ q < rs.length ∧ (rul rs q).1 = (A : Int) ∧ Der rs ws (.inr (rul rs q).2) i j s' r := by
  constructor
  · intro h
    cases h with
    | tree h1 h2 h3 => exact ⟨_, _, _, rfl, rfl, h1, h2, h3⟩
  · rintro ⟨q, r, s', rfl, rfl, h1, h2, h3⟩
    exact .tree h1 h2 h3
theorem sumN_at {f : Nat → Nat} : ∀ {n k : Nat}, k < n → 0 < f k → 0 < sumN f n := by
  intro n
  induction n with
  | zero => intro k h; omega
  | succ n ih =>
    intro k h h1
    rw [sumN]
    by_cases e : k = n
    · subst e
      omega
    · have := ih (k := k) (by omega) h1
      omega
theorem sumR_at {p : RuleL → Nat} {rs : List RuleL} {r : RuleL} (hr : r ∈ rs) (h : 0 < p r) : 0 < sumR rs p := by
  have mono : ∀ (l : List RuleL) (a : Nat), a ≤ l.foldl (fun a r => a + p r) a := by
    intro l
    induction l with
    | nil => intro a; exact Nat.le_refl _
    | cons b l ih => intro a; exact Nat.le_trans (Nat.le_add_right a (p b)) (ih (a + p b))
  have key : ∀ (l : List RuleL) (a : Nat), r ∈ l → 0 < l.foldl (fun a r => a + p r) a := by
    intro l
    induction l with
    | nil => intro a h; simp at h
    | cons b l ih =>
      intro a hm
      rcases List.mem_cons.1 hm with e | e
      · subst e
        exact Nat.lt_of_lt_of_le (by omega) (mono l (a + p r))
      · exact ih (a + p b) e
  exact key rs 0 hr
def posD (rs : List RuleL) (ws : List Int) : Nat ⊕ List Int → Nat → Nat → Nat → Prop
  | .inl A, i, j, s => 0 < cntC rs ws A i j s
  | .inr xs, i, j, s => 0 < cntR (cntC rs ws) ws xs i j s
theorem der_posD {c : Nat ⊕ List Int} {i j s : Nat} {t : List Int} (h : Der rs ws c i j s t) : posD rs ws c i j s := by
  induction h with
  | tree h1 h2 h3 ih =>
    show 0 < cntC rs ws _ _ _ _
    rw [zym_]
    refine sumR_at (r := rul rs _) (by rw [zic_ h1]; exact List.getElem_mem h1) ?_
    rw [if_pos h2]
    exact ih
  | nil =>
    show 0 < cntR _ _ [] _ _ _
    rw [cntR, if_pos ⟨rfl, rfl⟩]
    omega
  | tok h1 h2 h3 h4 ih =>
    show 0 < cntR _ _ (_ :: _) _ _ _
    rw [cntR, if_pos h1, if_pos ⟨h2, h3⟩]
    exact ih
  | non h1 h2 h3 h4 h5 ih1 ih2 =>
    rename_i x xs i m j k s a b
    show 0 < cntR _ _ (x :: xs) _ _ _
    rw [cntR, if_neg h1]
    have hk : 0 < k := by
      obtain ⟨_, _, s', rfl, _⟩ := der_tree.1 h4
      omega
    refine sumN_at (k := m - i) (by omega) (sumN_at (k := k - 1) (by omega) ?_)
    rw [show i + (m - i) = m from by omega, show k - 1 + 1 = k from by omega, show k + s - k = s from by omega]
    exact Nat.mul_pos ih1 ih2
theorem der_posR {xs : List Int} {i j s : Nat} {t : List Int} (h : Der rs ws (.inr xs) i j s t) : 0 < cntR (cntC rs ws) ws xs i j s := der_posD h
theorem der_fits (hr : ∀ r ∈ rs, r.1.toNat < 6) (hw : ws.length ≤ 10) {xs : List Int} {i j s : Nat} {t : List Int} (hj : j ≤ ws.length) (h : Der rs ws (.inr xs) i j s t) : zxb_ (spanT rs ws) ws xs i j = true := zap_ hj (fun A i j k h1 h2 _ h3 => cntC_span hr hw h1 h2 h3) (der_posR h)
end
section
variable {rs : List RuleL} {ws : List Int}
def zef_ (rs : List RuleL) (ws : List Int) (T : Tab) : Prop := ∀ A i j, T A i j = true → i ≤ j ∧ ∃ s t, Der rs ws (.inl A) i j s t
theorem zyk_ {T : Tab} (h : zef_ rs ws T) : ∀ {xs : List Int} {i j : Nat}, zxb_ T ws xs i j = true → i ≤ j ∧ ∃ s t, Der rs ws (.inr xs) i j s t := by
  intro xs
  induction xs with
  | nil =>
    intro i j hf
    obtain rfl : i = j := of_decide_eq_true hf
    exact ⟨Nat.le_refl _, 0, [], .nil⟩
  | cons x xs ih =>
    intro i j hf
    by_cases hx : x < 0
    · rw [zmj_ hx] at hf
      simp only [Bool.and_eq_true, decide_eq_true_eq] at hf
      obtain ⟨h1, h2, h3⟩ := hf
      obtain ⟨h4, s, t, h5⟩ := ih h3
      exact ⟨by omega, s, t, .tok hx h1 h2 h5⟩
    · rw [zpj_ hx, List.any_eq_true] at hf
      obtain ⟨m, hm, hf⟩ := hf
      rw [List.mem_range'_1] at hm
      simp only [Bool.and_eq_true] at hf
      obtain ⟨h1, k, a, h2⟩ := h _ _ _ hf.1
      obtain ⟨h3, s, t, h4⟩ := ih hf.2
      exact ⟨by omega, k + s, a ++ t, .non hx h1 h3 h2 h4⟩
theorem rule_at {r : RuleL} (h : r ∈ rs) : ∃ q, q < rs.length ∧ rul rs q = r := by
  obtain ⟨q, hq, e⟩ := List.getElem_of_mem h
  exact ⟨q, hq, by rw [zic_ hq, e]⟩
theorem zwj_ {α σ : Type} {I : σ → Prop} {f : σ → α → σ} : ∀ {l : List α} {s : σ}, I s → (∀ a ∈ l, ∀ s, I s → I (f s a)) → I (l.foldl f s) := by
  intro l
  induction l with
  | nil => intro s h _; exact h
  | cons a l ih =>
    intro s h h1
    exact ih (h1 a (List.mem_cons_self ..) s h) fun b hb => h1 b (List.mem_cons_of_mem _ hb)
theorem zam_ (h0 : ∀ r ∈ rs, 0 ≤ r.1) {s : TS} (h : zef_ rs ws s.1) : zef_ rs ws (zie_ rs ws s).1 := by
  refine zwj_ (I := fun s : TS => zef_ rs ws s.1) h fun r hr s hs => ?_
  refine zwj_ (I := fun s : TS => zef_ rs ws s.1) hs fun i hi s hs => ?_
  refine zwj_ (I := fun s : TS => zef_ rs ws s.1) hs fun j hj s hs => ?_
  unfold stepT
  split
  · rename_i hc
    simp only [Bool.and_eq_true] at hc
    intro A a b hab
    simp only [Tab.put] at hab
    split at hab
    · rename_i e
      obtain ⟨rfl, rfl, rfl⟩ := e
      obtain ⟨h1, s', t, h2⟩ := zyk_ hs hc.2
      obtain ⟨q, hq, e⟩ := rule_at hr
      refine ⟨h1, s' + 1, (q : Int) :: t, .tree hq ?_ (by rw [e]; exact h2)⟩
      rw [e]
      have := h0 r hr
      omega
    · exact hs A a b hab
  · exact hs
theorem span_sound (h0 : ∀ r ∈ rs, 0 ≤ r.1) : zef_ rs ws (spanT rs ws) := by
  intro A i j h
  unfold spanT at h
  split at h
  · rename_i hx
    have key : ∀ {T U : Tab}, Span rs ws T U → zef_ rs ws T → zef_ rs ws U := by
      intro T U h
      induction h with
      | done _ => exact fun h => zam_ h0 h
      | more _ _ ih => exact fun h => ih (zam_ h0 h)
    exact key (Classical.choose_spec hx) (fun A i j h => by cases h) A i j h
  · cases h
theorem fits_iff (h0 : ∀ r ∈ rs, 0 ≤ r.1) (hr : ∀ r ∈ rs, r.1.toNat < 6) (hw : ws.length ≤ 10) {xs : List Int} {i j : Nat} (hj : j ≤ ws.length) : zxb_ (spanT rs ws) ws xs i j = true ↔ ∃ s t, Der rs ws (.inr xs) i j s t :=
  ⟨fun h => (zyk_ (span_sound h0) h).2, fun ⟨_, _, h⟩ => der_fits hr hw hj h⟩
end
inductive Yi (rs : List RuleL) : Nat ⊕ List Int → List Int → Prop
  | rule {A : Nat} {r : RuleL} {u : List Int} : r ∈ rs → r.1 = (A : Int) → Yi rs (.inr r.2) u → Yi rs (.inl A) u
  | nil : Yi rs (.inr []) []
  | tok {x : Int} {xs u : List Int} : x < 0 → Yi rs (.inr xs) u → Yi rs (.inr (x :: xs)) ((-1 - x) :: u)
  | non {x : Int} {xs u v : List Int} : ¬ x < 0 → Yi rs (.inl x.toNat) u → Yi rs (.inr xs) v → Yi rs (.inr (x :: xs)) (u ++ v)
def cut (ws : List Int) (i j : Nat) : List Int := (ws.drop i).take (j - i)
theorem cut_nil (ws : List Int) (i : Nat) : cut ws i i = [] := by simp [cut]
theorem cut_cons {ws : List Int} {i j : Nat} (h : i < j) (hj : j ≤ ws.length) : cut ws i j = ws.getD i 0 :: cut ws (i + 1) j := by
  unfold cut
  rw [List.drop_eq_getElem_cons (by omega), show j - i = (j - (i + 1)) + 1 from by omega, List.take_succ_cons]
  simp [List.getD_eq_getElem?_getD, show i < ws.length from by omega]
theorem cut_append {ws : List Int} {i m j : Nat} (h1 : i ≤ m) (h2 : m ≤ j) (hj : j ≤ ws.length) : cut ws i j = cut ws i m ++ cut ws m j := by
  unfold cut
  rw [show j - i = (m - i) + (j - m) from by omega, List.take_add, List.drop_drop, show i + (m - i) = m from by omega]
theorem cut_all (ws : List Int) : cut ws 0 ws.length = ws := by simp [cut]
theorem cut_length {ws : List Int} {i j : Nat} (h : i ≤ j) (hj : j ≤ ws.length) : (cut ws i j).length = j - i := by
  simp [cut]; omega
section
variable {rs : List RuleL}
theorem yi_of_der {ws : List Int} {c : Nat ⊕ List Int} {i j s : Nat} {t : List Int} (h : Der rs ws c i j s t) : j ≤ ws.length → Yi rs c (cut ws i j) := by
  induction h with
  | tree h1 h2 _ ih =>
    intro hj
    refine .rule (r := rul rs _) ?_ h2 (ih hj)
    rw [zic_ h1]
    exact List.getElem_mem h1
  | nil =>
    intro _
    rw [cut_nil]
    exact .nil
  | tok h1 h2 h3 _ ih =>
    intro hj
    rw [cut_cons h2 hj, h3]
    exact .tok h1 (ih hj)
  | non h1 h2 h3 _ _ ih1 ih2 =>
    intro hj
    rw [cut_append h2 h3 hj]
    exact .non h1 (ih1 (by omega)) (ih2 hj)
theorem der_of_yi' {c : Nat ⊕ List Int} {u : List Int} (h : Yi rs c u) : ∀ (a b : List Int), ∃ s t, Der rs (a ++ u ++ b) c a.length (a.length + u.length) s t := by
  induction h with
  | rule h1 h2 _ ih =>
    intro a b
    obtain ⟨s, t, hd⟩ := ih a b
    obtain ⟨q, hq, e⟩ := List.getElem_of_mem h1
    have e' : rul rs q = _ := (zic_ hq).trans e
    exact ⟨_, _, .tree hq (by rw [e']; exact h2) (by rw [e']; exact hd)⟩
  | nil =>
    intro a b
    exact ⟨_, _, .nil⟩
  | @tok x xs u hx _ ih =>
    intro a b
    obtain ⟨s, t, hd⟩ := ih (a ++ [-1 - x]) b
    refine ⟨s, t, .tok hx (by simp) ?_ ?_⟩
    · simp [List.getD_eq_getElem?_getD]
    · have e : a ++ (-1 - x) :: u ++ b = a ++ [-1 - x] ++ u ++ b := by simp
      rw [e]
      have e2 : a.length + ((-1 - x) :: u).length = (a ++ [-1 - x]).length + u.length := by simp; omega
      rw [e2]
      have e3 : a.length + 1 = (a ++ [-1 - x]).length := by simp
      rw [e3]
      exact hd
  | @non x xs u v hx _ _ ih1 ih2 =>
    intro a b
    obtain ⟨s1, t1, h1⟩ := ih1 a (v ++ b)
    obtain ⟨s2, t2, h2⟩ := ih2 (a ++ u) b
    have e1 : a ++ u ++ (v ++ b) = a ++ (u ++ v) ++ b := by simp
    have e2 : a ++ u ++ v ++ b = a ++ (u ++ v) ++ b := by simp
    rw [e1] at h1
    rw [e2] at h2
    have e3 : (a ++ u).length = a.length + u.length := by simp
    have e4 : (a ++ u).length + v.length = a.length + (u ++ v).length := by simp; omega
    rw [e4, e3] at h2
    exact ⟨_, _, .non hx (by omega) (by simp) h1 h2⟩
theorem cut_parts {ws : List Int} {i j : Nat} (h : i ≤ j) (hj : j ≤ ws.length) : ws = ws.take i ++ cut ws i j ++ ws.drop j := by
  unfold cut
  conv => lhs; rw [← List.take_append_drop i ws, ← List.take_append_drop (j - i) (ws.drop i)]
  rw [List.drop_drop, show i + (j - i) = j from by omega, List.append_assoc]
theorem der_of_yi {ws : List Int} {c : Nat ⊕ List Int} {i j : Nat} (hi : i ≤ j) (hj : j ≤ ws.length) (h : Yi rs c (cut ws i j)) : ∃ s t, Der rs ws c i j s t := by
  obtain ⟨s, t, hd⟩ := der_of_yi' h (ws.take i) (ws.drop j)
  rw [← cut_parts hi hj] at hd
  have e1 : (ws.take i).length = i := by simp; omega
  have e2 : i + (cut ws i j).length = j := by rw [cut_length hi hj]; omega
  rw [e1, e2] at hd
  exact ⟨s, t, hd⟩
theorem der_yi {ws : List Int} {c : Nat ⊕ List Int} {i j : Nat} (hi : i ≤ j) (hj : j ≤ ws.length) : (∃ s t, Der rs ws c i j s t) ↔ Yi rs c (cut ws i j) :=
  ⟨fun ⟨_, _, h⟩ => yi_of_der h hj, der_of_yi hi hj⟩
theorem yi_tok {x : Int} {xs u : List Int} (hx : x < 0) : Yi rs (.inr (x :: xs)) u ↔ ∃ v, u = (-1 - x) :: v ∧ Yi rs (.inr xs) v := by
  constructor
  · intro h
    cases h with
    | tok _ h2 => exact ⟨_, rfl, h2⟩
    | non h1 => exact absurd hx h1
  · rintro ⟨v, rfl, h⟩
    exact .tok hx h
theorem yi_non {x : Int} {xs u : List Int} (hx : ¬ x < 0) : Yi rs (.inr (x :: xs)) u ↔ ∃ v z, u = v ++ z ∧ Yi rs (.inl x.toNat) v ∧ Yi rs (.inr xs) z := by
  constructor
  · intro h
    cases h with
    | tok h1 => exact absurd h1 hx
    | non _ h1 h2 => exact ⟨_, _, rfl, h1, h2⟩
  · rintro ⟨v, z, rfl, h1, h2⟩
    exact .non hx h1 h2
end
inductive Clo (rs : List RuleL) (tok : Bool) : Nat → Prop
  | mk {A : Nat} {r : RuleL} : r ∈ rs → r.1 = (A : Int) → (∀ x ∈ r.2, x < 0 → tok = true) → (∀ x ∈ r.2, ¬ x < 0 → Clo rs tok x.toNat) → Clo rs tok A
theorem clo_yi {rs : List RuleL} {A : Nat} (h : Clo rs true A) : ∃ u, Yi rs (.inl A) u := by
  induction h with
  | @mk A r h1 h2 _ _ ih =>
    have key : ∀ xs : List Int, (∀ x ∈ xs, ¬ x < 0 → ∃ u, Yi rs (.inl x.toNat) u) → ∃ u, Yi rs (.inr xs) u := by
      intro xs
      induction xs with
      | nil => exact fun _ => ⟨_, .nil⟩
      | cons x xs ihx =>
        intro hx
        obtain ⟨v, hv⟩ := ihx fun y hy => hx y (List.mem_cons_of_mem _ hy)
        by_cases h0 : x < 0
        · exact ⟨_, .tok h0 hv⟩
        · obtain ⟨u, hu⟩ := hx x (List.mem_cons_self ..) h0
          exact ⟨_, .non h0 hu hv⟩
    obtain ⟨u, hu⟩ := key r.2 ih
    exact ⟨u, .rule h1 h2 hu⟩
theorem clo_yi0 {rs : List RuleL} {A : Nat} (h : Clo rs false A) : Yi rs (.inl A) [] := by
  induction h with
  | @mk A r h1 h2 h3 _ ih =>
    have key : ∀ xs : List Int, (∀ x ∈ xs, ¬ x < 0) → (∀ x ∈ xs, ¬ x < 0 → Yi rs (.inl x.toNat) []) → Yi rs (.inr xs) [] := by
      intro xs
      induction xs with
      | nil => exact fun _ _ => .nil
      | cons x xs ihx =>
        intro h0 hx
        exact .non (u := []) (v := []) (h0 x (List.mem_cons_self ..)) (hx x (List.mem_cons_self ..) (h0 x (List.mem_cons_self ..))) (ihx (fun y hy => h0 y (List.mem_cons_of_mem _ hy)) fun y hy => hx y (List.mem_cons_of_mem _ hy))
    exact .rule h1 h2 (key r.2 (fun x hx h0 => by cases h3 x hx h0) ih)
theorem yi_clo {rs : List RuleL} {tok : Bool} {c : Nat ⊕ List Int} {u : List Int} (h : Yi rs c u) : (tok = true ∨ u = []) → match c with | .inl A => Clo rs tok A | .inr xs => (∀ x ∈ xs, x < 0 → tok = true) ∧ ∀ x ∈ xs, ¬ x < 0 → Clo rs tok x.toNat := by
  induction h with
  | rule h1 h2 _ ih =>
    intro ht
    exact .mk h1 h2 (ih ht).1 (ih ht).2
  | nil => exact fun _ => ⟨fun x hx => by simp at hx, fun x hx => by simp at hx⟩
  | tok hx _ ih =>
    intro ht
    have ht : tok = true := ht.resolve_right (by simp)
    have := ih (.inl ht)
    refine ⟨fun _ _ _ => ht, fun y hy h0 => ?_⟩
    rcases List.mem_cons.1 hy with rfl | hy
    · exact absurd hx h0
    · exact this.2 y hy h0
  | non hx _ _ ih1 ih2 =>
    intro ht
    have h1 := ih1 (ht.imp_right fun e => (List.append_eq_nil_iff.1 e).1)
    have h2 := ih2 (ht.imp_right fun e => (List.append_eq_nil_iff.1 e).2)
    refine ⟨fun y hy h0 => ?_, fun y hy h0 => ?_⟩
    · rcases List.mem_cons.1 hy with rfl | hy
      · exact absurd h0 hx
      · exact h2.1 y hy h0
    · rcases List.mem_cons.1 hy with rfl | hy
      · exact h1
      · exact h2.2 y hy h0
theorem clo_true {rs : List RuleL} {A : Nat} : Clo rs true A ↔ ∃ u, Yi rs (.inl A) u := ⟨clo_yi, fun ⟨_, h⟩ => yi_clo h (.inl rfl)⟩
theorem clo_false {rs : List RuleL} {A : Nat} : Clo rs false A ↔ Yi rs (.inl A) [] := ⟨clo_yi0, fun h => yi_clo h (.inr rfl)⟩
inductive Rch (rs : List RuleL) : Nat → Prop
  | zero : Rch rs 0
  | step {A : Nat} {r : RuleL} {x : Int} : r ∈ rs → r.1 = (A : Int) → Rch rs A → x ∈ r.2 → ¬ x < 0 → Rch rs x.toNat
end Go.Sh
namespace Go.Proofs.Yteabbgaffgpegaa
open Go Go.Sh Go.RowKit
section
variable {w : World} {X Z Y : Option Addr} {cx cz cy : Nat} {gm : Gram} {ws xs : List Int} {k : Value → World → Prop}
end
end Go.Proofs.Yteabbgaffgpegaa

namespace Go.Sh
open Go
theorem good_lefts {gm : Gram} (hg : zab_ gm = true) : ∀ r ∈ gm.rules, 0 ≤ r.1 := fun r hr => by
  obtain ⟨i, hi, rfl⟩ := List.getElem_of_mem hr
  have := (zuf_ hg hi).1
  rwa [zic_ hi] at this
theorem good_rights {gm : Gram} (hg : zab_ gm = true) {q : Nat} (hq : q < gm.rules.length) : (rul gm.rules q).2.length ≤ 4 ∧ ∀ x ∈ (rul gm.rules q).2, -gm.toks ≤ x ∧ x ≤ gm.nons - 1 := by
  simp only [zab_, Bool.and_eq_true] at hg
  have h := List.all_eq_true.1 hg.2 q (List.mem_range.2 hq)
  simp only [zbd_, Bool.and_eq_true, decide_eq_true_eq] at h
  refine ⟨by have := h.1.1.2; omega, fun x hx => ?_⟩
  have := List.all_eq_true.1 h.1.2 x hx
  simpa [symB, inB] using this
where
  any_congr' {l : List RuleL} {p q : RuleL → Bool} (h : ∀ r ∈ l, p r = q r) : l.any p = l.any q := by
    rw [Bool.eq_iff_iff, List.any_eq_true, List.any_eq_true]
    constructor
    · rintro ⟨r, hr, h1⟩
      exact ⟨r, hr, by rw [← h r hr]; exact h1⟩
    · rintro ⟨r, hr, h1⟩
      exact ⟨r, hr, by rw [h r hr]; exact h1⟩
def tstC (tok : Bool) (out : List Int) (x : Int) : Bool := (decide (x < 0) && tok) || (decide (0 ≤ x) && decide (x ∈ out))
structure SetOk (P : Nat → Prop) (nons : Nat) (out : List Int) : Prop where
  rise : zjd_ out
  ok : ∀ x ∈ out, ∃ A : Nat, x = A ∧ A < nons ∧ P A
theorem SetOk.len {P : Nat → Prop} {nons : Nat} {out : List Int} (h : SetOk P nons out) : out.length ≤ nons := by
  have := zuj_ (a := 0) (n := nons) h.rise (fun x hx => by obtain ⟨A, rfl, h1, _⟩ := h.ok x hx; omega) (by omega)
  omega
theorem SetOk.put {P : Nat → Prop} {nons A : Nat} {out : List Int} (h : SetOk P nons out) (hA : A < nons) (hP : P A) : SetOk P nons (putL (A : Int) out) :=
  ⟨zah_ h.rise, fun x hx => by
    rcases putL_mem.1 hx with rfl | hx
    · exact ⟨A, rfl, hA, hP⟩
    · exact h.ok x hx⟩
theorem SetOk.eq {P : Nat → Prop} {nons : Nat} {out : List Int} (h : SetOk P nons out) (hc : ∀ A : Nat, A < nons → P A → (A : Int) ∈ out) : out = setL nons P := by
  refine ztj_ h.rise (zbh_ _ _) fun m => ?_
  rw [setL_mem]
  constructor
  · exact fun hm => by
      obtain ⟨A, e, h1, h2⟩ := h.ok m hm
      exact ⟨A, e, h1, h2⟩
  · rintro ⟨A, rfl, h1, h2⟩
    exact hc A h1 h2
theorem SetOk.nil (P : Nat → Prop) (nons : Nat) : SetOk P nons [] := ⟨.nil, fun x hx => by simp at hx⟩
theorem tstC_iff {P : Nat → Prop} {tok : Bool} {nons : Nat} {out : List Int} (h : SetOk P nons out) {xs : List Int} (ha : xs.all (tstC tok out) = true) : (∀ x ∈ xs, x < 0 → tok = true) ∧ ∀ x ∈ xs, ¬ x < 0 → P x.toNat := by
  rw [List.all_eq_true] at ha
  refine ⟨fun x hx h0 => ?_, fun x hx h0 => ?_⟩
  · have := ha x hx
    simp only [tstC, h0, decide_true, Bool.true_and, Bool.or_eq_true, Bool.and_eq_true, decide_eq_true_eq] at this
    rcases this with h1 | h1
    · exact h1
    · omega
  · have := ha x hx
    simp only [tstC, h0, decide_false, Bool.false_and, Bool.false_or, Bool.and_eq_true, decide_eq_true_eq] at this
    obtain ⟨A, e, _, h2⟩ := h.ok x this.2
    rw [e, Int.toNat_natCast]
    exact h2
theorem clo_in {rs : List RuleL} {tok : Bool} {out : List Int} (hc : ∀ r ∈ rs, r.1 ∉ out → r.2.all (tstC tok out) = false) {A : Nat} (h : Clo rs tok A) : (A : Int) ∈ out := by
  induction h with
  | @mk A r h1 h2 h3 _ ih =>
    by_cases hm : (A : Int) ∈ out
    · exact hm
    · have := hc r h1 (by rw [h2]; exact hm)
      rw [List.all_eq_false] at this
      obtain ⟨x, hx, hn⟩ := this
      exfalso
      apply hn
      by_cases h0 : x < 0
      · simp [tstC, h0, h3 x hx h0]
      · have := ih x hx h0
        rw [show ((x.toNat : Nat) : Int) = x from by omega] at this
        simp [tstC, h0, this]
        omega
noncomputable def cloV (gm : Gram) (tok : Bool) : List Int := setL gm.nons.toNat (Clo gm.rules tok)
theorem zcg_ {p : Int → Bool} {xs : List Int} {j : Nat} (h : j < xs.length) : (xs.take (j + 1)).all p = ((xs.take j).all p && p (xs.getD j 0)) := by
  rw [zmc_ h, List.all_append]
  simp
end Go.Sh
namespace Go.Proofs.Yteabbgaffgpegaa
open Go Go.Sh Go.RowKit
section
variable {w : World} {Y : Option Addr} {cy : Nat} {gm : Gram} {k : Value → World → Prop}
set_option maxHeartbeats 3200000 in
theorem zch_ {tok : Bool} (hG : kG Y cy gm.rules w) (hn : 0 ≤ gm.nons ∧ gm.nons ≤ 6) (hl : ∀ r ∈ gm.rules, 0 ≤ r.1 ∧ r.1 < gm.nons) (hr : ∀ r ∈ gm.rules, r.2.length ≤ 1000) (hk : ∀ w' X c, Gr w w' → kI X (cloV gm tok) c w' → k (.slice X (cloV gm tok).length c) w') :
    CallK Try.prog 111 [grv gm Y cy, .bool tok] k w := by
  refine enter111 ?_
  unfold S111
  have H := (Kn.nil w).addG hG.1 hG.2
  refine zub_ fun b1 w1 g1 hb B1 => ?_
  have H := (H.step g1).addB B1
  simp only [List.cons_append, List.nil_append] at H
  have hrl := (H.get 1 rfl).2.le
  refine zfc_ (σ := List Int × Bool) (fun s f w' => (∃ X c, f 5 = .slice X s.1.length c ∧ kI X s.1 c w') ∧ f 6 = .bool s.2 ∧ Gr w1 w' ∧ SetOk (Clo gm.rules tok) gm.nons.toNat s.1 ∧ (s.2 = false → ∀ r ∈ gm.rules, r.1 ∉ s.1 → r.2.all (tstC tok s.1) = false))
    (fun s => if s.2 = true then 8 - s.1.length else 0) ([], true) ⟨⟨none, 0, rfl, ⟨⟨by simp, fun h => by simp at h, fun j hj => by simp at hj⟩, Nat.le_refl _⟩⟩, rfl, Gr.refl _, SetOk.nil _ _, fun h => by cases h⟩ ?_
  rintro ⟨out, more⟩ f w2 N hag ⟨⟨X, c, h5, hX⟩, h6, g, hok, hcl⟩ hN
  dsimp only at h5 hX h6 hok hcl hN
  have f2 : f 2 = ptrv b1 := hag 2 (by decide)
  have f1 : f 1 = .bool tok := hag 1 (by decide)
  simp only [h5, h6, f2, zq18, zq19, zq20, zq21, zq22, zq23, zq24, zq25, zq26, zq27, zq28, zq4, zq3, zq1, zq2, zq0, zq29, zq30, zq14, zq15, zq16, zq17, zq13, zq10, zq12, zq11, zq7, zq5, zq6, zq9, zq8, zq31, zq32, ite_T, ite_F, zq33, zq34, zq35, Nat.reduceEqDiff, len22, len24, fa26_0, fa26_1, fa26_2, len27, len35, fa86_0, fa86_1, fa86_2, fa97_0, fa97_1, fa106_0, fa106_1, fa145_0, fa145_1, fa145_2, fa145_3, fa145_4, len192]
  have H := H.step g
  have hlen := hok.len
  cases more
  · simp only [zq18, zq19, zq20, zq21, zq22, zq23, zq24, zq25, zq26, zq27, zq28, zq4, zq3, zq1, zq2, zq0, zq29, zq30, zq14, zq15, zq16, zq17, zq13, zq10, zq12, zq11, zq7, zq5, zq6, zq9, zq8, zq31, zq32, ite_T, ite_F, zq33, zq34, zq35, Nat.reduceEqDiff, len22, len24, fa26_0, fa26_1, fa26_2, len27, len35, fa86_0, fa86_1, fa86_2, fa97_0, fa97_1, fa106_0, fa106_1, fa145_0, fa145_1, fa145_2, fa145_3, fa145_4, len192]
    have e : out = cloV gm tok := hok.eq fun A _ hA => clo_in (hcl rfl) hA
    subst e
    exact hk _ X c (H.get 0 rfl) hX
  simp only [zq18, zq19, zq20, zq21, zq22, zq23, zq24, zq25, zq26, zq27, zq28, zq4, zq3, zq1, zq2, zq0, zq29, zq30, zq14, zq15, zq16, zq17, zq13, zq10, zq12, zq11, zq7, zq5, zq6, zq9, zq8, zq31, zq32, ite_T, ite_F, zq33, zq34, zq35, Nat.reduceEqDiff, len22, len24, fa26_0, fa26_1, fa26_2, len27, len35, fa86_0, fa86_1, fa86_2, fa97_0, fa97_1, fa106_0, fa106_1, fa145_0, fa145_1, fa145_2, fa145_3, fa145_4, len192]
  rw [zhe_ (H.get 2 rfl) rfl]
  simp only [zq18, zq19, zq20, zq21, zq22, zq23, zq24, zq25, zq26, zq27, zq28, zq4, zq3, zq1, zq2, zq0, zq29, zq30, zq14, zq15, zq16, zq17, zq13, zq10, zq12, zq11, zq7, zq5, zq6, zq9, zq8, zq31, zq32, ite_T, ite_F, zq33, zq34, zq35, Nat.reduceEqDiff, len22, len24, fa26_0, fa26_1, fa26_2, len27, len35, fa86_0, fa86_1, fa86_2, fa97_0, fa97_1, fa106_0, fa106_1, fa145_0, fa145_1, fa145_2, fa145_3, fa145_4, len192]
  refine zhb_ gm.rules.length 0 (fun i f w' => i ≤ gm.rules.length ∧ f 16 = .int .i64 (i : Int) ∧ ∃ (X : Option Addr) (c : Nat) (out2 : List Int) (more2 : Bool), f 5 = .slice X out2.length c ∧ kI X out2 c w' ∧ f 6 = .bool more2 ∧ Gr w2 w' ∧ SetOk (Clo gm.rules tok) gm.nons.toNat out2 ∧
      (more2 = false → out2 = out ∧ ∀ q, q < i → (rul gm.rules q).1 ∉ out → (rul gm.rules q).2.all (tstC tok out) = false) ∧ (more2 = true → out.length < out2.length))
    ⟨Nat.zero_le _, rfl, X, c, out, false, h5, hX, rfl, Gr.refl _, hok, fun _ => ⟨rfl, fun q hq => by omega⟩, fun h => by cases h⟩ ?_
  rintro i q w3 N2 hag2 ⟨hi, q16, X, c, out2, more2, q5, hX, q6, g2, hok2, hno, hyes⟩ hN2
  have q14 : q 14 = .slice Y gm.rules.length cy := hag2 14 (by decide)
  have q15 : q 15 = .int .i64 gm.rules.length := hag2 15 (by decide)
  have q1 : q 1 = .bool tok := (hag2 1 (by decide)).trans f1
  simp only [q14, q15, q16, q5, q6, zq18, zq19, zq20, zq21, zq22, zq23, zq24, zq25, zq26, zq27, zq28, zq4, zq3, zq1, zq2, zq0, zq29, zq30, zq14, zq15, zq16, zq17, zq13, zq10, zq12, zq11, zq7, zq5, zq6, zq9, zq8, zq31, zq32, ite_T, ite_F, zq33, zq34, zq35, Nat.reduceEqDiff, len22, len24, fa26_0, fa26_1, fa26_2, len27, len35, fa86_0, fa86_1, fa86_2, fa97_0, fa97_1, fa106_0, fa106_1, fa145_0, fa145_1, fa145_2, fa145_3, fa145_4, len192]
  by_cases hlt : i < gm.rules.length
  case neg =>
    simp only [show ¬ ((i : Int) < (gm.rules.length : Int)) from by omega, decide_false, zq18, zq19, zq20, zq21, zq22, zq23, zq24, zq25, zq26, zq27, zq28, zq4, zq3, zq1, zq2, zq0, zq29, zq30, zq14, zq15, zq16, zq17, zq13, zq10, zq12, zq11, zq7, zq5, zq6, zq9, zq8, zq31, zq32, ite_T, ite_F, zq33, zq34, zq35, Nat.reduceEqDiff, len22, len24, fa26_0, fa26_1, fa26_2, len27, len35, fa86_0, fa86_1, fa86_2, fa97_0, fa97_1, fa106_0, fa106_1, fa145_0, fa145_1, fa145_2, fa145_3, fa145_4, len192]
    refine hN (out2, more2) _ _ ⟨⟨X, c, q5, hX⟩, q6, zf_ g g2, hok2, fun hm r hr' hnot => ?_⟩ ?_
    · dsimp only at hm ⊢
      obtain ⟨e, hall⟩ := hno hm
      subst e
      obtain ⟨z, hz, rfl⟩ := List.getElem_of_mem hr'
      have := hall z (by omega)
      rw [zic_ hz] at this
      exact this hnot
    · cases more2
      · simp
        omega
      · have := hyes rfl
        have := hok2.len
        simp
        omega
  simp only [show ((i : Int) < (gm.rules.length : Int)) from by omega, decide_true, zq18, zq19, zq20, zq21, zq22, zq23, zq24, zq25, zq26, zq27, zq28, zq4, zq3, zq1, zq2, zq0, zq29, zq30, zq14, zq15, zq16, zq17, zq13, zq10, zq12, zq11, zq7, zq5, zq6, zq9, zq8, zq31, zq32, ite_T, ite_F, zq33, zq34, zq35, Nat.reduceEqDiff, len22, len24, fa26_0, fa26_1, fa26_2, len27, len35, fa86_0, fa86_1, fa86_2, fa97_0, fa97_1, fa106_0, fa106_1, fa145_0, fa145_1, fa145_2, fa145_3, fa145_4, len192]
  have hrm : rul gm.rules i ∈ gm.rules := by rw [zic_ hlt]; exact List.getElem_mem hlt
  have H := H.step g2
  have H := H.addI hX.1 hX.2
  simp only [List.cons_append, List.nil_append] at H
  refine zed_ (fun f w' => f 16 = .int .i64 (i : Int) ∧ ∃ (X : Option Addr) (c : Nat) (out2 : List Int) (more2 : Bool), f 5 = .slice X out2.length c ∧ kI X out2 c w' ∧ f 6 = .bool more2 ∧ Gr w2 w' ∧ SetOk (Clo gm.rules tok) gm.nons.toNat out2 ∧
      (more2 = false → out2 = out ∧ ∀ q, q < i + 1 → (rul gm.rules q).1 ∉ out → (rul gm.rules q).2.all (tstC tok out) = false) ∧ (more2 = true → out.length < out2.length)) (fun K hK => ?_) ?_
  case refine_2 =>
    rintro f w' ⟨f16, h⟩
    simp only [f16, zq18, zq19, zq20, zq21, zq22, zq23, zq24, zq25, zq26, zq27, zq28, zq4, zq3, zq1, zq2, zq0, zq29, zq30, zq14, zq15, zq16, zq17, zq13, zq10, zq12, zq11, zq7, zq5, zq6, zq9, zq8, zq31, zq32, ite_T, ite_F, zq33, zq34, zq35, Nat.reduceEqDiff, len22, len24, fa26_0, fa26_1, fa26_2, len27, len35, fa86_0, fa86_1, fa86_2, fa97_0, fa97_1, fa106_0, fa106_1, fa145_0, fa145_1, fa145_2, fa145_3, fa145_4, len192]
    rw [zm_ (by omega) (by omega)]
    exact hN2 _ _ hlt ⟨by omega, rfl, h⟩
  have H := H.add (P := fun w' => Gr w2 w') fun w' g' => zf_ g2 g'
  simp only [List.cons_append, List.nil_append] at H
  have hRF := (H.get 1 rfl).2
  refine rdi (ixn24 hRF.ptr hlt) ?_
  refine zfh_ zdc_ zkb_ hRF hlt fun v hv => ?_
  obtain ⟨Z, cz, rfl, hcz, hZ⟩ := hv
  have H := H.addI hZ.is hcz
  refine newR H fun b9 w4 H => ?_
  simp only [List.cons_append, List.nil_append] at H
  simp only [zq18, zq19, zq20, zq21, zq22, zq23, zq24, zq25, zq26, zq27, zq28, zq4, zq3, zq1, zq2, zq0, zq29, zq30, zq14, zq15, zq16, zq17, zq13, zq10, zq12, zq11, zq7, zq5, zq6, zq9, zq8, zq31, zq32, ite_T, ite_F, zq33, zq34, zq35, Nat.reduceEqDiff, len22, len24, fa26_0, fa26_1, fa26_2, len27, len35, fa86_0, fa86_1, fa86_2, fa97_0, fa97_1, fa106_0, fa106_1, fa145_0, fa145_1, fa145_2, fa145_3, fa145_4, len192]
  rw [ldB3 (H.get 6 rfl) rfl]
  refine zjf_ (H.get 3 rfl).1 fun w5 g5 => ?_
  have H := H.step g5
  simp only [zq18, zq19, zq20, zq21, zq22, zq23, zq24, zq25, zq26, zq27, zq28, zq4, zq3, zq1, zq2, zq0, zq29, zq30, zq14, zq15, zq16, zq17, zq13, zq10, zq12, zq11, zq7, zq5, zq6, zq9, zq8, zq31, zq32, ite_T, ite_F, zq33, zq34, zq35, Nat.reduceEqDiff, len22, len24, fa26_0, fa26_1, fa26_2, len27, len35, fa86_0, fa86_1, fa86_2, fa97_0, fa97_1, fa106_0, fa106_1, fa145_0, fa145_1, fa145_2, fa145_3, fa145_4, len192]
  rw [zad_ (H.get 6 rfl) rfl]
  simp only [zq18, zq19, zq20, zq21, zq22, zq23, zq24, zq25, zq26, zq27, zq28, zq4, zq3, zq1, zq2, zq0, zq29, zq30, zq14, zq15, zq16, zq17, zq13, zq10, zq12, zq11, zq7, zq5, zq6, zq9, zq8, zq31, zq32, ite_T, ite_F, zq33, zq34, zq35, Nat.reduceEqDiff, len22, len24, fa26_0, fa26_1, fa26_2, len27, len35, fa86_0, fa86_1, fa86_2, fa97_0, fa97_1, fa106_0, fa106_1, fa145_0, fa145_1, fa145_2, fa145_3, fa145_4, len192]
  have hr2 := hr _ hrm
  refine zhb_ (rul gm.rules i).2.length 0 (fun j f w' => j ≤ (rul gm.rules i).2.length ∧ f 28 = .int .i64 (j : Int) ∧ f 9 = .bool ((!decide ((rul gm.rules i).1 ∈ out2)) && ((rul gm.rules i).2.take j).all (tstC tok out2)) ∧ Gr w5 w')
    ⟨Nat.zero_le _, rfl, by simp; rfl, Gr.refl _⟩ ?_
  rintro j r w6 N3 hag3 ⟨hj, r28, r9, g6⟩ hN3
  have r1 : r 1 = .bool tok := (hag3 1 (by decide)).trans q1
  have r5 : r 5 = .slice X out2.length c := (hag3 5 (by decide)).trans q5
  have r6 : r 6 = .bool more2 := (hag3 6 (by decide)).trans q6
  have r8 : r 8 = ptrv b9 := hag3 8 (by decide)
  have r16 : r 16 = .int .i64 (i : Int) := (hag3 16 (by decide)).trans q16
  have r26 : r 26 = .slice Z (rul gm.rules i).2.length cz := hag3 26 (by decide)
  have r27 : r 27 = .int .i64 ((rul gm.rules i).2.length : Int) := hag3 27 (by decide)
  simp only [r1, r5, r6, r8, r9, r26, r27, r28, zq18, zq19, zq20, zq21, zq22, zq23, zq24, zq25, zq26, zq27, zq28, zq4, zq3, zq1, zq2, zq0, zq29, zq30, zq14, zq15, zq16, zq17, zq13, zq10, zq12, zq11, zq7, zq5, zq6, zq9, zq8, zq31, zq32, ite_T, ite_F, zq33, zq34, zq35, Nat.reduceEqDiff, len22, len24, fa26_0, fa26_1, fa26_2, len27, len35, fa86_0, fa86_1, fa86_2, fa97_0, fa97_1, fa106_0, fa106_1, fa145_0, fa145_1, fa145_2, fa145_3, fa145_4, len192]
  have H := H.step g6
  by_cases hlt2 : j < (rul gm.rules i).2.length
  case neg =>
    simp only [show ¬ ((j : Int) < ((rul gm.rules i).2.length : Int)) from by omega, decide_false, r5, r6, r8, r9, zq18, zq19, zq20, zq21, zq22, zq23, zq24, zq25, zq26, zq27, zq28, zq4, zq3, zq1, zq2, zq0, zq29, zq30, zq14, zq15, zq16, zq17, zq13, zq10, zq12, zq11, zq7, zq5, zq6, zq9, zq8, zq31, zq32, ite_T, ite_F, zq33, zq34, zq35, Nat.reduceEqDiff, len22, len24, fa26_0, fa26_1, fa26_2, len27, len35, fa86_0, fa86_1, fa86_2, fa97_0, fa97_1, fa106_0, fa106_1, fa145_0, fa145_1, fa145_2, fa145_3, fa145_4, len192]
    rw [List.take_of_length_le (by omega)]
    cases hfire : ((!decide ((rul gm.rules i).1 ∈ out2)) && (rul gm.rules i).2.all (tstC tok out2))
    · simp only [zq18, zq19, zq20, zq21, zq22, zq23, zq24, zq25, zq26, zq27, zq28, zq4, zq3, zq1, zq2, zq0, zq29, zq30, zq14, zq15, zq16, zq17, zq13, zq10, zq12, zq11, zq7, zq5, zq6, zq9, zq8, zq31, zq32, ite_T, ite_F, zq33, zq34, zq35, Nat.reduceEqDiff, len22, len24, fa26_0, fa26_1, fa26_2, len27, len35, fa86_0, fa86_1, fa86_2, fa97_0, fa97_1, fa106_0, fa106_1, fa145_0, fa145_1, fa145_2, fa145_3, fa145_4, len192]
      refine hK _ _ ⟨r16, X, c, out2, more2, r5, H.get 3 rfl, r6, H.get 4 rfl, hok2, fun hm => ⟨(hno hm).1, fun z hz hnot => ?_⟩, hyes⟩
      rcases Nat.lt_succ_iff_lt_or_eq.1 hz with hz | rfl
      · exact (hno hm).2 z hz hnot
      · obtain ⟨e, _⟩ := hno hm
        subst e
        rw [decide_eq_false hnot] at hfire
        simpa using hfire
    · simp only [zq18, zq19, zq20, zq21, zq22, zq23, zq24, zq25, zq26, zq27, zq28, zq4, zq3, zq1, zq2, zq0, zq29, zq30, zq14, zq15, zq16, zq17, zq13, zq10, zq12, zq11, zq7, zq5, zq6, zq9, zq8, zq31, zq32, ite_T, ite_F, zq33, zq34, zq35, Nat.reduceEqDiff, len22, len24, fa26_0, fa26_1, fa26_2, len27, len35, fa86_0, fa86_1, fa86_2, fa97_0, fa97_1, fa106_0, fa106_1, fa145_0, fa145_1, fa145_2, fa145_3, fa145_4, len192]
      rw [ldB3 (H.get 6 rfl) rfl]
      have hlen2 := hok2.len
      refine l1Put_c (H.get 3 rfl) (by omega) fun w7 X' c' g7 hX' => ?_
      have H := H.step g7
      simp only [Bool.and_eq_true, Bool.not_eq_true', decide_eq_false_iff_not] at hfire
      have hb := hl _ hrm
      have hti := tstC_iff hok2 hfire.2
      have hP : Clo gm.rules tok (rul gm.rules i).1.toNat := .mk hrm (by omega) hti.1 hti.2
      have hput := hok2.put (A := (rul gm.rules i).1.toNat) (by omega) hP
      rw [show (((rul gm.rules i).1.toNat : Nat) : Int) = (rul gm.rules i).1 from by omega] at hput
      have hpl := zwm_ hok2.rise hfire.1
      refine hK _ _ ⟨r16, X', c', _, true, rfl, hX', rfl, H.get 4 rfl, hput, (fun h => by cases h), fun _ => ?_⟩
      cases more2
      · rw [(hno rfl).1] at hpl
        rw [(hno rfl).1]
        omega
      · have := hyes rfl
        omega
  simp only [show ((j : Int) < ((rul gm.rules i).2.length : Int)) from by omega, decide_true, zq18, zq19, zq20, zq21, zq22, zq23, zq24, zq25, zq26, zq27, zq28, zq4, zq3, zq1, zq2, zq0, zq29, zq30, zq14, zq15, zq16, zq17, zq13, zq10, zq12, zq11, zq7, zq5, zq6, zq9, zq8, zq31, zq32, ite_T, ite_F, zq33, zq34, zq35, Nat.reduceEqDiff, len22, len24, fa26_0, fa26_1, fa26_2, len27, len35, fa86_0, fa86_1, fa86_2, fa97_0, fa97_1, fa106_0, fa106_1, fa145_0, fa145_1, fa145_2, fa145_3, fa145_4, len192]
  have hZ' := (H.get 5 rfl).1
  refine rdi (zwb_ hZ'.ptr hlt2) (rdi (ld3 (hZ'.cell j hlt2)) ?_)
  have hall := zcg_ (p := tstC tok out2) hlt2
  have hle27 := hZ'.le
  generalize hx : (rul gm.rules i).2.getD j 0 = x at *
  have step : ∀ (bb : Bool) (w' : World) (f' : F), Gr w6 w' → f' 28 = .int .i64 ((j : Int) + 1) → f' 9 = .bool bb → bb = ((!decide ((rul gm.rules i).1 ∈ out2)) && ((rul gm.rules i).2.take (j + 1)).all (tstC tok out2)) → N3 f' w' := fun bb w' f' g' e1 e2 e3 => by
    refine hN3 f' w' hlt2 ⟨by omega, by rw [e1]; rfl, by rw [e2, e3], zf_ g6 g'⟩
  cases hacc : ((!decide ((rul gm.rules i).1 ∈ out2)) && ((rul gm.rules i).2.take j).all (tstC tok out2))
  · simp only [zq18, zq19, zq20, zq21, zq22, zq23, zq24, zq25, zq26, zq27, zq28, zq4, zq3, zq1, zq2, zq0, zq29, zq30, zq14, zq15, zq16, zq17, zq13, zq10, zq12, zq11, zq7, zq5, zq6, zq9, zq8, zq31, zq32, ite_T, ite_F, zq33, zq34, zq35, Nat.reduceEqDiff, len22, len24, fa26_0, fa26_1, fa26_2, len27, len35, fa86_0, fa86_1, fa86_2, fa97_0, fa97_1, fa106_0, fa106_1, fa145_0, fa145_1, fa145_2, fa145_3, fa145_4, len192]
    rw [zm_ (by omega) (by omega)]
    refine step false _ _ (Gr.refl _) rfl rfl ?_
    rw [hall, ← Bool.and_assoc, hacc, Bool.false_and]
  · simp only [zq18, zq19, zq20, zq21, zq22, zq23, zq24, zq25, zq26, zq27, zq28, zq4, zq3, zq1, zq2, zq0, zq29, zq30, zq14, zq15, zq16, zq17, zq13, zq10, zq12, zq11, zq7, zq5, zq6, zq9, zq8, zq31, zq32, ite_T, ite_F, zq33, zq34, zq35, Nat.reduceEqDiff, len22, len24, fa26_0, fa26_1, fa26_2, len27, len35, fa86_0, fa86_1, fa86_2, fa97_0, fa97_1, fa106_0, fa106_1, fa145_0, fa145_1, fa145_2, fa145_3, fa145_4, len192]
    by_cases hx0 : x < 0
    · simp only [hx0, decide_true, zq18, zq19, zq20, zq21, zq22, zq23, zq24, zq25, zq26, zq27, zq28, zq4, zq3, zq1, zq2, zq0, zq29, zq30, zq14, zq15, zq16, zq17, zq13, zq10, zq12, zq11, zq7, zq5, zq6, zq9, zq8, zq31, zq32, ite_T, ite_F, zq33, zq34, zq35, Nat.reduceEqDiff, len22, len24, fa26_0, fa26_1, fa26_2, len27, len35, fa86_0, fa86_1, fa86_2, fa97_0, fa97_1, fa106_0, fa106_1, fa145_0, fa145_1, fa145_2, fa145_3, fa145_4, len192]
      cases tok
      · simp only [show ¬ ((0 : Int) ≤ x) from by omega, decide_false, zq18, zq19, zq20, zq21, zq22, zq23, zq24, zq25, zq26, zq27, zq28, zq4, zq3, zq1, zq2, zq0, zq29, zq30, zq14, zq15, zq16, zq17, zq13, zq10, zq12, zq11, zq7, zq5, zq6, zq9, zq8, zq31, zq32, ite_T, ite_F, zq33, zq34, zq35, Nat.reduceEqDiff, len22, len24, fa26_0, fa26_1, fa26_2, len27, len35, fa86_0, fa86_1, fa86_2, fa97_0, fa97_1, fa106_0, fa106_1, fa145_0, fa145_1, fa145_2, fa145_3, fa145_4, len192]
        rw [zm_ (by omega) (by omega)]
        refine step false _ _ (Gr.refl _) rfl rfl ?_
        rw [hall, ← Bool.and_assoc, hacc]
        simp [tstC, hx0]
        omega
      · simp only [zq18, zq19, zq20, zq21, zq22, zq23, zq24, zq25, zq26, zq27, zq28, zq4, zq3, zq1, zq2, zq0, zq29, zq30, zq14, zq15, zq16, zq17, zq13, zq10, zq12, zq11, zq7, zq5, zq6, zq9, zq8, zq31, zq32, ite_T, ite_F, zq33, zq34, zq35, Nat.reduceEqDiff, len22, len24, fa26_0, fa26_1, fa26_2, len27, len35, fa86_0, fa86_1, fa86_2, fa97_0, fa97_1, fa106_0, fa106_1, fa145_0, fa145_1, fa145_2, fa145_3, fa145_4, len192]
        rw [zm_ (by omega) (by omega)]
        refine step true _ _ (Gr.refl _) rfl rfl ?_
        rw [hall, ← Bool.and_assoc, hacc]
        simp [tstC, hx0]
    · simp only [hx0, decide_false, show ((0 : Int) ≤ x) from by omega, decide_true, zq18, zq19, zq20, zq21, zq22, zq23, zq24, zq25, zq26, zq27, zq28, zq4, zq3, zq1, zq2, zq0, zq29, zq30, zq14, zq15, zq16, zq17, zq13, zq10, zq12, zq11, zq7, zq5, zq6, zq9, zq8, zq31, zq32, ite_T, ite_F, zq33, zq34, zq35, Nat.reduceEqDiff, len22, len24, fa26_0, fa26_1, fa26_2, len27, len35, fa86_0, fa86_1, fa86_2, fa97_0, fa97_1, fa106_0, fa106_1, fa145_0, fa145_1, fa145_2, fa145_3, fa145_4, len192]
      refine zjf_ (H.get 3 rfl).1 fun w7 g7 => ?_
      rw [zm_ (by omega) (by omega)]
      refine step (decide (x ∈ out2)) _ _ g7 rfl rfl ?_
      rw [hall, ← Bool.and_assoc, hacc]
      simp [tstC, hx0]
      omega
end
end Go.Proofs.Yteabbgaffgpegaa

namespace Go.Sh
open Go
inductive Gro (rs : List RuleL) : Nat → Prop
  | tok {A : Nat} {r : RuleL} {x : Int} : r ∈ rs → r.1 = (A : Int) → (∀ x ∈ r.2, ¬ x < 0 → Clo rs true x.toNat) → x ∈ r.2 → x < 0 → Gro rs A
  | non {A : Nat} {r : RuleL} {x : Int} : r ∈ rs → r.1 = (A : Int) → (∀ x ∈ r.2, ¬ x < 0 → Clo rs true x.toNat) → x ∈ r.2 → ¬ x < 0 → Gro rs x.toNat → Gro rs A
end Go.Sh
namespace Go.Proofs.Yteabbgaffgpegaa
open Go Go.Sh Go.RowKit
section
variable {w : World} {Y : Option Addr} {cy : Nat} {gm : Gram} {k : Value → World → Prop}
end
end Go.Proofs.Yteabbgaffgpegaa

namespace Go.Sh
open Go
theorem zmd_ {gm : Gram} (hg : zab_ gm = true) : ∀ r ∈ gm.rules, (0 ≤ r.1 ∧ r.1 < gm.nons) ∧ r.2.length ≤ 4 ∧ ∀ x ∈ r.2, -gm.toks ≤ x ∧ x < gm.nons := fun r hr => by
  obtain ⟨i, hi, rfl⟩ := List.getElem_of_mem hr
  have h1 := zuf_ hg hi
  have h2 := good_rights hg hi
  rw [zic_ hi] at h1 h2
  exact ⟨by omega, h2.1, fun x hx => by have := h2.2 x hx; omega⟩
end Go.Sh
namespace Go.Proofs.Yteabbgaffgpegaa
open Go Go.Sh Go.RowKit
section
variable {w : World} {Y : Option Addr} {cy : Nat} {gm : Gram} {k : Value → World → Prop}
end
open Go Go.Sh

end Go.Proofs.Yteabbgaffgpegaa

namespace Go.Sh

end Go.Sh
namespace Go.Proofs.Yteabbgaffgpegaa
open Go Go.Sh Go.RowKit

end Go.Proofs.Yteabbgaffgpegaa

namespace Go.Sh
open Go
inductive Fst (rs : List RuleL) : Nat ⊕ List Int → Int → Prop
  | rule {A : Nat} {r : RuleL} {t : Int} : r ∈ rs → r.1 = (A : Int) → (∀ x ∈ r.2, ¬ x < 0 → Clo rs true x.toNat) → Fst rs (.inr r.2) t → Fst rs (.inl A) t
  | tok {x : Int} {xs : List Int} : x < 0 → Fst rs (.inr (x :: xs)) (-1 - x)
  | here {x : Int} {xs : List Int} {t : Int} : ¬ x < 0 → Fst rs (.inl x.toNat) t → Fst rs (.inr (x :: xs)) t
  | later {x : Int} {xs : List Int} {t : Int} : ¬ x < 0 → Clo rs false x.toNat → Fst rs (.inr xs) t → Fst rs (.inr (x :: xs)) t
def Fsq (N : Nat → Prop) (F : Nat → Int → Prop) : List Int → Int → Prop
  | [], _ => False
  | x :: xs, t => (x < 0 ∧ t = -1 - x) ∨ (¬ x < 0 ∧ (F x.toNat t ∨ (N x.toNat ∧ Fsq N F xs t)))
theorem fsq_mono {N : Nat → Prop} {F G : Nat → Int → Prop} (h : ∀ A t, F A t → G A t) : ∀ {xs : List Int} {t : Int}, Fsq N F xs t → Fsq N G xs t
  | [], _, hf => hf
  | x :: xs, t, hf => by
    rcases hf with hf | ⟨h0, hf | ⟨hn, hf⟩⟩
    · exact .inl hf
    · exact .inr ⟨h0, .inl (h _ _ hf)⟩
    · exact .inr ⟨h0, .inr ⟨hn, fsq_mono h hf⟩⟩
section
variable {rs : List RuleL}
theorem fst_seq : ∀ {xs : List Int} {t : Int}, Fst rs (.inr xs) t ↔ Fsq (Clo rs false) (fun A t => Fst rs (.inl A) t) xs t
  | [], t => ⟨fun h => (by cases h), fun h => (False.elim h)⟩
  | x :: xs, t => by
    constructor
    · intro h
      cases h with
      | tok h1 => exact .inl ⟨h1, rfl⟩
      | here h1 h2 => exact .inr ⟨h1, .inl h2⟩
      | later h1 h2 h3 => exact .inr ⟨h1, .inr ⟨h2, fst_seq.1 h3⟩⟩
    · rintro (⟨h1, rfl⟩ | ⟨h1, h2 | ⟨h2, h3⟩⟩)
      · exact .tok h1
      · exact .here h1 h2
      · exact .later h1 h2 (fst_seq.2 h3)
abbrev Made (rs : List RuleL) (xs : List Int) : Prop := ∀ x ∈ xs, ¬ x < 0 → Clo rs true x.toNat
abbrev Nulls (rs : List RuleL) (xs : List Int) : Prop := ∀ x ∈ xs, ¬ x < 0 ∧ Clo rs false x.toNat
theorem zbp_ {F : Nat → Int → Prop} (hF : ∀ r ∈ rs, ∀ A : Nat, r.1 = (A : Int) → Made rs r.2 → ∀ t, Fsq (Clo rs false) F r.2 t → F A t) {c : Nat ⊕ List Int} {t : Int} (h : Fst rs c t) :
    match c with | .inl A => F A t | .inr xs => Fsq (Clo rs false) F xs t := by
  induction h with
  | rule h1 h2 h3 _ ih => exact hF _ h1 _ h2 h3 _ ih
  | tok h1 => exact .inl ⟨h1, rfl⟩
  | here h1 _ ih => exact .inr ⟨h1, .inl ih⟩
  | later h1 h2 _ ih => exact .inr ⟨h1, .inr ⟨h2, ih⟩⟩
theorem zih_ {c : Nat ⊕ List Int} {t : Int} (h : Fst rs c t) (P : Int → Prop) (hP : ∀ r ∈ rs, ∀ x ∈ r.2, x < 0 → P (-1 - x)) :
    match c with | .inl _ => P t | .inr xs => (∀ x ∈ xs, x < 0 → P (-1 - x)) → P t := by
  induction h with
  | rule h1 _ _ _ ih => exact ih (hP _ h1)
  | tok h1 => exact fun h => h _ (List.mem_cons_self ..) h1
  | here h1 _ ih => exact fun _ => ih
  | later h1 h2 _ ih => exact fun h => ih fun x hx => h x (List.mem_cons_of_mem _ hx)
theorem yi_fst {c : Nat ⊕ List Int} {u : List Int} (h : Yi rs c u) : ∀ {t : Int} {v : List Int}, u = t :: v → Fst rs c t := by
  induction h with
  | rule h1 h2 h3 ih => exact fun e => .rule h1 h2 (yi_clo (tok := true) h3 (.inl rfl)).2 (ih e)
  | nil => exact fun e => by cases e
  | @tok x xs u h1 _ _ =>
    intro t v e
    injection e with e1 _
    rw [← e1]
    exact .tok h1
  | @non x xs u v h1 h2 _ ih1 ih2 =>
    intro t z e
    cases u with
    | nil => exact .later h1 (clo_false.2 h2) (ih2 e)
    | cons y u =>
      injection e with e1 _
      rw [← e1]
      exact .here h1 (ih1 rfl)
theorem yi_nulls : ∀ {xs : List Int}, Yi rs (.inr xs) [] ↔ Nulls rs xs
  | [] => ⟨fun _ x hx => by simp at hx, fun _ => .nil⟩
  | x :: xs => by
    constructor
    · intro h
      by_cases hx : x < 0
      · obtain ⟨v, e, _⟩ := (yi_tok hx).1 h
        cases e
      · obtain ⟨v, z, e, h1, h2⟩ := (yi_non hx).1 h
        obtain ⟨rfl, rfl⟩ := List.append_eq_nil_iff.1 e.symm
        intro y hy
        rcases List.mem_cons.1 hy with rfl | hy
        · exact ⟨hx, clo_false.2 h1⟩
        · exact yi_nulls.1 h2 y hy
    · intro h
      obtain ⟨h1, h2⟩ := h x (List.mem_cons_self ..)
      have := Yi.non h1 (clo_false.1 h2) (yi_nulls.2 fun y hy => h y (List.mem_cons_of_mem _ hy))
      rwa [List.append_nil] at this
theorem zvh_ {xs : List Int} (h : Nulls rs xs) : Made rs xs := fun x hx h0 => by
  exact clo_true.2 ⟨[], clo_false.1 (h x hx).2⟩
end
open Classical in
noncomputable def begV (gm : Gram) (xs : List Int) : List Int := if Made gm.rules xs then setL gm.toks.toNat (fun t => Fst gm.rules (.inr xs) t) else []
open Classical in
noncomputable def nulV (gm : Gram) (xs : List Int) : Bool := decide (Nulls gm.rules xs)
noncomputable def firV (gm : Gram) (xs : List Int) : List Int × Bool × Bool := if (zab_ gm && ztd_ gm xs 4) = true then (begV gm xs, nulV gm xs, true) else ([], false, false)
theorem seqV_yi {gm : Gram} {xs ws : List Int} (hg : zab_ gm = true) (hw : zyd_ gm.toks ws = true) (hf : ztd_ gm xs 4 = true) : (seqV gm xs ws).2 = true ∧ ((seqV gm xs ws).1 = true ↔ Yi gm.rules (.inr xs) ws) := by
  unfold seqV
  rw [if_pos (by rw [wordG, hg, hw, hf]; rfl)]
  refine ⟨rfl, ?_⟩
  show zxb_ (spanT gm.rules ws) ws xs 0 ws.length = true ↔ _
  rw [fits_iff (good_lefts hg) (zuh_ hg) (wordB_of hw).1 (Nat.le_refl _), der_yi (Nat.zero_le _) (Nat.le_refl _), cut_all]
theorem begV_mem {gm : Gram} {xs : List Int} (hm : Made gm.rules xs) (hs : ∀ x ∈ xs, -gm.toks ≤ x) (hr : ∀ r ∈ gm.rules, ∀ x ∈ r.2, -gm.toks ≤ x) {t : Int} : t ∈ begV gm xs ↔ Fst gm.rules (.inr xs) t := by
  unfold begV
  rw [if_pos hm, setL_mem]
  constructor
  · rintro ⟨a, rfl, _, h⟩
    exact h
  · intro h
    have := zih_ h (fun t => 0 ≤ t ∧ t < gm.toks) (fun r h1 x h2 h3 => by have := hr r h1 x h2; omega) (fun x h2 h3 => by have := hs x h2; omega)
    exact ⟨t.toNat, by omega, by omega, by rw [show ((t.toNat : Nat) : Int) = t from by omega]; exact h⟩
section
variable {P : Program} {S : WS} {k : Value → Prop}
theorem zup_ {t m d : Nat} {xs ys : Array Value} {r : Bool} (hm : m ≤ 10000) (hk : P.keyTypeAt m t = true) (ht : P.tiled m t = true) (fx : (Value.agg xs).formed P t = true) (fy : (Value.agg ys).formed P t = true)
    (h1 : ∃ L, P.keyLits d t xs.toList = some L) (h2 : ∃ L, P.keyLits d t ys.toList = some L) (hr : r = true ↔ xs.toList = ys.toList) (w : World) : (Op.equal t (.agg xs) (.agg ys)).run P w = .ok r w := by
  obtain ⟨L, h1⟩ := h1
  obtain ⟨M, h2⟩ := h2
  obtain ⟨r', hr', hiff⟩ := run_equalIn_deep (10000 - m) m t hk w d d (.agg xs) (.agg ys) L M fx fy h1 h2
  rw [show 10000 - m + m = 10000 by omega] at hr'
  have hr' : (Op.equal t (.agg xs) (.agg ys)).run P w = .ok r' w := hr'
  rw [hr']
  congr 1
  rw [Bool.eq_iff_iff, hiff, hr]
  constructor
  · intro e
    rw [cells_of_lits m t ht _ _ _ h1, cells_of_lits m t ht _ _ _ h2, e]
  · intro e
    rw [e, h2] at h1
    exact (Option.some.inj h1).symm
theorem guard_agg {op : BinOp} {t : TypeId} {x y : Operand} {xs ys : Array Value} (hg : P.eqGuardType P.depth t = false) (w : World) : (eqGuard op t x y (.agg xs) (.agg ys)).run P w = .ok () w := by
  unfold eqGuard
  cases op <;> simp [program, Sem.run, hg]
theorem rd_neq_agg {t m d : Nat} {c : Bool} {xs ys : Array Value} {r : Bool} (hm : m ≤ 10000) (hk : P.keyTypeAt m t = true) (ht : P.tiled m t = true) (hg : P.eqGuardType P.depth t = false) (fx : (Value.agg xs).formed P t = true) (fy : (Value.agg ys).formed P t = true)
    (h1 : ∃ L, P.keyLits d t xs.toList = some L) (h2 : ∃ L, P.keyLits d t ys.toList = some L) (hr : r = true ↔ xs.toList = ys.toList) : Rd P S (sBin .neq t c (.agg xs) (.agg ys)) k = k (.bool (!r)) := zrb_ fun w _ => by
  simp only [sBin, Sem.run_bind, guard_agg hg, Result.andThen, binOp, zup_ hm hk ht fx fy h1 h2 hr w]
  rfl
def BoolT (P : Program) (d t n : Nat) : Prop := ∀ B : List Bool, B.length = n → ∃ L, P.keyLits d t (B.map Value.bool) = some L
theorem boolT_one {d t : Nat} (hu : P.underlying t = some .bool) : BoolT P (d + 1) t 1 := fun B hB => by
  match B, hB with
  | [b], _ => exact ⟨[.bool b], by simp [Program.keyLits, hu]⟩
theorem mapM_ex {α β : Type} {f : α → Option β} : ∀ {l : List α}, (∀ a ∈ l, ∃ b, f a = some b) → ∃ bs, l.mapM f = some bs
  | [], _ => ⟨[], rfl⟩
  | a :: l, h => by
    obtain ⟨b, hb⟩ := h a (List.mem_cons_self ..)
    obtain ⟨bs, hbs⟩ := mapM_ex (l := l) fun x hx => h x (List.mem_cons_of_mem _ hx)
    exact ⟨b :: bs, by simp [List.mapM_cons, hb, hbs]⟩
theorem zki_ {d t e n m : Nat} (hu : P.underlying t = some (.array n e)) (hc : P.cellsOf t = n * m) (he : P.cellsOf e = m) (h : BoolT P d e m) : BoolT P (d + 1) t (n * m) := fun B hB => by
  have key : ∃ bs, (List.range n).mapM (fun i => P.keyLits d e (((B.map Value.bool).drop (i * P.cellsOf e)).take (P.cellsOf e))) = some bs := mapM_ex fun i hi => by
    have hi := List.mem_range.1 hi
    rw [he, ← List.map_drop, ← List.map_take]
    refine h _ ?_
    rw [List.length_take, List.length_drop, hB]
    have : (i + 1) * m ≤ n * m := Nat.mul_le_mul_right m hi
    rw [Nat.add_mul] at this
    omega
  obtain ⟨bs, hbs⟩ := key
  refine ⟨bs.flatten, ?_⟩
  unfold Program.keyLits
  rw [hu]
  dsimp only
  rw [if_pos (by simp [hB, hc]), hbs]
  rfl
theorem zbr_ {d t n : Nat} {fs : Array Field} (hu : P.underlying t = some (.struct fs)) (hc : P.cellsOf t = n) (hn : fs.all (·.name != "_") = true) (h : ∀ f ∈ fs.toList, f.offset + P.cellsOf f.type ≤ n ∧ BoolT P d f.type (P.cellsOf f.type)) : BoolT P (d + 1) t n := fun B hB => by
  have key : ∃ bs, fs.toList.mapM (fun f => P.keyLits d f.type (((B.map Value.bool).drop f.offset).take (P.cellsOf f.type))) = some bs := mapM_ex fun f hf => by
    rw [← List.map_drop, ← List.map_take]
    refine (h f hf).2 _ ?_
    rw [List.length_take, List.length_drop, hB]
    have := (h f hf).1
    omega
  obtain ⟨bs, hbs⟩ := key
  refine ⟨bs.flatten, ?_⟩
  unfold Program.keyLits
  rw [hu]
  dsimp only
  rw [if_pos ⟨by simp [hB, hc], hn⟩, hbs]
  rfl
end
section
variable {F : Nat → Prop} {w w' : World} {rs : List RuleL} {cells : List Value}
end
end Go.Sh
namespace Go.Proofs.Yteabbgaffgpegaa
open Go Go.Sh Go.RowKit
section
variable {w0 w : World} {L : List Thing} {k : Value → World → Prop}
end
section
variable {w : World} {Y : Option Addr} {cy : Nat} {gm : Gram} {k : Value → World → Prop}
end
end Go.Proofs.Yteabbgaffgpegaa

namespace Go.Sh
open Go
theorem RulesF.same {F : Nat → Prop} {w w' : World} {X : Option Addr} {rs : List RuleL} (h : RulesF F w X rs) (hs : ∀ q, F q → w'.heap[q]? = w.heap[q]?) : RulesF F w' X rs := by
  refine ⟨h.le, h.ptr, h.foot, fun j hj => ?_⟩
  obtain ⟨Y, c, h1, h2, h3, h4⟩ := h.row j hj
  have hb : w'.heap[(ad X).block]? = w.heap[(ad X).block]? := hs _ (h.foot (by omega))
  have cell : ∀ i, w'.cell? ((ad X).add i) = w.cell? ((ad X).add i) := fun i => by
    unfold World.cell?
    rw [zac_, hb]
  exact ⟨Y, c, by rw [cell]; exact h1, by rw [cell]; exact h2, h3, h4.same' hs⟩
end Go.Sh
namespace Go.Proofs.Yteabbgaffgpegaa
open Go Go.Sh Go.RowKit
section
variable {w : World} {Y X Z : Option Addr} {cy cx cz : Nat} {gm g2 : Gram} {ws : List Int} {k : Value → World → Prop}
end
end Go.Proofs.Yteabbgaffgpegaa

namespace Go.Sh
open Go
end Go.Sh
namespace Go.Proofs.Yteabbgaffgpegaa
open Go Go.Sh Go.RowKit
section
variable {w : World} {Y : Option Addr} {cy : Nat} {gm : Gram} {k : Value → World → Prop}
end
end Go.Proofs.Yteabbgaffgpegaa

namespace Go.Sh
open Go Go.WideMaps
section
variable {P : Program} {k : Value → World → Prop} {w0 w : World} {L : List Thing} {Good : Value → Value → Prop}
end
end Go.Sh
namespace Go.Proofs.Yteabbgaffgpegaa
open Go Go.Sh Go.RowKit Go.WideMaps
open Go Go.Sh


open Go Go.Sh Go.RowKit
end Go.Proofs.Yteabbgaffgpegaa

namespace Go.Sh
open Go
structure TabR (w : World) (X : Option Addr) (nons n m : Nat) (t : Nat → Nat → Nat → Nat → Nat) : Prop where
  ptr : 0 < nons → X = some (ad X)
  row : ∀ A, A < nons → ∃ Y c, w.cell? ((ad X).add A) = some (.slice Y (n * n) c) ∧ Y = some (ad Y) ∧ ∀ i j, i < n → j < n → ∃ Z z, w.cell? ((ad Y).add (i * n + j)) = some (.slice Z (m + 1) z) ∧ Z = some (ad Z) ∧ ∀ k, k ≤ m → w.cell? ((ad Z).add k) = some (.int .i64 (t A i j k))
theorem TabR.gr {w w' : World} {X : Option Addr} {nons n m : Nat} {t : Nat → Nat → Nat → Nat → Nat} (h : TabR w X nons n m t) (g : Gr w w') : TabR w' X nons n m t := ⟨h.ptr, fun A hA => by
  obtain ⟨Y, c, h1, h2, h3⟩ := h.row A hA
  refine ⟨Y, c, g.cell h1, h2, fun i j hi hj => ?_⟩
  obtain ⟨Z, z, h4, h5, h6⟩ := h3 i j hi hj
  exact ⟨Z, z, g.cell h4, h5, fun k hk => g.cell (h6 k hk)⟩⟩
end Go.Sh
namespace Go.Proofs.Yteabbgaffgpegaa
open Go Go.Sh Go.RowKit
end Go.Proofs.Yteabbgaffgpegaa

namespace Go.Sh
open Go
structure Fam (e : Nat) (w : World) (B : Nat) (ls : List (List Int)) (ps : Nat → Option Addr × Nat) : Prop where
  own : ∀ j, j < ls.length → Own e w B (ps j).1 (ps j).2 (rgt ls j)
  two : ∀ i j, i < ls.length → j < ls.length → i ≠ j → blk (ps i).1 = none ∨ blk (ps i).1 ≠ blk (ps j).1
def FootL (ps : Nat → Option Addr × Nat) (n q : Nat) : Prop := ∃ l, l < n ∧ blk (ps l).1 = some q
section
variable {e B B' : Nat} {w w' w0 : World} {ls : List (List Int)} {ps : Nat → Option Addr × Nat} {L : List Thing}
theorem Fam.same (h : Fam e w B ls ps) (hs : ∀ q, FootL ps ls.length q → w'.heap[q]? = w.heap[q]?) : Fam e w' B ls ps :=
  ⟨fun j hj => Row.same (h.own j hj) fun q hq => hs q ⟨j, hj, hq⟩, h.two⟩
theorem Fam.up (h : Fam e w B ls ps) (hs : ∀ q, FootL ps ls.length q → B' ≤ q) : Fam e w B' ls ps :=
  ⟨fun j hj => Row.up (h.own j hj) fun q hq => hs q ⟨j, hj, hq⟩, h.two⟩
theorem Fam.mono (h : Fam e w B ls ps) (hb : B' ≤ B) : Fam e w B' ls ps := ⟨fun j hj => Row.mono (h.own j hj) hb, h.two⟩
theorem Fam.foot (h : Fam e w B ls ps) {q : Nat} (hq : FootL ps ls.length q) : B ≤ q ∧ q < w.heap.size := by
  obtain ⟨l, hl, hq⟩ := hq
  exact Row.ge (h.own l hl) hq
end
end Go.Sh
namespace Go.Proofs.Yteabbgaffgpegaa
open Go Go.Sh Go.RowKit
end Go.Proofs.Yteabbgaffgpegaa

namespace Go.Sh
open Go
def idxT (n A i j : Nat) : Nat := A * (n * n) + (i * n + j)
theorem idxT_lt {nons n A i j : Nat} (hA : A < nons) (hi : i < n) (hj : j < n) : idxT n A i j < nons * (n * n) := by
  have h1 := zaf_ hi hj
  have h2 : (A + 1) * (n * n) ≤ nons * (n * n) := Nat.mul_le_mul_right _ hA
  rw [Nat.add_mul] at h2
  unfold idxT
  omega
theorem idxT_inj {n A i j A' i' j' : Nat} (hi : i < n) (hj : j < n) (hi' : i' < n) (hj' : j' < n) (h : idxT n A i j = idxT n A' i' j') : A = A' ∧ i = i' ∧ j = j' := by
  have h1 := zaf_ hi hj
  have h2 := zaf_ hi' hj'
  have hn : 0 < n := by omega
  have hnn : 0 < n * n := Nat.mul_pos hn hn
  unfold idxT at h
  have e1 : A = A' := by
    have := congrArg (· / (n * n)) h
    simp only [Nat.mul_comm _ (n * n), Nat.mul_add_div hnn, Nat.div_eq_of_lt h1, Nat.div_eq_of_lt h2, Nat.add_zero] at this
    exact this
  subst e1
  have h3 : i * n + j = i' * n + j' := by omega
  have e2 : i = i' := by
    have := congrArg (· / n) h3
    simp only [Nat.mul_comm _ n, Nat.mul_add_div hn, Nat.div_eq_of_lt hj, Nat.div_eq_of_lt hj', Nat.add_zero] at this
    exact this
  subst e2
  exact ⟨rfl, rfl, by omega⟩
theorem rgt_put {ls : List (List Int)} {i j : Nat} {l : List Int} (hi : i < ls.length) : rgt (ls.set i l) j = if j = i then l else rgt ls j := by
  simp only [rgt, List.getD_eq_getElem?_getD, List.getElem?_set]
  by_cases hij : i = j
  · subst hij
    simp [hi]
  · rw [if_neg hij, if_neg (fun e => hij e.symm)]
theorem getD_put {l : List Int} {i j : Nat} {x : Int} (hi : i < l.length) : (l.set i x).getD j 0 = if j = i then x else l.getD j 0 := by
  simp only [List.getD_eq_getElem?_getD, List.getElem?_set]
  by_cases hij : i = j
  · subst hij
    simp [hi]
  · rw [if_neg hij, if_neg (fun e => hij e.symm)]
structure LeafT (ls : List (List Int)) (nons n m : Nat) (t : Nat → Nat → Nat → Nat → Nat) : Prop where
  len : ls.length = nons * (n * n)
  row : ∀ A i j, A < nons → i < n → j < n → (rgt ls (idxT n A i j)).length = m + 1
  val : ∀ A i j k, A < nons → i < n → j < n → k ≤ m → (rgt ls (idxT n A i j)).getD k 0 = (t A i j k : Int)
theorem LeafT.congr {ls : List (List Int)} {nons n m : Nat} {t t' : Nat → Nat → Nat → Nat → Nat} (h : LeafT ls nons n m t) (he : ∀ A i j k, A < nons → i < n → j < n → k ≤ m → t' A i j k = t A i j k) : LeafT ls nons n m t' :=
  ⟨h.len, h.row, fun A i j k hA hi hj hk => by rw [h.val A i j k hA hi hj hk, he A i j k hA hi hj hk]⟩
theorem LeafT.put {ls : List (List Int)} {nons n m : Nat} {t t' : Nat → Nat → Nat → Nat → Nat} (h : LeafT ls nons n m t) {A i j k v : Nat} (hA : A < nons) (hi : i < n) (hj : j < n) (hk : k ≤ m) (h1 : t' A i j k = v)
    (h2 : ∀ A' i' j' k', A' < nons → i' < n → j' < n → k' ≤ m → ¬ (A' = A ∧ i' = i ∧ j' = j ∧ k' = k) → t' A' i' j' k' = t A' i' j' k') : LeafT (ls.set (idxT n A i j) ((rgt ls (idxT n A i j)).set k (v : Int))) nons n m t' := by
  have hlt : idxT n A i j < ls.length := by rw [h.len]; exact idxT_lt hA hi hj
  refine ⟨by rw [List.length_set]; exact h.len, fun A' i' j' hA' hi' hj' => ?_, fun A' i' j' k' hA' hi' hj' hk' => ?_⟩
  · rw [rgt_put hlt]
    split
    · rw [List.length_set]; exact h.row A i j hA hi hj
    · exact h.row A' i' j' hA' hi' hj'
  · rw [rgt_put hlt]
    split
    · rename_i he
      obtain ⟨rfl, rfl, rfl⟩ := idxT_inj hi' hj' hi hj he
      rw [getD_put (by rw [h.row _ _ _ hA hi hj]; omega)]
      split
      · rename_i hkk
        subst hkk
        rw [h1]
      · rename_i hkk
        rw [h.val _ _ _ _ hA hi hj hk', h2 _ _ _ _ hA hi hj hk' (fun hh => hkk hh.2.2.2)]
    · rename_i he
      rw [h.val _ _ _ _ hA' hi' hj' hk', h2 _ _ _ _ hA' hi' hj' hk' (fun hh => he (by rw [hh.1, hh.2.1, hh.2.2.1]))]
structure HeadT (hs : List (List Value)) (ps : Nat → Option Addr × Nat) (nons n m : Nat) : Prop where
  len : hs.length = nons
  row : ∀ A, A < nons → (vls hs A).length = n * n
  val : ∀ A p, A < nons → p < n * n → (vls hs A)[p]? = some (.slice (ps (A * (n * n) + p)).1 (m + 1) (ps (A * (n * n) + p)).2)
section
variable {e e1 e2 nons n m c B1 B2 : Nat} {w : World} {X : Option Addr} {hs : List (List Value)} {hp ps : Nat → Option Addr × Nat} {ls : List (List Int)} {t : Nat → Nat → Nat → Nat → Nat}
end
def keyV (a b c d : Nat) : Value := .agg #[.int .i64 (a : Int), .int .i64 (b : Int), .int .i64 (c : Int), .int .i64 (d : Int), .int .i64 0]
theorem keyV_inj {a b c d a' b' c' d' : Nat} (h : keyV a b c d = keyV a' b' c' d') : a = a' ∧ b = b' ∧ c = c' ∧ d = d' := by
  simp only [keyV, Value.agg.injEq, Array.mk.injEq, List.cons.injEq, Value.int.injEq, true_and, and_true, Int.natCast_inj] at h
  exact h
def GoodC (M : Nat) (rs : List RuleL) (ws : List Int) (key v : Value) : Prop :=
  ∃ q p i j s : Nat, q ≤ 16 ∧ p ≤ 4 ∧ i ≤ 10 ∧ j ≤ 10 ∧ s ≤ 20 ∧ key = keyV (q * 5 + p) i j s ∧ v = .int .i64 ((min M (cntR (cntC rs ws) ws ((rul rs q).2.drop p) i j s) : Nat) : Int)
theorem GoodC.get {M : Nat} {rs : List RuleL} {ws : List Int} {q p i j s : Nat} {v : Value} (hp : p ≤ 4) (h : GoodC M rs ws (keyV (q * 5 + p) i j s) v) : v = .int .i64 ((min M (cntR (cntC rs ws) ws ((rul rs q).2.drop p) i j s) : Nat) : Int) := by
  obtain ⟨q', p', i', j', s', h1, h2, h3, h4, h5, h6, rfl⟩ := h
  obtain ⟨e1, rfl, rfl, rfl⟩ := keyV_inj h6
  obtain ⟨rfl, rfl⟩ : q = q' ∧ p = p' := by omega
  rfl
theorem zcp_ {P : Program} {S : WS} {k : Value → Prop} {t e n sz by' : Nat} {z : Value} {qs : List (Nat × Value)} {cells : Array Value} {m : Nat} (ht : P.underlying t = some (.array n e)) (he : szOf P e m) (H : Inf P t z sz by') (hf : Instr.fill (fun i => some (i * m, m)) z.cells qs = some cells) : Rd P S (zx_ t qs) k = k (.agg cells) := zrb_ fun w _ => by
  obtain ⟨i, hi, hz, _, _⟩ := H
  have e0 : (zeroValue t).run P w = .ok z w := by simp [zeroValue, zye_ hi, hz]
  simp only [zx_, Instr.build, Sem.run_bind, e0, Result.andThen, run_underlying ht, zgc_ he, hf]
  rfl
end Go.Sh
namespace Go.Proofs.Yteabbgaffgpegaa
open Go Go.Sh Go.RowKit Go.WideMaps
open Go Go.Sh

def pl142 : Plans := fun _ => ⟨false, [], .nil⟩
def S142 (v0 v1 : Value) (k : Value → World → Prop) (w : World) : Prop :=
 Do Try.prog (sBox 26 v0) (fun t1 w2 =>
 Do Try.prog (zib_ 141) (fun t3 w4 =>
 Rd Try.prog (WS.at w4) (zx_ 141 []) fun t5 =>
 Do Try.prog (zib_ 141) (fun t6 w7 =>
 Do Try.prog (zu_ 141 t6 t5) (fun _ w8 =>
 zfb_ [10, 6, 11, 12, 13, 14, 15, 16, 17, 8, 18, 19, 20, 21, 22, 23, 24, 25, 26, 27, 28, 29, 30, 31, 6, 32, 14] (fun Q9 f10 w11 =>
  zk_ (f10 6)
   (Rd Try.prog (WS.at w11) (za_ 26 (f10 2) 2) fun t12 =>
   Rd Try.prog (WS.at w11) (zc_ 24 t12) fun t13 =>
   Rd Try.prog (WS.at w11) (ze_ .len #[24] 3 [false] [t13]) fun t14 =>
   zfb_ [15, 16, 17, 8, 18, 19, 20, 21, 22, 23, 24, 25, 26, 27, 28, 29, 30, 31, 6, 32, 14] (fun Q15 f16 w17 =>
    Rd Try.prog (WS.at w17) (sBin .lss 3 false (f16 14) (f16 13)) fun t18 =>
    zk_ t18
     (Join (fun K19 =>
     Rd Try.prog (WS.at w17) (zd_ 24 (f16 12) (f16 14)) fun t22 =>
     Rd Try.prog (WS.at w17) (zc_ 106 t22) fun t23 =>
     Do Try.prog (zib_ 106) (fun t24 w25 =>
     Do Try.prog (zu_ 106 t24 t23) (fun _ w26 =>
     Rd Try.prog (WS.at w26) (za_ 106 t24 0) fun t27 =>
     Rd Try.prog (WS.at w26) (zc_ 3 t27) fun t28 =>
     Rd Try.prog (WS.at w26) (zd_ 141 (f16 5) t28) fun t29 =>
     Rd Try.prog (WS.at w26) (zc_ 4 t29) fun t30 =>
     Rd Try.prog (WS.at w26) (sUn .not t30) fun t31 =>
     zb_ t31 true (fun k w' => k (f16 1) w') (fun t32 w33 =>
     zb_ t31 true (fun k w' => Rd Try.prog (WS.at w33) (zc_ 106 t24) fun v => k v w') (fun t34 w35 =>
     zb_ t31 true (fun k w' => Rd Try.prog (WS.at w35) (zc_ 141 (f16 5)) fun v => k v w') (fun t36 w37 =>
     zb_ t31 true (fun k w' => Do Try.prog (zid_ t32 [t34, t36] 4) k w') (fun t38 w39 =>
     Rd Try.prog (WS.at w39) (zcb_ t31 t38 (.bool false)) fun t40 =>
     zk_ t40
      (Rd Try.prog (WS.at w39) (za_ 106 t24 0) fun t41 =>
      Rd Try.prog (WS.at w39) (zc_ 3 t41) fun t42 =>
      Rd Try.prog (WS.at w39) (zd_ 141 (f16 5) t42) fun t43 =>
      Do Try.prog (zu_ 4 t43 (.bool true)) (fun _ w44 =>
      K19 (F.upd (F.upd (F.upd (F.upd (F.upd (F.upd (F.upd (F.upd (F.upd (F.upd (F.upd (F.upd (F.upd (F.upd (F.upd (F.upd (F.upd (F.upd (F.upd f16 15 t18) 16 t22) 17 t23) 8 t24) 18 t27) 19 t28) 20 t29) 21 t30) 22 t31) 23 t31) 24 t32) 25 t34) 26 t36) 27 t38) 28 t40) 29 t41) 30 t42) 31 t43) 6 (.bool true)) w44) w39)
      (K19 (F.upd (F.upd (F.upd (F.upd (F.upd (F.upd (F.upd (F.upd (F.upd (F.upd (F.upd (F.upd (F.upd (F.upd (F.upd f16 15 t18) 16 t22) 17 t23) 8 t24) 18 t27) 19 t28) 20 t29) 21 t30) 22 t31) 23 t31) 24 t32) 25 t34) 26 t36) 27 t38) 28 t40) w39)) w37) w35) w33) w26) w25) w17) (fun f20 w21 =>
     Rd Try.prog (WS.at w21) (sBin .add 3 true (f20 14) (.int .i64 1)) fun t45 =>
     Q15 .normal (F.upd (F.upd f20 32 t45) 14 t45) w21))
     (Q15 (.exit 2) (F.upd f16 15 t18) w17))
    (zr_ 2 (zr_ 1 Q9))
    (F.upd (F.upd (F.upd (F.upd (F.upd (F.upd f10 10 (f10 6)) 6 (.bool false)) 11 t12) 12 t13) 13 t14) 14 (.int .i64 0)) w11)
   (Q9 (.exit 0) (F.upd f10 10 (f10 6)) w11))
  (zr_ 0 (seqQ (fun f46 w47 =>
 Rd Try.prog (WS.at w47) (zc_ 141 (f46 5)) fun t48 =>
 Do Try.prog (zu_ 141 (f46 4) t48) (fun _ w49 =>
 Rd Try.prog (WS.at w49) (zjb_ 141 (f46 4)) fun t50 => k t50 w49) w47) (zt_ Try.prog [.cell 4 141] k)))
  (F.upd (F.upd (F.upd (F.upd (F.upd (zp_ [v0, v1]) 2 t1) 4 t3) 9 t5) 5 t6) 6 (.bool true)) w8) w7) w4) w2) w
theorem body142 : Try.f142.body = some (zg_ Try.f142) := by kernel_rfl
theorem same142 (v0 v1 : Value) (k : Value → World → Prop) (w : World) : wpF Try.prog pl142 (zg_ Try.f142) (zt_ Try.prog Try.f142.results.toList k) (zp_ [v0, v1]) w = S142 v0 v1 k w := by kernel_rfl
theorem enter142 {v0 v1 : Value} {k : Value → World → Prop} {w : World} (h : S142 v0 v1 k w) : CallK Try.prog 142 [v0, v1] k w :=
  zi_ (pl := pl142) zbb_ Try.func142 body142 (by kernel_rfl) (of_decide_eq_true (by kernel_rfl)) (by kernel_rfl) (by kernel_rfl) (Eq.mpr (same142 v0 v1 k w) h)

end Go.Proofs.Yteabbgaffgpegaa

namespace Go.Sh
open Go
def arrB (A : List Bool) : Value := .agg (A.map Value.bool).toArray
def atB (A : List Bool) (n : Nat) : Bool := A.getD n false
theorem ztg_ : ∀ {A : List Bool}, A.length = 6 → ∃ a b c d e f, A = [a, b, c, d, e, f]
  | [a, b, c, d, e, f], _ => ⟨a, b, c, d, e, f, rfl⟩
theorem zwd_ {A : List Bool} {n : Nat} (h : n < A.length) : (A.map Value.bool)[n]? = some (.bool (atB A n)) := by
  rw [List.getElem?_map, atB, List.getD_eq_getElem?_getD, List.getElem?_eq_getElem h]
  rfl
theorem atB_set {A : List Bool} {n m : Nat} (hn : n < A.length) : atB (A.set n true) m = true ↔ m = n ∨ atB A m = true := by
  unfold atB
  rw [List.getD_eq_getElem?_getD, List.getD_eq_getElem?_getD, List.getElem?_set]
  by_cases e : n = m
  · subst e
    simp [hn]
  · simp [e]
    exact fun h => absurd h.symm e
theorem atB_no (n : Nat) : atB (List.replicate 6 false) n = false := by
  unfold atB
  rw [List.getD_eq_getElem?_getD, List.getElem?_replicate]
  split <;> rfl
theorem count_setB {A : List Bool} {n : Nat} (hn : n < A.length) (h : atB A n = false) : (A.set n true).count true = A.count true + 1 := by
  have e : A[n] = false := by
    rw [atB, List.getD_eq_getElem?_getD, List.getElem?_eq_getElem hn] at h
    exact h
  rw [List.count_set hn, e]
  simp
theorem zwh_ {P : Program} {t : TypeId} (ht : agg P t) (hs : szOf P t 2) {F : Nat → Prop} {w w' : World} {X : Option Addr} {rs : List RuleL} (hx : RulesF F w X rs) (g : Gr w w') {j : Nat} (hj : j < rs.length) {k : Value → Prop}
    (hk : ∀ Z c, (rul rs j).2.length ≤ c → Ints w Z (rul rs j).2 → k (.agg #[.int .i64 (rul rs j).1, .slice Z (rul rs j).2.length c])) : Rd P (WS.at w') (zc_ t (.pointer (some ((ad X).add (j * 2))))) k := by
  obtain ⟨Y, c, h1, h2, h3, h4⟩ := hx.row j hj
  have h1 := g.cell h1
  have h2 := g.cell h2
  rw [zjg_ ht hs (cs := [.int .i64 (rul rs j).1, .slice Y (rul rs j).2.length c]) rfl]
  · exact hk _ _ h3 h4.is
  · intro i hi
    match i, hi with
    | 0, _ => rw [zxc_, Nat.add_zero]; exact h1
    | 1, _ => rw [zxc_]; exact h2
end Go.Sh
namespace Go.Proofs.Yteabbgaffgpegaa
open Go Go.Sh Go.RowKit
theorem zjh_ : Inf Try.prog 141 (.agg #[.bool false, .bool false, .bool false, .bool false, .bool false, .bool false]) 6 6 := zke_ (by kernel_rfl)
section
variable {w : World} {k : Value → World → Prop} {Y : Option Addr} {cy : Nat} {gm : Gram}
def Maker (fv : Value) (mk : List Bool → RuleL → Bool) (rs : List RuleL) (w : World) : Prop := ∀ w1, Gr w w1 → ∀ (r : RuleL), r ∈ rs → ∀ (Z : Option Addr) (d : Nat) (A : List Bool) (k : Value → World → Prop), A.length = 6 → kI Z r.2 d w1 → (∀ w2, Gr w1 w2 → k (.bool (mk A r)) w2) →
  Do Try.prog (zid_ fv [.agg #[.int .i64 r.1, .slice Z r.2.length d], arrB A] 4) k w1
set_option maxHeartbeats 12800000 in
theorem closed_c {fv : Value} {mk : List Bool → RuleL → Bool} {P : Nat → Prop} (hG : kG Y cy gm.rules w) (hl : ∀ r ∈ gm.rules, 0 ≤ r.1 ∧ r.1 < 6) (hf : Maker fv mk gm.rules w)
    (hP : ∀ A r, r ∈ gm.rules → (∀ n, atB A n = true → P n) → mk A r = true → P r.1.toNat)
    (hk : ∀ w' A, Gr w w' → A.length = 6 → (∀ n, atB A n = true → P n) → (∀ r ∈ gm.rules, mk A r = true → atB A r.1.toNat = true) → k (arrB A) w') :
    CallK Try.prog 142 [grv gm Y cy, fv] k w := by
  refine enter142 ?_
  unfold S142
  have H := Apt.nil w
  refine boxH H fun b1 w1 H => ?_
  refine zpb_ H zjh_ fun b3 w2 H => ?_
  refine rdi (zcp_ u141 sz4 zjh_ rfl) ?_
  refine zpb_ H zjh_ fun b5 w3 H => ?_
  refine zdb_ H 2 rfl sz141 rfl rfl rfl fun w4 H => ?_
  have H : Apt w w4 [bx b1 [.int .i64 gm.nons, .int .i64 gm.toks, .slice Y gm.rules.length cy] 26, bx b3 [.bool false, .bool false, .bool false, .bool false, .bool false, .bool false] 141, bx b5 ((List.replicate 6 false).map Value.bool) 141] := H
  refine zfc_ (σ := List Bool × Bool) (fun s f w' => f 6 = .bool s.2 ∧ s.1.length = 6 ∧ (∀ n, atB s.1 n = true → P n) ∧ (s.2 = false → ∀ r ∈ gm.rules, mk s.1 r = true → atB s.1 r.1.toNat = true) ∧
      Apt w w' [bx b1 [.int .i64 gm.nons, .int .i64 gm.toks, .slice Y gm.rules.length cy] 26, bx b3 [.bool false, .bool false, .bool false, .bool false, .bool false, .bool false] 141, bx b5 (s.1.map Value.bool) 141])
    (fun s => if s.2 = true then 8 - s.1.count true else 0) (List.replicate 6 false, true) ⟨rfl, rfl, (fun n hn => absurd hn (by rw [atB_no]; decide)), (fun h => by cases h), H⟩ ?_
  clear H
  rintro ⟨A, more⟩ f w5 N hag ⟨f6, hlen, hs, hcl, H⟩ hN
  dsimp only at f6 hlen hs hcl H hN
  have f1 : f 1 = fv := hag 1 (by decide)
  have f2 : f 2 = ptrv b1 := hag 2 (by decide)
  have f4 : f 4 = ptrv b3 := hag 4 (by decide)
  have f5 : f 5 = ptrv b5 := hag 5 (by decide)
  simp only [f2, f4, f5, f6, zq18, zq19, zq20, zq21, zq22, zq23, zq24, zq25, zq26, zq27, zq28, zq4, zq3, zq1, zq2, zq0, zq29, zq30, zq14, zq15, zq16, zq17, zq13, zq10, zq12, zq11, zq7, zq5, zq6, zq9, zq8, zq31, zq32, ite_T, ite_F, zq33, zq34, zq35, Nat.reduceEqDiff, len22, len24, fa26_0, fa26_1, fa26_2, len27, len35, fa86_0, fa86_1, fa86_2, fa97_0, fa97_1, fa106_0, fa106_1, fa145_0, fa145_1, fa145_2, fa145_3, fa145_4, len192]
  cases more
  · simp only [f4, f5, zq18, zq19, zq20, zq21, zq22, zq23, zq24, zq25, zq26, zq27, zq28, zq4, zq3, zq1, zq2, zq0, zq29, zq30, zq14, zq15, zq16, zq17, zq13, zq10, zq12, zq11, zq7, zq5, zq6, zq9, zq8, zq31, zq32, ite_T, ite_F, zq33, zq34, zq35, Nat.reduceEqDiff, len22, len24, fa26_0, fa26_1, fa26_2, len27, len35, fa86_0, fa86_1, fa86_2, fa97_0, fa97_1, fa106_0, fa106_1, fa145_0, fa145_1, fa145_2, fa145_3, fa145_4, len192]
    have hcl := hcl rfl
    clear hN
    obtain ⟨a0, a1, a2, a3, a4, a5, rfl⟩ := ztg_ hlen
    rw [zw_ agg141 sz141 rfl (H.box 2 rfl)]
    refine zdb_ H 1 rfl sz141 rfl rfl rfl fun w6 H => ?_
    have H : Apt w w6 [bx b1 [.int .i64 gm.nons, .int .i64 gm.toks, .slice Y gm.rules.length cy] 26, bx b3 ([a0, a1, a2, a3, a4, a5].map Value.bool) 141, bx b5 ([a0, a1, a2, a3, a4, a5].map Value.bool) 141] := H
    rw [ztc_, zw_ agg141 sz141 rfl (H.box 1 rfl)]
    exact hk w6 _ H.gr rfl hs hcl
  simp only [zq18, zq19, zq20, zq21, zq22, zq23, zq24, zq25, zq26, zq27, zq28, zq4, zq3, zq1, zq2, zq0, zq29, zq30, zq14, zq15, zq16, zq17, zq13, zq10, zq12, zq11, zq7, zq5, zq6, zq9, zq8, zq31, zq32, ite_T, ite_F, zq33, zq34, zq35, Nat.reduceEqDiff, len22, len24, fa26_0, fa26_1, fa26_2, len27, len35, fa86_0, fa86_1, fa86_2, fa97_0, fa97_1, fa106_0, fa106_1, fa145_0, fa145_1, fa145_2, fa145_3, fa145_4, len192]
  rw [zhe_ (H.box 0 rfl) rfl]
  simp only [zq18, zq19, zq20, zq21, zq22, zq23, zq24, zq25, zq26, zq27, zq28, zq4, zq3, zq1, zq2, zq0, zq29, zq30, zq14, zq15, zq16, zq17, zq13, zq10, zq12, zq11, zq7, zq5, zq6, zq9, zq8, zq31, zq32, ite_T, ite_F, zq33, zq34, zq35, Nat.reduceEqDiff, len22, len24, fa26_0, fa26_1, fa26_2, len27, len35, fa86_0, fa86_1, fa86_2, fa97_0, fa97_1, fa106_0, fa106_1, fa145_0, fa145_1, fa145_2, fa145_3, fa145_4, len192]
  have hcnt : A.count true ≤ 6 := hlen ▸ List.count_le_length
  refine zhb_ gm.rules.length 0 (fun i q w' => i ≤ gm.rules.length ∧ q 14 = .int .i64 (i : Int) ∧ ∃ (A2 : List Bool) (m2 : Bool), q 6 = .bool m2 ∧ A2.length = 6 ∧ (∀ n, atB A2 n = true → P n) ∧
      (m2 = false → A2 = A ∧ ∀ z, z < i → mk A (rul gm.rules z) = true → atB A (rul gm.rules z).1.toNat = true) ∧ (m2 = true → A.count true < A2.count true) ∧
      Apt w w' [bx b1 [.int .i64 gm.nons, .int .i64 gm.toks, .slice Y gm.rules.length cy] 26, bx b3 [.bool false, .bool false, .bool false, .bool false, .bool false, .bool false] 141, bx b5 (A2.map Value.bool) 141])
    ⟨Nat.zero_le _, rfl, A, false, rfl, hlen, hs, (fun _ => ⟨rfl, fun z hz => by omega⟩), (fun h => by cases h), H⟩ ?_
  clear H
  rintro i q w6 N2 hag2 ⟨hi, q14, A2, m2, q6, hlen2, hs2, hno, hyes, H⟩ hN2
  have q1 : q 1 = fv := (hag2 1 (by decide)).trans f1
  have q5 : q 5 = ptrv b5 := (hag2 5 (by decide)).trans f5
  have q12 : q 12 = .slice Y gm.rules.length cy := hag2 12 (by decide)
  have q13 : q 13 = .int .i64 gm.rules.length := hag2 13 (by decide)
  have hRF := hG.2.gr H.gr
  have hle := hRF.le
  simp only [q1, q5, q12, q13, q14, zq18, zq19, zq20, zq21, zq22, zq23, zq24, zq25, zq26, zq27, zq28, zq4, zq3, zq1, zq2, zq0, zq29, zq30, zq14, zq15, zq16, zq17, zq13, zq10, zq12, zq11, zq7, zq5, zq6, zq9, zq8, zq31, zq32, ite_T, ite_F, zq33, zq34, zq35, Nat.reduceEqDiff, len22, len24, fa26_0, fa26_1, fa26_2, len27, len35, fa86_0, fa86_1, fa86_2, fa97_0, fa97_1, fa106_0, fa106_1, fa145_0, fa145_1, fa145_2, fa145_3, fa145_4, len192]
  by_cases hlt : i < gm.rules.length
  case neg =>
    simp only [show ¬ ((i : Int) < (gm.rules.length : Int)) from by omega, decide_false, zq18, zq19, zq20, zq21, zq22, zq23, zq24, zq25, zq26, zq27, zq28, zq4, zq3, zq1, zq2, zq0, zq29, zq30, zq14, zq15, zq16, zq17, zq13, zq10, zq12, zq11, zq7, zq5, zq6, zq9, zq8, zq31, zq32, ite_T, ite_F, zq33, zq34, zq35, Nat.reduceEqDiff, len22, len24, fa26_0, fa26_1, fa26_2, len27, len35, fa86_0, fa86_1, fa86_2, fa97_0, fa97_1, fa106_0, fa106_1, fa145_0, fa145_1, fa145_2, fa145_3, fa145_4, len192]
    refine hN (A2, m2) _ _ ⟨q6, hlen2, hs2, fun hm r hr' hin => ?_, H⟩ ?_
    · dsimp only at hm hin ⊢
      obtain ⟨e, hall⟩ := hno hm
      subst e
      obtain ⟨z, hz, rfl⟩ := List.getElem_of_mem hr'
      have := hall z (by omega)
      rw [zic_ hz] at this
      exact this hin
    · cases m2
      · simp
        omega
      · have h1 := hyes rfl
        simp
        omega
  simp only [show ((i : Int) < (gm.rules.length : Int)) from by omega, decide_true, zq18, zq19, zq20, zq21, zq22, zq23, zq24, zq25, zq26, zq27, zq28, zq4, zq3, zq1, zq2, zq0, zq29, zq30, zq14, zq15, zq16, zq17, zq13, zq10, zq12, zq11, zq7, zq5, zq6, zq9, zq8, zq31, zq32, ite_T, ite_F, zq33, zq34, zq35, Nat.reduceEqDiff, len22, len24, fa26_0, fa26_1, fa26_2, len27, len35, fa86_0, fa86_1, fa86_2, fa97_0, fa97_1, fa106_0, fa106_1, fa145_0, fa145_1, fa145_2, fa145_3, fa145_4, len192]
  have hrm : rul gm.rules i ∈ gm.rules := by rw [zic_ hlt]; exact List.getElem_mem hlt
  have hl0 := hl _ hrm
  refine zed_ (fun f w' => f 14 = .int .i64 (i : Int) ∧ ∃ (A2 : List Bool) (m2 : Bool), f 6 = .bool m2 ∧ A2.length = 6 ∧ (∀ n, atB A2 n = true → P n) ∧
      (m2 = false → A2 = A ∧ ∀ z, z < i + 1 → mk A (rul gm.rules z) = true → atB A (rul gm.rules z).1.toNat = true) ∧ (m2 = true → A.count true < A2.count true) ∧
      Apt w w' [bx b1 [.int .i64 gm.nons, .int .i64 gm.toks, .slice Y gm.rules.length cy] 26, bx b3 [.bool false, .bool false, .bool false, .bool false, .bool false, .bool false] 141, bx b5 (A2.map Value.bool) 141]) (fun K hK => ?_) ?_
  · refine rdi (ixn24 hRF.ptr hlt) ?_
    refine zwh_ zdc_ zkb_ hG.2 H.gr hlt fun Z cz hcz hZ => ?_
    refine zpb_ H zvb_ fun b9 w7 H => ?_
    refine zdb_ H 3 rfl zkb_ rfl rfl rfl fun w8 H => ?_
    have H : Apt w w8 [bx b1 [.int .i64 gm.nons, .int .i64 gm.toks, .slice Y gm.rules.length cy] 26, bx b3 [.bool false, .bool false, .bool false, .bool false, .bool false, .bool false] 141, bx b5 (A2.map Value.bool) 141, bx b9 [.int .i64 (rul gm.rules i).1, .slice Z (rul gm.rules i).2.length cz] 106] := H
    simp only [zq18, zq19, zq20, zq21, zq22, zq23, zq24, zq25, zq26, zq27, zq28, zq4, zq3, zq1, zq2, zq0, zq29, zq30, zq14, zq15, zq16, zq17, zq13, zq10, zq12, zq11, zq7, zq5, zq6, zq9, zq8, zq31, zq32, ite_T, ite_F, zq33, zq34, zq35, Nat.reduceEqDiff, len22, len24, fa26_0, fa26_1, fa26_2, len27, len35, fa86_0, fa86_1, fa86_2, fa97_0, fa97_1, fa106_0, fa106_1, fa145_0, fa145_1, fa145_2, fa145_3, fa145_4, len192]
    rw [ldB3 (H.box 3 rfl) rfl]
    refine rdi (zvd_ hl0.1 hl0.2) ?_
    rw [zq34, Nat.zero_add]
    have hn : (rul gm.rules i).1.toNat < A2.length := by omega
    rw [ldB4 (H.box 2 rfl) (zwd_ hn)]
    have none_ : (atB A2 (rul gm.rules i).1.toNat = true ∨ mk A2 (rul gm.rules i) = false) → m2 = false → A2 = A ∧ ∀ z, z < i + 1 → mk A (rul gm.rules z) = true → atB A (rul gm.rules z).1.toNat = true := fun ho hm => by
      obtain ⟨e, hall⟩ := hno hm
      subst e
      refine ⟨rfl, fun z hz hmk => ?_⟩
      by_cases e : z = i
      · subst e
        rcases ho with ho | ho
        · exact ho
        · rw [ho] at hmk; cases hmk
      · exact hall z (by omega) hmk
    cases hset : atB A2 (rul gm.rules i).1.toNat
    case true =>
      simp only [Bool.not_true, q6, zq18, zq19, zq20, zq21, zq22, zq23, zq24, zq25, zq26, zq27, zq28, zq4, zq3, zq1, zq2, zq0, zq29, zq30, zq14, zq15, zq16, zq17, zq13, zq10, zq12, zq11, zq7, zq5, zq6, zq9, zq8, zq31, zq32, ite_T, ite_F, zq33, zq34, zq35, Nat.reduceEqDiff, len22, len24, fa26_0, fa26_1, fa26_2, len27, len35, fa86_0, fa86_1, fa86_2, fa97_0, fa97_1, fa106_0, fa106_1, fa145_0, fa145_1, fa145_2, fa145_3, fa145_4, len192]
      have H := H.erase 3
      simp only [List.eraseIdx_cons_zero, List.eraseIdx_cons_succ] at H
      exact hK _ _ ⟨q14, A2, m2, q6, hlen2, hs2, none_ (.inl hset), hyes, H⟩
    simp only [Bool.not_false, zq18, zq19, zq20, zq21, zq22, zq23, zq24, zq25, zq26, zq27, zq28, zq4, zq3, zq1, zq2, zq0, zq29, zq30, zq14, zq15, zq16, zq17, zq13, zq10, zq12, zq11, zq7, zq5, zq6, zq9, zq8, zq31, zq32, ite_T, ite_F, zq33, zq34, zq35, Nat.reduceEqDiff, len22, len24, fa26_0, fa26_1, fa26_2, len27, len35, fa86_0, fa86_1, fa86_2, fa97_0, fa97_1, fa106_0, fa106_1, fa145_0, fa145_1, fa145_2, fa145_3, fa145_4, len192]
    rw [zw_ zdc_ zkb_ rfl (H.box 3 rfl), zw_ agg141 sz141 (by simp [hlen2]) (H.box 2 rfl)]
    refine hf w8 H.gr _ hrm Z cz A2 _ hlen2 ⟨hZ.gr H.gr, hcz⟩ fun w9 g => ?_
    have H := H.step g
    cases hmk : mk A2 (rul gm.rules i)
    · simp only [zq18, zq19, zq20, zq21, zq22, zq23, zq24, zq25, zq26, zq27, zq28, zq4, zq3, zq1, zq2, zq0, zq29, zq30, zq14, zq15, zq16, zq17, zq13, zq10, zq12, zq11, zq7, zq5, zq6, zq9, zq8, zq31, zq32, ite_T, ite_F, zq33, zq34, zq35, Nat.reduceEqDiff, len22, len24, fa26_0, fa26_1, fa26_2, len27, len35, fa86_0, fa86_1, fa86_2, fa97_0, fa97_1, fa106_0, fa106_1, fa145_0, fa145_1, fa145_2, fa145_3, fa145_4, len192]
      have H := H.erase 3
      simp only [List.eraseIdx_cons_zero, List.eraseIdx_cons_succ] at H
      exact hK _ _ ⟨q14, A2, m2, q6, hlen2, hs2, none_ (.inr hmk), hyes, H⟩
    simp only [zq18, zq19, zq20, zq21, zq22, zq23, zq24, zq25, zq26, zq27, zq28, zq4, zq3, zq1, zq2, zq0, zq29, zq30, zq14, zq15, zq16, zq17, zq13, zq10, zq12, zq11, zq7, zq5, zq6, zq9, zq8, zq31, zq32, ite_T, ite_F, zq33, zq34, zq35, Nat.reduceEqDiff, len22, len24, fa26_0, fa26_1, fa26_2, len27, len35, fa86_0, fa86_1, fa86_2, fa97_0, fa97_1, fa106_0, fa106_1, fa145_0, fa145_1, fa145_2, fa145_3, fa145_4, len192]
    rw [ldB3 (H.box 3 rfl) rfl]
    refine rdi (zvd_ hl0.1 hl0.2) ?_
    rw [zq34, Nat.zero_add]
    refine zdb_ H 2 rfl sz4 rfl rfl (Nat.ble_eq_true_of_le (by simp; omega)) fun w10 H => ?_
    have e : (A2.map Value.bool).take (rul gm.rules i).1.toNat ++ (Value.bool true).cells.toList ++ (A2.map Value.bool).drop ((rul gm.rules i).1.toNat + 1) = (A2.set (rul gm.rules i).1.toNat true).map Value.bool := by
      rw [List.map_set, List.set_eq_take_append_cons_drop, if_pos (by simp; omega), List.append_assoc]
      rfl
    rw [e] at H
    have H := H.erase 3
    simp only [List.set_cons_zero, List.set_cons_succ, List.eraseIdx_cons_zero, List.eraseIdx_cons_succ] at H
    have hc3 := count_setB hn hset
    have hA2 : A.count true ≤ A2.count true := by
      cases m2
      · rw [(hno rfl).1]
        exact Nat.le_refl _
      · exact Nat.le_of_lt (hyes rfl)
    refine hK _ _ ⟨q14, _, true, rfl, by rw [List.length_set]; exact hlen2, fun n hn' => ?_, (fun h => by cases h), (fun _ => by omega), H⟩
    rcases (atB_set hn).1 hn' with rfl | h
    · exact hP A2 _ hrm hs2 hmk
    · exact hs2 n h
  clear H hno hyes hs2 hlen2
  rintro f7 w7 ⟨e14, A3, m3, e6, hlen3, hs3, hno3, hyes3, H⟩
  simp only [e14, zq18, zq19, zq20, zq21, zq22, zq23, zq24, zq25, zq26, zq27, zq28, zq4, zq3, zq1, zq2, zq0, zq29, zq30, zq14, zq15, zq16, zq17, zq13, zq10, zq12, zq11, zq7, zq5, zq6, zq9, zq8, zq31, zq32, ite_T, ite_F, zq33, zq34, zq35, Nat.reduceEqDiff, len22, len24, fa26_0, fa26_1, fa26_2, len27, len35, fa86_0, fa86_1, fa86_2, fa97_0, fa97_1, fa106_0, fa106_1, fa145_0, fa145_1, fa145_2, fa145_3, fa145_4, len192]
  rw [zm_ (by omega) (by omega)]
  exact hN2 _ _ hlt ⟨by omega, rfl, A3, m3, e6, hlen3, hs3, hno3, hyes3, H⟩
end
end Go.Proofs.Yteabbgaffgpegaa

namespace Go.Sh
open Go
def Bars (tok : Bool) (p : List Bool → Int → Bool) : Prop := ∀ A x, p A x = false ↔ ((x < 0 → tok = true) ∧ (¬ x < 0 → atB A x.toNat = true))
theorem any_not {p : Int → Bool} {xs : List Int} : (!(xs.any p)) = true ↔ ∀ x ∈ xs, p x = false := by
  rw [Bool.not_eq_true', List.any_eq_false]
  simp
theorem zbm_ {rs : List RuleL} {tok : Bool} {p : List Bool → Int → Bool} (hp : Bars tok p) (hl : ∀ r ∈ rs, 0 ≤ r.1) {A : List Bool} {r : RuleL} (hr : r ∈ rs) (hs : ∀ n, atB A n = true → Clo rs tok n) (h : (!(r.2.any (p A))) = true) : Clo rs tok r.1.toNat := by
  have h := any_not.1 h
  exact .mk hr (by have := hl r hr; omega) (fun x hx => ((hp A x).1 (h x hx)).1) (fun x hx hn => hs _ (((hp A x).1 (h x hx)).2 hn))
theorem zdp_ {rs : List RuleL} {tok : Bool} {p : List Bool → Int → Bool} (hp : Bars tok p) {A : List Bool} (hc : ∀ r ∈ rs, (!(r.2.any (p A))) = true → atB A r.1.toNat = true) {n : Nat} (h : Clo rs tok n) : atB A n = true := by
  induction h with
  | @mk B r h1 h2 h3 _ ih =>
    have := hc r h1 (any_not.2 fun x hx => (hp A x).2 ⟨h3 x hx, ih x hx⟩)
    rwa [h2, Int.toNat_natCast] at this
def barP (A : List Bool) (x : Int) : Bool := decide (0 ≤ x) && !atB A x.toNat
def barN (A : List Bool) (x : Int) : Bool := decide (x < 0) || !atB A x.toNat
theorem bars_p : Bars true barP := fun A x => by
  unfold barP
  by_cases h : x < 0
  · simp [h, show ¬ 0 ≤ x from by omega]
  · simp [h, show 0 ≤ x from by omega]
theorem bars_n : Bars false barN := fun A x => by
  unfold barN
  by_cases h : x < 0
  · simp [h]
  · simp [h]
end Go.Sh
namespace Go.Proofs.Yteabbgaffgpegaa
open Go Go.Sh Go.RowKit
section
variable {w : World} {k : Value → World → Prop} {Y : Option Addr} {cy : Nat} {gm : Gram}
def PredD (t : Nat) (fv : Value) (p : Int → Bool) (D : Int → Prop) (w : World) : Prop := ∀ w1, Gr w w1 → ∀ (x : Int), D x → ∀ (k : Value → World → Prop), (∀ w2, Gr w1 w2 → k (.bool (p x)) w2) → Do Try.prog (zid_ fv [.int .i64 x] t) k w1
theorem zcr_ {X : Option Addr} {c : Nat} {xs : List Int} {fv : Value} {p : Int → Bool} {D : Int → Prop} (hx : Ints w X xs) (hD : ∀ x ∈ xs, D x) (hp : PredD 4 fv p D w)
    (hk : ∀ (r : Int) w', Gr w w' → decide (0 ≤ r) = xs.any p → k (.int .i64 r) w') :
    CallK Try.prog 61 [.slice X xs.length c, fv] k w := by
  refine enter61 ?_
  unfold S61
  simp only [zq18, zq19, zq20, zq21, zq22, zq23, zq24, zq25, zq26, zq27, zq28, zq4, zq3, zq1, zq2, zq0, zq29, zq30, zq14, zq15, zq16, zq17, zq13, zq10, zq12, zq11, zq7, zq5, zq6, zq9, zq8, zq31, zq32, ite_T, ite_F, zq33, zq34, zq35, Nat.reduceEqDiff, len22, len24, fa26_0, fa26_1, fa26_2, len27, len35, fa86_0, fa86_1, fa86_2, fa97_0, fa97_1, fa106_0, fa106_1, fa145_0, fa145_1, fa145_2, fa145_3, fa145_4, len192]
  refine zhb_ xs.length 0 (fun i f w' => i ≤ xs.length ∧ f 8 = .int .i64 (i : Int) ∧ Gr w w' ∧ ∀ j, j < i → p (xs.getD j 0) = false) ⟨Nat.zero_le _, rfl, Gr.refl w, fun j hj => absurd hj (Nat.not_lt_zero j)⟩ ?_
  rintro i f w1 N hag ⟨hi, h8, hg, hpre⟩ hN
  have f0 : f 0 = .slice X xs.length c := hag 0 (by decide)
  have f1 : f 1 = fv := hag 1 (by decide)
  have f7 : f 7 = .int .i64 xs.length := hag 7 (by decide)
  simp only [f0, f1, f7, h8, zq18, zq19, zq20, zq21, zq22, zq23, zq24, zq25, zq26, zq27, zq28, zq4, zq3, zq1, zq2, zq0, zq29, zq30, zq14, zq15, zq16, zq17, zq13, zq10, zq12, zq11, zq7, zq5, zq6, zq9, zq8, zq31, zq32, ite_T, ite_F, zq33, zq34, zq35, Nat.reduceEqDiff, len22, len24, fa26_0, fa26_1, fa26_2, len27, len35, fa86_0, fa86_1, fa86_2, fa97_0, fa97_1, fa106_0, fa106_1, fa145_0, fa145_1, fa145_2, fa145_3, fa145_4, len192]
  by_cases hlt : i < xs.length
  · have hlt' : (i : Int) < xs.length := by omega
    have := hx.le
    simp only [hlt', decide_true, zq18, zq19, zq20, zq21, zq22, zq23, zq24, zq25, zq26, zq27, zq28, zq4, zq3, zq1, zq2, zq0, zq29, zq30, zq14, zq15, zq16, zq17, zq13, zq10, zq12, zq11, zq7, zq5, zq6, zq9, zq8, zq31, zq32, ite_T, ite_F, zq33, zq34, zq35, Nat.reduceEqDiff, len22, len24, fa26_0, fa26_1, fa26_2, len27, len35, fa86_0, fa86_1, fa86_2, fa97_0, fa97_1, fa106_0, fa106_1, fa145_0, fa145_1, fa145_2, fa145_3, fa145_4, len192]
    rw [zwb_ hx.ptr hlt, ld3 ((hx.gr hg).cell i hlt)]
    refine hp w1 hg _ (hD _ (zec_ hlt)) _ fun w2 g2 => ?_
    have g2' := zf_ hg g2
    cases hb : p (xs.getD i 0)
    · simp only [zq18, zq19, zq20, zq21, zq22, zq23, zq24, zq25, zq26, zq27, zq28, zq4, zq3, zq1, zq2, zq0, zq29, zq30, zq14, zq15, zq16, zq17, zq13, zq10, zq12, zq11, zq7, zq5, zq6, zq9, zq8, zq31, zq32, ite_T, ite_F, zq33, zq34, zq35, Nat.reduceEqDiff, len22, len24, fa26_0, fa26_1, fa26_2, len27, len35, fa86_0, fa86_1, fa86_2, fa97_0, fa97_1, fa106_0, fa106_1, fa145_0, fa145_1, fa145_2, fa145_3, fa145_4, len192]
      rw [zm_ (by omega) (by omega)]
      refine hN _ _ hlt ⟨hlt, rfl, g2', fun j hj => ?_⟩
      rcases Nat.lt_succ_iff_lt_or_eq.1 hj with h | rfl
      · exact hpre j h
      · exact hb
    · simp only [zq18, zq19, zq20, zq21, zq22, zq23, zq24, zq25, zq26, zq27, zq28, zq4, zq3, zq1, zq2, zq0, zq29, zq30, zq14, zq15, zq16, zq17, zq13, zq10, zq12, zq11, zq7, zq5, zq6, zq9, zq8, zq31, zq32, ite_T, ite_F, zq33, zq34, zq35, Nat.reduceEqDiff, len22, len24, fa26_0, fa26_1, fa26_2, len27, len35, fa86_0, fa86_1, fa86_2, fa97_0, fa97_1, fa106_0, fa106_1, fa145_0, fa145_1, fa145_2, fa145_3, fa145_4, len192]
      refine hk i w2 g2' ?_
      rw [decide_eq_true (by omega), eq_comm, List.any_eq_true]
      exact ⟨_, zec_ hlt, hb⟩
  · simp only [show ¬ (i : Int) < xs.length from by omega, decide_false, zq18, zq19, zq20, zq21, zq22, zq23, zq24, zq25, zq26, zq27, zq28, zq4, zq3, zq1, zq2, zq0, zq29, zq30, zq14, zq15, zq16, zq17, zq13, zq10, zq12, zq11, zq7, zq5, zq6, zq9, zq8, zq31, zq32, ite_T, ite_F, zq33, zq34, zq35, Nat.reduceEqDiff, len22, len24, fa26_0, fa26_1, fa26_2, len27, len35, fa86_0, fa86_1, fa86_2, fa97_0, fa97_1, fa106_0, fa106_1, fa145_0, fa145_1, fa145_2, fa145_3, fa145_4, len192]
    refine hk (-1) w1 hg ?_
    rw [decide_eq_false (by decide), eq_comm, List.any_eq_false]
    intro x hx'
    obtain ⟨j, hj, rfl⟩ := List.getElem_of_mem hx'
    have := hpre j (by omega)
    rw [List.getD_eq_getElem?_getD, List.getElem?_eq_getElem hj] at this
    simpa using this
theorem zff_ {X : Option Addr} {c : Nat} {xs : List Int} {fv : Value} {p : Int → Bool} {D : Int → Prop} (hx : Ints w X xs) (hD : ∀ x ∈ xs, D x) (hp : PredD 4 fv p D w)
    (hk : ∀ w', Gr w w' → k (.bool (xs.any p)) w') : CallK Try.prog 101 [.slice X xs.length c, fv] k w := by
  refine enter101 ?_
  unfold S101
  refine zcr_ hx hD hp fun r w' g h => ?_
  simp only [zq18, zq19, zq20, zq21, zq22, zq23, zq24, zq25, zq26, zq27, zq28, zq4, zq3, zq1, zq2, zq0, zq29, zq30, zq14, zq15, zq16, zq17, zq13, zq10, zq12, zq11, zq7, zq5, zq6, zq9, zq8, zq31, zq32, ite_T, ite_F, zq33, zq34, zq35, Nat.reduceEqDiff, len22, len24, fa26_0, fa26_1, fa26_2, len27, len35, fa86_0, fa86_1, fa86_2, fa97_0, fa97_1, fa106_0, fa106_1, fa145_0, fa145_1, fa145_2, fa145_3, fa145_4, len192]
  rw [h]
  exact hk w' g
theorem barP_c {b : Nat} {A : List Bool} {x : Int} (hlen : A.length = 6) (hx : x < 6) (hB : Box w b (A.map Value.bool) 141) (hk : k (.bool (barP A x)) w) :
    CallK Try.prog 144 [.int .i64 x, ptrv b] k w := by
  refine enter144 ?_
  unfold S144
  unfold barP at hk
  simp only [zq18, zq19, zq20, zq21, zq22, zq23, zq24, zq25, zq26, zq27, zq28, zq4, zq3, zq1, zq2, zq0, zq29, zq30, zq14, zq15, zq16, zq17, zq13, zq10, zq12, zq11, zq7, zq5, zq6, zq9, zq8, zq31, zq32, ite_T, ite_F, zq33, zq34, zq35, Nat.reduceEqDiff, len22, len24, fa26_0, fa26_1, fa26_2, len27, len35, fa86_0, fa86_1, fa86_2, fa97_0, fa97_1, fa106_0, fa106_1, fa145_0, fa145_1, fa145_2, fa145_3, fa145_4, len192]
  by_cases h : 0 ≤ x
  · simp only [h, decide_true, zq18, zq19, zq20, zq21, zq22, zq23, zq24, zq25, zq26, zq27, zq28, zq4, zq3, zq1, zq2, zq0, zq29, zq30, zq14, zq15, zq16, zq17, zq13, zq10, zq12, zq11, zq7, zq5, zq6, zq9, zq8, zq31, zq32, ite_T, ite_F, zq33, zq34, zq35, Nat.reduceEqDiff, len22, len24, fa26_0, fa26_1, fa26_2, len27, len35, fa86_0, fa86_1, fa86_2, fa97_0, fa97_1, fa106_0, fa106_1, fa145_0, fa145_1, fa145_2, fa145_3, fa145_4, len192]
    refine rdi (zvd_ h hx) ?_
    rw [zq34, Nat.zero_add, ldB4 hB (zwd_ (by omega))]
    simp only [zq18, zq19, zq20, zq21, zq22, zq23, zq24, zq25, zq26, zq27, zq28, zq4, zq3, zq1, zq2, zq0, zq29, zq30, zq14, zq15, zq16, zq17, zq13, zq10, zq12, zq11, zq7, zq5, zq6, zq9, zq8, zq31, zq32, ite_T, ite_F, zq33, zq34, zq35, Nat.reduceEqDiff, len22, len24, fa26_0, fa26_1, fa26_2, len27, len35, fa86_0, fa86_1, fa86_2, fa97_0, fa97_1, fa106_0, fa106_1, fa145_0, fa145_1, fa145_2, fa145_3, fa145_4, len192]
    simpa only [h, decide_true, Bool.true_and] using hk
  · simp only [h, decide_false, zq18, zq19, zq20, zq21, zq22, zq23, zq24, zq25, zq26, zq27, zq28, zq4, zq3, zq1, zq2, zq0, zq29, zq30, zq14, zq15, zq16, zq17, zq13, zq10, zq12, zq11, zq7, zq5, zq6, zq9, zq8, zq31, zq32, ite_T, ite_F, zq33, zq34, zq35, Nat.reduceEqDiff, len22, len24, fa26_0, fa26_1, fa26_2, len27, len35, fa86_0, fa86_1, fa86_2, fa97_0, fa97_1, fa106_0, fa106_1, fa145_0, fa145_1, fa145_2, fa145_3, fa145_4, len192]
    simpa only [h, decide_false, Bool.false_and] using hk
theorem barN_c {b : Nat} {A : List Bool} {x : Int} (hlen : A.length = 6) (hx : x < 6) (hB : Box w b (A.map Value.bool) 141) (hk : k (.bool (barN A x)) w) :
    CallK Try.prog 146 [.int .i64 x, ptrv b] k w := by
  refine enter146 ?_
  unfold S146
  unfold barN at hk
  simp only [zq18, zq19, zq20, zq21, zq22, zq23, zq24, zq25, zq26, zq27, zq28, zq4, zq3, zq1, zq2, zq0, zq29, zq30, zq14, zq15, zq16, zq17, zq13, zq10, zq12, zq11, zq7, zq5, zq6, zq9, zq8, zq31, zq32, ite_T, ite_F, zq33, zq34, zq35, Nat.reduceEqDiff, len22, len24, fa26_0, fa26_1, fa26_2, len27, len35, fa86_0, fa86_1, fa86_2, fa97_0, fa97_1, fa106_0, fa106_1, fa145_0, fa145_1, fa145_2, fa145_3, fa145_4, len192]
  by_cases h : x < 0
  · simp only [h, decide_true, zq18, zq19, zq20, zq21, zq22, zq23, zq24, zq25, zq26, zq27, zq28, zq4, zq3, zq1, zq2, zq0, zq29, zq30, zq14, zq15, zq16, zq17, zq13, zq10, zq12, zq11, zq7, zq5, zq6, zq9, zq8, zq31, zq32, ite_T, ite_F, zq33, zq34, zq35, Nat.reduceEqDiff, len22, len24, fa26_0, fa26_1, fa26_2, len27, len35, fa86_0, fa86_1, fa86_2, fa97_0, fa97_1, fa106_0, fa106_1, fa145_0, fa145_1, fa145_2, fa145_3, fa145_4, len192]
    simpa only [h, decide_true, Bool.true_or] using hk
  · simp only [h, decide_false, zq18, zq19, zq20, zq21, zq22, zq23, zq24, zq25, zq26, zq27, zq28, zq4, zq3, zq1, zq2, zq0, zq29, zq30, zq14, zq15, zq16, zq17, zq13, zq10, zq12, zq11, zq7, zq5, zq6, zq9, zq8, zq31, zq32, ite_T, ite_F, zq33, zq34, zq35, Nat.reduceEqDiff, len22, len24, fa26_0, fa26_1, fa26_2, len27, len35, fa86_0, fa86_1, fa86_2, fa97_0, fa97_1, fa106_0, fa106_1, fa145_0, fa145_1, fa145_2, fa145_3, fa145_4, len192]
    refine rdi (zvd_ (by omega) hx) ?_
    rw [zq34, Nat.zero_add, ldB4 hB (zwd_ (by omega))]
    simp only [zq18, zq19, zq20, zq21, zq22, zq23, zq24, zq25, zq26, zq27, zq28, zq4, zq3, zq1, zq2, zq0, zq29, zq30, zq14, zq15, zq16, zq17, zq13, zq10, zq12, zq11, zq7, zq5, zq6, zq9, zq8, zq31, zq32, ite_T, ite_F, zq33, zq34, zq35, Nat.reduceEqDiff, len22, len24, fa26_0, fa26_1, fa26_2, len27, len35, fa86_0, fa86_1, fa86_2, fa97_0, fa97_1, fa106_0, fa106_1, fa145_0, fa145_1, fa145_2, fa145_3, fa145_4, len192]
    simpa only [h, decide_false, Bool.false_or] using hk
theorem makeP_c {A : List Bool} {r : RuleL} {Z : Option Addr} {d : Nat} (hlen : A.length = 6) (hZ : kI Z r.2 d w) (hr : ∀ x ∈ r.2, x < 6) (hk : ∀ w', Gr w w' → k (.bool (!(r.2.any (barP A)))) w') :
    CallK Try.prog 143 [.agg #[.int .i64 r.1, .slice Z r.2.length d], arrB A] k w := by
  refine enter143 ?_
  unfold S143
  refine zub_ fun b1 w1 g1 hb1 B1 => ?_
  refine zub_ fun b3 w2 g2 hb3 B3 => ?_
  have B3 : Box w2 b3 (A.map Value.bool) 141 := by
    obtain ⟨a0, a1, a2, a3, a4, a5, rfl⟩ := ztg_ hlen
    exact B3
  simp only [zq18, zq19, zq20, zq21, zq22, zq23, zq24, zq25, zq26, zq27, zq28, zq4, zq3, zq1, zq2, zq0, zq29, zq30, zq14, zq15, zq16, zq17, zq13, zq10, zq12, zq11, zq7, zq5, zq6, zq9, zq8, zq31, zq32, ite_T, ite_F, zq33, zq34, zq35, Nat.reduceEqDiff, len22, len24, fa26_0, fa26_1, fa26_2, len27, len35, fa86_0, fa86_1, fa86_2, fa97_0, fa97_1, fa106_0, fa106_1, fa145_0, fa145_1, fa145_2, fa145_3, fa145_4, len192]
  rw [zad_ (B1.gr g2) rfl]
  rw [makeFunc_]
  refine zff_ (D := fun x => x < 6) (p := barP A) (hZ.1.gr (zf_ g1 g2)) hr (fun w4 g4 x hx k hk => ?_) fun w3 g3 => ?_
  · refine callVc (caps := [ptrv b3]) ?_
    exact barP_c hlen hx (B3.gr g4) (hk w4 (Gr.refl _))
  simp only [zq18, zq19, zq20, zq21, zq22, zq23, zq24, zq25, zq26, zq27, zq28, zq4, zq3, zq1, zq2, zq0, zq29, zq30, zq14, zq15, zq16, zq17, zq13, zq10, zq12, zq11, zq7, zq5, zq6, zq9, zq8, zq31, zq32, ite_T, ite_F, zq33, zq34, zq35, Nat.reduceEqDiff, len22, len24, fa26_0, fa26_1, fa26_2, len27, len35, fa86_0, fa86_1, fa86_2, fa97_0, fa97_1, fa106_0, fa106_1, fa145_0, fa145_1, fa145_2, fa145_3, fa145_4, len192]
  exact hk w3 (zf_ (zf_ g1 g2) g3)
theorem makeN_c {A : List Bool} {r : RuleL} {Z : Option Addr} {d : Nat} (hlen : A.length = 6) (hZ : kI Z r.2 d w) (hr : ∀ x ∈ r.2, x < 6) (hk : ∀ w', Gr w w' → k (.bool (!(r.2.any (barN A)))) w') :
    CallK Try.prog 145 [.agg #[.int .i64 r.1, .slice Z r.2.length d], arrB A] k w := by
  refine enter145 ?_
  unfold S145
  refine zub_ fun b1 w1 g1 hb1 B1 => ?_
  refine zub_ fun b3 w2 g2 hb3 B3 => ?_
  have B3 : Box w2 b3 (A.map Value.bool) 141 := by
    obtain ⟨a0, a1, a2, a3, a4, a5, rfl⟩ := ztg_ hlen
    exact B3
  simp only [zq18, zq19, zq20, zq21, zq22, zq23, zq24, zq25, zq26, zq27, zq28, zq4, zq3, zq1, zq2, zq0, zq29, zq30, zq14, zq15, zq16, zq17, zq13, zq10, zq12, zq11, zq7, zq5, zq6, zq9, zq8, zq31, zq32, ite_T, ite_F, zq33, zq34, zq35, Nat.reduceEqDiff, len22, len24, fa26_0, fa26_1, fa26_2, len27, len35, fa86_0, fa86_1, fa86_2, fa97_0, fa97_1, fa106_0, fa106_1, fa145_0, fa145_1, fa145_2, fa145_3, fa145_4, len192]
  rw [zad_ (B1.gr g2) rfl]
  rw [makeFunc_]
  refine zff_ (D := fun x => x < 6) (p := barN A) (hZ.1.gr (zf_ g1 g2)) hr (fun w4 g4 x hx k hk => ?_) fun w3 g3 => ?_
  · refine callVc (caps := [ptrv b3]) ?_
    exact barN_c hlen hx (B3.gr g4) (hk w4 (Gr.refl _))
  simp only [zq18, zq19, zq20, zq21, zq22, zq23, zq24, zq25, zq26, zq27, zq28, zq4, zq3, zq1, zq2, zq0, zq29, zq30, zq14, zq15, zq16, zq17, zq13, zq10, zq12, zq11, zq7, zq5, zq6, zq9, zq8, zq31, zq32, ite_T, ite_F, zq33, zq34, zq35, Nat.reduceEqDiff, len22, len24, fa26_0, fa26_1, fa26_2, len27, len35, fa86_0, fa86_1, fa86_2, fa97_0, fa97_1, fa106_0, fa106_1, fa145_0, fa145_1, fa145_2, fa145_3, fa145_4, len192]
  exact hk w3 (zf_ (zf_ g1 g2) g3)
def SixR (rs : List RuleL) : Prop := ∀ r ∈ rs, (0 ≤ r.1 ∧ r.1 < 6) ∧ ∀ x ∈ r.2, x < 6
theorem zdr_ (hG : kG Y cy gm.rules w) (h6 : SixR gm.rules) (hk : ∀ w' A, Gr w w' → A.length = 6 → (∀ n, atB A n = true ↔ Clo gm.rules true n) → k (arrB A) w') :
    CallK Try.prog 104 [grv gm Y cy] k w := by
  refine enter104 ?_
  unfold S104
  have H := Apt.nil w
  refine boxH H fun b1 w1 H => ?_
  refine zpb_ H zjh_ fun b3 w2 H => ?_
  have H : Apt w w2 [bx b1 [.int .i64 gm.nons, .int .i64 gm.toks, .slice Y gm.rules.length cy] 26, bx b3 [.bool false, .bool false, .bool false, .bool false, .bool false, .bool false] 141] := H
  rw [zw_ zmb_ sz26 rfl (H.box 0 rfl)]
  refine closed_c (gm := gm) (P := Clo gm.rules true) (mk := fun A r => !(r.2.any (barP A))) ⟨hG.1, hG.2.gr H.gr⟩ (fun r hr => (h6 r hr).1) (fun w1 g1 r hr Z d A k hlen hZ hk => callV0 (makeP_c hlen hZ (h6 r hr).2 hk)) (fun A r hr hs h => zbm_ bars_p (fun r hr => (h6 r hr).1.1) hr hs h) fun w3 A g hlen hs hc => ?_
  have H := H.step g
  obtain ⟨a0, a1, a2, a3, a4, a5, rfl⟩ := ztg_ hlen
  refine zdb_ H 1 rfl sz141 rfl rfl rfl fun w6 H => ?_
  have H : Apt w w6 [bx b1 [.int .i64 gm.nons, .int .i64 gm.toks, .slice Y gm.rules.length cy] 26, bx b3 ([a0, a1, a2, a3, a4, a5].map Value.bool) 141] := H
  rw [ztc_, zw_ agg141 sz141 rfl (H.box 1 rfl)]
  exact hk w6 _ H.gr rfl fun n => ⟨hs n, zdp_ bars_p hc⟩
theorem nullable_c (hG : kG Y cy gm.rules w) (h6 : SixR gm.rules) (hk : ∀ w' A, Gr w w' → A.length = 6 → (∀ n, atB A n = true ↔ Clo gm.rules false n) → k (arrB A) w') :
    CallK Try.prog 105 [grv gm Y cy] k w := by
  refine enter105 ?_
  unfold S105
  have H := Apt.nil w
  refine boxH H fun b1 w1 H => ?_
  refine zpb_ H zjh_ fun b3 w2 H => ?_
  have H : Apt w w2 [bx b1 [.int .i64 gm.nons, .int .i64 gm.toks, .slice Y gm.rules.length cy] 26, bx b3 [.bool false, .bool false, .bool false, .bool false, .bool false, .bool false] 141] := H
  rw [zw_ zmb_ sz26 rfl (H.box 0 rfl)]
  refine closed_c (gm := gm) (P := Clo gm.rules false) (mk := fun A r => !(r.2.any (barN A))) ⟨hG.1, hG.2.gr H.gr⟩ (fun r hr => (h6 r hr).1) (fun w1 g1 r hr Z d A k hlen hZ hk => callV0 (makeN_c hlen hZ (h6 r hr).2 hk)) (fun A r hr hs h => zbm_ bars_n (fun r hr => (h6 r hr).1.1) hr hs h) fun w3 A g hlen hs hc => ?_
  have H := H.step g
  obtain ⟨a0, a1, a2, a3, a4, a5, rfl⟩ := ztg_ hlen
  refine zdb_ H 1 rfl sz141 rfl rfl rfl fun w6 H => ?_
  have H : Apt w w6 [bx b1 [.int .i64 gm.nons, .int .i64 gm.toks, .slice Y gm.rules.length cy] 26, bx b3 ([a0, a1, a2, a3, a4, a5].map Value.bool) 141] := H
  rw [ztc_, zw_ agg141 sz141 rfl (H.box 1 rfl)]
  exact hk w6 _ H.gr rfl fun n => ⟨hs n, zdp_ bars_n hc⟩
end
end Go.Proofs.Yteabbgaffgpegaa

namespace Go.Sh
open Go
end Go.Sh
namespace Go.Proofs.Yteabbgaffgpegaa
open Go Go.Sh Go.RowKit
section
variable {w : World} {k : Value → World → Prop} {Y : Option Addr} {cy : Nat} {gm : Gram}
end
end Go.Proofs.Yteabbgaffgpegaa

namespace Go.Sh
open Go
theorem zep_ {i : Nat} {P : Nat → Prop} : (P i → setL (i + 1) P = setL i P ++ [(i : Int)]) ∧ (¬ P i → setL (i + 1) P = setL i P) := by
  unfold setL
  rw [List.range_succ, List.filter_append, List.map_append]
  constructor
  · intro h
    simp [h]
  · intro h
    simp [h]
theorem setL_same {n m : Nat} {P Q : Nat → Prop} (h : ∀ a, (a < n ∧ P a) ↔ (a < m ∧ Q a)) : setL n P = setL m Q := ztj_ (zbh_ n P) (zbh_ m Q) fun x => by
  rw [setL_mem, setL_mem]
  constructor
  · rintro ⟨a, e, h1, h2⟩
    exact ⟨a, e, (h a).1 ⟨h1, h2⟩⟩
  · rintro ⟨a, e, h1, h2⟩
    exact ⟨a, e, (h a).2 ⟨h1, h2⟩⟩
end Go.Sh
namespace Go.Proofs.Yteabbgaffgpegaa
open Go Go.Sh Go.RowKit
section
variable {w : World} {k : Value → World → Prop} {Y : Option Addr} {cy : Nat} {gm : Gram}
end
end Go.Proofs.Yteabbgaffgpegaa

namespace Go.Sh
open Go
end Go.Sh
namespace Go.Proofs.Yteabbgaffgpegaa
open Go Go.Sh Go.RowKit
theorem sixR {gm : Gram} (hg : zab_ gm = true) : SixR gm.rules := fun r hr => by
  have h6 := zjc_ hg
  obtain ⟨h1, _, h3⟩ := zmd_ hg r hr
  exact ⟨⟨by omega, by omega⟩, fun x hx => by have := h3 x hx; omega⟩
section
variable {w : World} {k : Value → World → Prop} {Y : Option Addr} {cy : Nat} {gm : Gram}
end
open Go Go.Sh

def pl9 : Plans := fun _ => ⟨false, [], .nil⟩
def S9 (v0 v1 : Value) (k : Value → World → Prop) (w : World) : Prop :=
 Do Try.prog (sBox 26 v0) (fun t1 w2 =>
 Rd Try.prog (WS.at w2) (zc_ 26 t1) fun t3 =>
 CallK Try.prog 44 [t3] (fun t4 w5 =>
 Rd Try.prog (WS.at w5) (sUn .not t4) fun t6 =>
 zb_ t6 false (fun k w' => k v1 w') (fun t7 w8 =>
 zb_ t6 false (fun k w' => Rd Try.prog (WS.at w8) (ze_ .len #[27] 3 [false] [t7]) fun v => k v w') (fun t9 w10 =>
 zb_ t6 false (fun k w' => Rd Try.prog (WS.at w10) (sBin .gtr 3 true t9 (.int .i64 4)) fun v => k v w') (fun t11 w12 =>
 Rd Try.prog (WS.at w12) (zcb_ t6 (.bool true) t11) fun t13 =>
 zb_ t13 false (fun k w' => k v1 w') (fun t14 w15 =>
 zb_ t13 false (fun k w' => Rd Try.prog (WS.at w15) (za_ 26 t1 0) fun v => k v w') (fun t16 w17 =>
 zb_ t13 false (fun k w' => Rd Try.prog (WS.at w17) (zc_ 3 t16) fun v => k v w') (fun t18 w19 =>
 zb_ t13 false (fun k w' => Rd Try.prog (WS.at w19) (za_ 26 t1 1) fun v => k v w') (fun t20 w21 =>
 zb_ t13 false (fun k w' => Rd Try.prog (WS.at w21) (zc_ 3 t20) fun v => k v w') (fun t22 w23 =>
 zb_ t13 false (fun k w' => CallK Try.prog 45 [t14, t18, t22] k w') (fun t24 w25 =>
 zb_ t13 false (fun k w' => Rd Try.prog (WS.at w25) (sUn .not t24) fun v => k v w') (fun t26 w27 =>
 Rd Try.prog (WS.at w27) (zcb_ t13 (.bool true) t26) fun t28 =>
 zk_ t28
  (k (.tuple #[(.slice none 0 0), (.bool false), (.bool false)]) w27)
  (Rd Try.prog (WS.at w27) (zc_ 26 t1) fun t29 =>
  CallK Try.prog 46 [t29] (fun t30 w31 =>
  CallK Try.prog 47 [t30, v1] (fun t32 w33 =>
  Rd Try.prog (WS.at w33) (zeb_ t32 0) fun t34 =>
  Rd Try.prog (WS.at w33) (zeb_ t32 1) fun t35 =>
  Do Try.prog (zib_ 71) (fun t36 w37 =>
  Do Try.prog (zu_ 71 t36 t34) (fun _ w38 =>
  Rd Try.prog (WS.at w38) (zc_ 71 t36) fun t39 =>
  CallK Try.prog 48 [t39] (fun t40 w41 =>
  k (.tuple #[t40, t35, (.bool true)]) w41) w38) w37) w33) w31) w27)) w25) w23) w21) w19) w17) w15) w12) w10) w8) w5) w2) w
theorem body9 : Try.f9.body = some (zg_ Try.f9) := by kernel_rfl
theorem same9 (v0 v1 : Value) (k : Value → World → Prop) (w : World) : wpF Try.prog pl9 (zg_ Try.f9) (zt_ Try.prog Try.f9.results.toList k) (zp_ [v0, v1]) w = S9 v0 v1 k w := by kernel_rfl
theorem enter9 {v0 v1 : Value} {k : Value → World → Prop} {w : World} (h : S9 v0 v1 k w) : CallK Try.prog 9 [v0, v1] k w :=
  zi_ (pl := pl9) zbb_ Try.func9 body9 (by kernel_rfl) (of_decide_eq_true (by kernel_rfl)) (by kernel_rfl) (by kernel_rfl) (Eq.mpr (same9 v0 v1 k w) h)

def pl46 : Plans := fun i => match i with
  | 1 => ⟨true, [3, 5], .step 0 .held (.step 2 .held (.step 1 .one (.step 3 .last (.step 4 .any (.step 5 .last (.step 6 .any (.nil)))))))⟩
  | 12 => ⟨false, [20], .step 0 .any (.step 1 .any (.step 2 .held (.step 3 .any (.step 4 .any (.step 5 .any (.step 6 .held (.step 7 .any (.step 8 .any (.step 9 .any (.step 10 .any (.step 11 .any (.step 12 .held (.step 13 .any (.step 14 .any (.step 15 .any (.step 16 .any (.step 17 .any (.step 18 .any (.step 19 .any (.step 20 .last (.nil)))))))))))))))))))))⟩
  | 15 => ⟨false, [], .step 0 .any (.step 1 .any (.step 2 .held (.step 3 .held (.step 4 .any (.step 5 .any (.nil))))))⟩
  | 31 => ⟨false, [32], .step 0 .any (.step 1 .any (.step 2 .any (.step 3 .any (.step 4 .any (.step 5 .any (.step 6 .any (.step 7 .any (.step 8 .any (.step 9 .any (.step 10 .held (.step 11 .any (.step 12 .any (.step 13 .any (.step 14 .any (.step 15 .any (.step 16 .any (.step 17 .any (.step 18 .any (.step 19 .held (.step 20 .any (.step 21 .any (.step 22 .any (.step 23 .any (.step 24 .any (.step 25 .held (.step 26 .any (.step 27 .any (.step 28 .any (.step 29 .any (.step 30 .any (.step 31 .any (.step 32 .last (.nil)))))))))))))))))))))))))))))))))⟩
  | 33 => ⟨false, [23], .step 0 .any (.step 1 .any (.step 2 .any (.step 3 .any (.step 4 .any (.step 5 .any (.step 6 .any (.step 7 .held (.step 8 .any (.step 9 .any (.step 10 .any (.step 11 .any (.step 12 .any (.step 13 .held (.step 14 .any (.step 15 .any (.step 16 .any (.step 17 .held (.step 18 .any (.step 19 .any (.step 20 .any (.step 21 .any (.step 22 .any (.step 23 .last (.nil))))))))))))))))))))))))⟩
  | 36 => ⟨false, [], .step 0 .any (.step 1 .any (.step 2 .held (.step 3 .held (.step 4 .any (.step 5 .any (.nil))))))⟩
  | _ => ⟨false, [], .nil⟩
def S46 (v0 : Value) (k : Value → World → Prop) (w : World) : Prop :=
 Do Try.prog (sBox 26 v0) (fun t1 w2 =>
 ∃ U3 : World → Prop, ∃ h4 : U3 w2.drew,
 Rd Try.prog ⟨U3, w2.drew, h4⟩ (zc_ 26 t1) fun t5 =>
 Rd Try.prog ⟨U3, w2.drew, h4⟩ (zc_ 26 t1) fun t6 =>
 CallK Try.prog 104 [t5] (fun t7 w8 =>
 U3 w8 ∧ CallK Try.prog 105 [t6] (fun t9 w10 =>
 Rd Try.prog WS.any (zx_ 145 [(0, t7), (1, t9)]) fun t11 =>
 Do Try.prog (sBox 145 t11) (fun t12 w13 =>
 zfb_ [28, 29, 30, 31, 5, 32, 33, 34, 35, 36, 37, 38, 7, 40, 41, 42, 43, 39, 44, 45, 8, 9, 46, 47, 48, 49, 50, 10, 11, 51, 52, 53, 54, 55, 56, 57, 58, 59, 60, 61, 62, 63, 64, 65, 66, 67, 68, 69, 70, 71, 47, 72, 35, 73, 74, 75, 76, 77, 4] (fun Q14 f15 w16 =>
  zk_ (f15 4)
   (Rd Try.prog (WS.at w16) (zgb_ (f15 3)) fun t17 =>
   Rd Try.prog (WS.at w16) (zc_ 145 t17) fun t18 =>
   Do Try.prog (zib_ 145) (fun t19 w20 =>
   Do Try.prog (zu_ 145 t19 t18) (fun _ w21 =>
   Rd Try.prog (WS.at w21) (za_ 26 (f15 1) 2) fun t22 =>
   Rd Try.prog (WS.at w21) (zc_ 24 t22) fun t23 =>
   Rd Try.prog (WS.at w21) (ze_ .len #[24] 3 [false] [t23]) fun t24 =>
   zfb_ [36, 37, 38, 7, 40, 41, 42, 43, 39, 44, 45, 8, 9, 46, 47, 48, 49, 50, 10, 11, 51, 52, 53, 54, 55, 56, 57, 58, 59, 60, 61, 62, 63, 64, 65, 66, 67, 68, 69, 70, 71, 47, 72, 35] (fun Q25 f26 w27 =>
    Rd Try.prog (WS.at w27) (sBin .lss 3 false (f26 35) (f26 34)) fun t28 =>
    zk_ t28
     (Rd Try.prog (WS.at w27) (zd_ 24 (f26 33) (f26 35)) fun t29 =>
     Rd Try.prog (WS.at w27) (zc_ 106 t29) fun t30 =>
     Do Try.prog (zib_ 106) (fun t31 w32 =>
     Do Try.prog (zu_ 106 t31 t30) (fun _ w33 =>
     Rd Try.prog (WS.at w33) (za_ 106 t31 1) fun t34 =>
     Rd Try.prog (WS.at w33) (zc_ 27 t34) fun t35 =>
     CallK Try.prog 47 [(f26 3), t35] (fun t36 w37 =>
     Rd Try.prog (WS.at w37) (zeb_ t36 0) fun t38 =>
     Rd Try.prog (WS.at w37) (zeb_ t36 1) fun t39 =>
     Do Try.prog (zib_ 71) (fun t40 w41 =>
     Do Try.prog (zu_ 71 t40 t38) (fun _ w42 =>
     Rd Try.prog (WS.at w42) (zc_ 71 t40) fun t43 =>
     zfb_ [48, 49, 50, 10, 11, 51, 52, 53, 54, 55, 56, 57, 58, 59, 60, 61, 62, 63, 64, 65, 66, 67, 68, 69, 70, 71, 47] (fun Q44 f45 w46 =>
      Rd Try.prog (WS.at w46) (sBin .lss 3 true (f45 47) (.int .i64 4)) fun t47 =>
      zk_ t47
       (Rd Try.prog (WS.at w46) (sIndex 71 (f45 46) (f45 47)) fun t48 =>
       Rd Try.prog WS.any (za_ 106 (f45 7) 0) fun t49 =>
       Rd Try.prog (WS.at w46.drew) (zc_ 3 t49) fun t50 =>
       Rd Try.prog WS.any (za_ 106 (f45 7) 0) fun t51 =>
       Rd Try.prog (WS.at w46.drew) (zc_ 3 t51) fun t52 =>
       Rd Try.prog WS.any (zgb_ (f45 3)) fun t53 =>
       Rd Try.prog WS.any (za_ 145 t53 2) fun t54 =>
       Rd Try.prog WS.any (zd_ 143 t54 t52) fun t55 =>
       Rd Try.prog WS.any (zd_ 71 t55 (f45 47)) fun t56 =>
       Rd Try.prog (WS.at w46.drew) (zc_ 4 t56) fun t57 =>
       zb_ t57 false (fun k w' => k t48 w') (fun t58 w59 =>
       Rd Try.prog WS.any (zcb_ t57 (.bool true) t58) fun t60 =>
       Rd Try.prog WS.any (zgb_ (f45 3)) fun t61 =>
       Rd Try.prog WS.any (za_ 145 t61 2) fun t62 =>
       Rd Try.prog WS.any (zd_ 143 t62 t50) fun t63 =>
       Rd Try.prog WS.any (zd_ 71 t63 (f45 47)) fun t64 =>
       Do Try.prog (zu_ 4 t64 t60) (fun _ w65 =>
       Rd Try.prog (WS.at w65) (sBin .add 3 true (f45 47) (.int .i64 1)) fun t66 =>
       Q44 .normal (F.upd (F.upd (F.upd (F.upd (F.upd (F.upd (F.upd (F.upd (F.upd (F.upd (F.upd (F.upd (F.upd (F.upd (F.upd (F.upd (F.upd (F.upd (F.upd (F.upd (F.upd (F.upd (F.upd (F.upd (F.upd (F.upd (F.upd f45 48 t47) 49 (f45 47)) 50 t48) 10 (f45 47)) 11 t48) 51 (f45 3)) 52 t49) 53 t50) 54 (f45 47)) 55 (f45 3)) 56 t51) 57 t52) 58 (f45 47)) 59 t53) 60 t54) 61 t55) 62 t56) 63 t57) 64 t57) 65 t58) 66 t60) 67 t61) 68 t62) 69 t63) 70 t64) 71 t66) 47 t66) w65) w59) w46.drew)
       (Q44 (.exit 4) (F.upd f45 48 t47) w46))
      (zr_ 4 (zr_ 3 (seqQ (fun f67 w68 =>
     Rd Try.prog (WS.at w68) (sBin .add 3 true (f67 35) (.int .i64 1)) fun t69 =>
     Q25 .normal (F.upd (F.upd f67 72 t69) 35 t69) w68) Q25)))
      (F.upd (F.upd (F.upd (F.upd (F.upd (F.upd (F.upd (F.upd (F.upd (F.upd (F.upd (F.upd (F.upd (F.upd (F.upd f26 36 t28) 37 t29) 38 t30) 7 t31) 40 (f26 3)) 41 t34) 42 t35) 43 t36) 39 t36) 44 t38) 45 t39) 8 t40) 9 t39) 46 t43) 47 (.int .i64 0)) w42) w41) w37) w33) w32) w27)
     (Q25 (.exit 2) (F.upd f26 36 t28) w27))
    (zr_ 2 (seqQ (fun f70 w71 =>
   Rd Try.prog WS.any (zgb_ (f70 3)) fun t72 =>
   Rd Try.prog (WS.at w71.drew) (zc_ 145 t72) fun t73 =>
   Rd Try.prog (WS.at w71.drew) (zc_ 145 (f70 5)) fun t74 =>
   Rd Try.prog WS.any (sBin .neq 145 false t73 t74) fun t75 =>
   Q14 .normal (F.upd (F.upd (F.upd (F.upd (F.upd (F.upd f70 73 (f70 3)) 74 t72) 75 t73) 76 t74) 77 t75) 4 t75) w71.drew) (zr_ 1 Q14)))
    (F.upd (F.upd (F.upd (F.upd (F.upd (F.upd (F.upd (F.upd (F.upd f15 28 (f15 4)) 29 (f15 3)) 30 t17) 31 t18) 5 t19) 32 t22) 33 t23) 34 t24) 35 (.int .i64 0)) w21) w20) w16)
   (Q14 (.exit 0) (F.upd f15 28 (f15 4)) w16))
  (zr_ 0 (seqQ (fun f76 w77 =>
 Rd Try.prog (WS.at w77) (zgb_ (f76 3)) fun t78 =>
 Rd Try.prog (WS.at w77) (za_ 145 t78 4) fun t79 =>
 Rd Try.prog (WS.at w77) (zd_ 141 t79 (.int .i64 0)) fun t80 =>
 Do Try.prog (zu_ 4 t80 (.bool true)) (fun _ w81 =>
 zfb_ [82, 83, 84, 85, 13, 86, 87, 88, 89, 90, 91, 92, 15, 93, 94, 95, 96, 97, 98, 99, 100, 16, 17, 101, 102, 104, 105, 106, 107, 108, 109, 110, 103, 111, 112, 18, 19, 113, 114, 115, 116, 117, 20, 21, 118, 119, 120, 121, 122, 123, 124, 125, 126, 127, 128, 129, 130, 131, 132, 133, 134, 135, 136, 137, 138, 139, 140, 141, 142, 143, 144, 145, 146, 147, 148, 149, 150, 114, 151, 152, 153, 154, 155, 156, 157, 158, 159, 160, 161, 162, 163, 164, 165, 166, 167, 168, 169, 170, 171, 172, 173, 174, 96, 175, 89, 176, 177, 178, 179, 180, 12] (fun Q82 f83 w84 =>
  zk_ (f83 12)
   (Rd Try.prog (WS.at w84) (zgb_ (f83 3)) fun t85 =>
   Rd Try.prog (WS.at w84) (zc_ 145 t85) fun t86 =>
   Do Try.prog (zib_ 145) (fun t87 w88 =>
   Do Try.prog (zu_ 145 t87 t86) (fun _ w89 =>
   Rd Try.prog (WS.at w89) (za_ 26 (f83 1) 2) fun t90 =>
   Rd Try.prog (WS.at w89) (zc_ 24 t90) fun t91 =>
   Rd Try.prog (WS.at w89) (ze_ .len #[24] 3 [false] [t91]) fun t92 =>
   zfb_ [90, 91, 92, 15, 93, 94, 95, 96, 97, 98, 99, 100, 16, 17, 101, 102, 104, 105, 106, 107, 108, 109, 110, 103, 111, 112, 18, 19, 113, 114, 115, 116, 117, 20, 21, 118, 119, 120, 121, 122, 123, 124, 125, 126, 127, 128, 129, 130, 131, 132, 133, 134, 135, 136, 137, 138, 139, 140, 141, 142, 143, 144, 145, 146, 147, 148, 149, 150, 114, 151, 152, 153, 154, 155, 156, 157, 158, 159, 160, 161, 162, 163, 164, 165, 166, 167, 168, 169, 170, 171, 172, 173, 174, 96, 175, 89] (fun Q93 f94 w95 =>
    Rd Try.prog (WS.at w95) (sBin .lss 3 false (f94 89) (f94 88)) fun t96 =>
    zk_ t96
     (Rd Try.prog (WS.at w95) (zd_ 24 (f94 87) (f94 89)) fun t97 =>
     Rd Try.prog (WS.at w95) (zc_ 106 t97) fun t98 =>
     Do Try.prog (zib_ 106) (fun t99 w100 =>
     Do Try.prog (zu_ 106 t99 t98) (fun _ w101 =>
     Rd Try.prog (WS.at w101) (za_ 106 t99 1) fun t102 =>
     Rd Try.prog (WS.at w101) (zc_ 27 t102) fun t103 =>
     Rd Try.prog (WS.at w101) (ze_ .len #[27] 3 [false] [t103]) fun t104 =>
     zfb_ [97, 98, 99, 100, 16, 17, 101, 102, 104, 105, 106, 107, 108, 109, 110, 103, 111, 112, 18, 19, 113, 114, 115, 116, 117, 20, 21, 118, 119, 120, 121, 122, 123, 124, 125, 126, 127, 128, 129, 130, 131, 132, 133, 134, 135, 136, 137, 138, 139, 140, 141, 142, 143, 144, 145, 146, 147, 148, 149, 150, 114, 151, 152, 153, 154, 155, 156, 157, 158, 159, 160, 161, 162, 163, 164, 165, 166, 167, 168, 169, 170, 171, 172, 173, 174, 96] (fun Q105 f106 w107 =>
      Rd Try.prog (WS.at w107) (sBin .lss 3 false (f106 96) (f106 95)) fun t108 =>
      zk_ t108
       (Join (fun K109 =>
       Rd Try.prog (WS.at w107) (zd_ 27 (f106 94) (f106 96)) fun t112 =>
       Rd Try.prog (WS.at w107) (zc_ 3 t112) fun t113 =>
       Rd Try.prog (WS.at w107) (sBin .lss 3 true t113 (.int .i64 0)) fun t114 =>
       zk_ t114
        (K109 (F.upd (F.upd (F.upd (F.upd (F.upd (F.upd (F.upd (F.upd f106 97 t108) 98 (f106 96)) 99 t112) 100 t113) 16 (f106 96)) 17 t113) 101 t113) 102 t114) w107)
        (Rd Try.prog (WS.at w107) (za_ 106 (f106 15) 1) fun t115 =>
        Rd Try.prog (WS.at w107) (zc_ 27 t115) fun t116 =>
        Rd Try.prog (WS.at w107) (sBin .add 3 true (f106 96) (.int .i64 1)) fun t117 =>
        Rd Try.prog (WS.at w107) (zyb_ 27 t116 (some t117) none none) fun t118 =>
        CallK Try.prog 47 [(f106 3), t118] (fun t119 w120 =>
        Rd Try.prog (WS.at w120) (zeb_ t119 0) fun t121 =>
        Rd Try.prog (WS.at w120) (zeb_ t119 1) fun t122 =>
        Do Try.prog (zib_ 71) (fun t123 w124 =>
        Do Try.prog (zu_ 71 t123 t121) (fun _ w125 =>
        Rd Try.prog (WS.at w125) (zc_ 71 t123) fun t126 =>
        zfb_ [115, 116, 117, 20, 21, 118, 119, 120, 121, 122, 123, 124, 125, 126, 127, 128, 129, 130, 131, 132, 133, 134, 135, 136, 137, 138, 139, 140, 141, 142, 143, 144, 145, 146, 147, 148, 149, 150, 114] (fun Q127 f128 w129 =>
         Rd Try.prog (WS.at w129) (sBin .lss 3 true (f128 114) (.int .i64 4)) fun t130 =>
         zk_ t130
          (Rd Try.prog (WS.at w129) (sIndex 71 (f128 113) (f128 114)) fun t131 =>
          Rd Try.prog WS.any (zgb_ (f128 3)) fun t132 =>
          Rd Try.prog WS.any (za_ 145 t132 3) fun t133 =>
          Rd Try.prog WS.any (zd_ 143 t133 (f128 17)) fun t134 =>
          Rd Try.prog WS.any (zd_ 71 t134 (f128 114)) fun t135 =>
          Rd Try.prog (WS.at w129.drew) (zc_ 4 t135) fun t136 =>
          zb_ t136 false (fun k w' => k t131 w') (fun t137 w138 =>
          Rd Try.prog WS.any (zcb_ t136 (.bool true) t137) fun t139 =>
          zb_ t139 false (fun k w' => k (f128 19) w') (fun t140 w141 =>
          zb_ t139 false (fun k w' => k t140 w') (fun t142 w143 =>
          zb_ t142 true (fun k w' => k (f128 3) w') (fun t144 w145 =>
          zb_ t142 true (fun k w' => Rd Try.prog WS.any (za_ 106 (f128 15) 0) fun v => k v w') (fun t146 w147 =>
          zb_ t142 true (fun k w' => Rd Try.prog (WS.at w129.drew) (zc_ 3 t146) fun v => k v w') (fun t148 w149 =>
          zb_ t142 true (fun k w' => k (f128 114) w') (fun t150 w151 =>
          zb_ t142 true (fun k w' => Rd Try.prog WS.any (zgb_ t144) fun v => k v w') (fun t152 w153 =>
          zb_ t142 true (fun k w' => Rd Try.prog WS.any (za_ 145 t152 3) fun v => k v w') (fun t154 w155 =>
          zb_ t142 true (fun k w' => Rd Try.prog WS.any (zd_ 143 t154 t148) fun v => k v w') (fun t156 w157 =>
          zb_ t142 true (fun k w' => Rd Try.prog WS.any (zd_ 71 t156 t150) fun v => k v w') (fun t158 w159 =>
          zb_ t142 true (fun k w' => Rd Try.prog (WS.at w129.drew) (zc_ 4 t158) fun v => k v w') (fun t160 w161 =>
          zb_ t139 false (fun k w' => Rd Try.prog WS.any (zcb_ t142 t160 (.bool false)) fun v => k v w') (fun t162 w163 =>
          Rd Try.prog WS.any (zcb_ t139 (.bool true) t162) fun t164 =>
          Rd Try.prog WS.any (zgb_ (f128 3)) fun t165 =>
          Rd Try.prog WS.any (za_ 145 t165 3) fun t166 =>
          Rd Try.prog WS.any (zd_ 143 t166 (f128 17)) fun t167 =>
          Rd Try.prog WS.any (zd_ 71 t167 (f128 114)) fun t168 =>
          Do Try.prog (zu_ 4 t168 t164) (fun _ w169 =>
          Rd Try.prog (WS.at w169) (sBin .add 3 true (f128 114) (.int .i64 1)) fun t170 =>
          Q127 .normal (F.upd (F.upd (F.upd (F.upd (F.upd (F.upd (F.upd (F.upd (F.upd (F.upd (F.upd (F.upd (F.upd (F.upd (F.upd (F.upd (F.upd (F.upd (F.upd (F.upd (F.upd (F.upd (F.upd (F.upd (F.upd (F.upd (F.upd (F.upd (F.upd (F.upd (F.upd (F.upd (F.upd (F.upd (F.upd (F.upd (F.upd (F.upd (F.upd f128 115 t130) 116 (f128 114)) 117 t131) 20 (f128 114)) 21 t131) 118 (f128 3)) 119 (f128 17)) 120 (f128 114)) 121 (f128 3)) 122 (f128 17)) 123 (f128 114)) 124 t132) 125 t133) 126 t134) 127 t135) 128 t136) 129 t136) 130 t137) 131 t139) 132 t139) 133 t140) 134 t142) 135 t144) 136 t146) 137 t148) 138 t150) 139 t152) 140 t154) 141 t156) 142 t158) 143 t160) 144 t162) 145 t164) 146 t165) 147 t166) 148 t167) 149 t168) 150 t170) 114 t170) w169) w163) w161) w159) w157) w155) w153) w151) w149) w147) w145) w143) w141) w138) w129.drew)
          (Q127 (.exit 12) (F.upd f128 115 t130) w129))
         (zr_ 12 (seqQ (fun f171 w172 =>
        Rd Try.prog WS.any (zgb_ (f171 3)) fun t173 =>
        Rd Try.prog WS.any (za_ 145 t173 4) fun t174 =>
        Rd Try.prog WS.any (zd_ 141 t174 (f171 17)) fun t175 =>
        Rd Try.prog (WS.at w172.drew) (zc_ 4 t175) fun t176 =>
        zb_ t176 false (fun k w' => k (f171 19) w') (fun t177 w178 =>
        zb_ t176 false (fun k w' => k t177 w') (fun t179 w180 =>
        zb_ t179 true (fun k w' => k (f171 3) w') (fun t181 w182 =>
        zb_ t179 true (fun k w' => Rd Try.prog WS.any (za_ 106 (f171 15) 0) fun v => k v w') (fun t183 w184 =>
        zb_ t179 true (fun k w' => Rd Try.prog (WS.at w172.drew) (zc_ 3 t183) fun v => k v w') (fun t185 w186 =>
        zb_ t179 true (fun k w' => Rd Try.prog WS.any (zgb_ t181) fun v => k v w') (fun t187 w188 =>
        zb_ t179 true (fun k w' => Rd Try.prog WS.any (za_ 145 t187 4) fun v => k v w') (fun t189 w190 =>
        zb_ t179 true (fun k w' => Rd Try.prog WS.any (zd_ 141 t189 t185) fun v => k v w') (fun t191 w192 =>
        zb_ t179 true (fun k w' => Rd Try.prog (WS.at w172.drew) (zc_ 4 t191) fun v => k v w') (fun t193 w194 =>
        zb_ t176 false (fun k w' => Rd Try.prog WS.any (zcb_ t179 t193 (.bool false)) fun v => k v w') (fun t195 w196 =>
        Rd Try.prog WS.any (zcb_ t176 (.bool true) t195) fun t197 =>
        Rd Try.prog WS.any (zgb_ (f171 3)) fun t198 =>
        Rd Try.prog WS.any (za_ 145 t198 4) fun t199 =>
        Rd Try.prog WS.any (zd_ 141 t199 (f171 17)) fun t200 =>
        Do Try.prog (zu_ 4 t200 t197) (fun _ w201 =>
        K109 (F.upd (F.upd (F.upd (F.upd (F.upd (F.upd (F.upd (F.upd (F.upd (F.upd (F.upd (F.upd (F.upd (F.upd (F.upd (F.upd (F.upd (F.upd (F.upd (F.upd (F.upd (F.upd (F.upd f171 151 (f171 3)) 152 (f171 17)) 153 (f171 3)) 154 (f171 17)) 155 t173) 156 t174) 157 t175) 158 t176) 159 t176) 160 t177) 161 t179) 162 t181) 163 t183) 164 t185) 165 t187) 166 t189) 167 t191) 168 t193) 169 t195) 170 t197) 171 t198) 172 t199) 173 t200) w201) w196) w194) w192) w190) w188) w186) w184) w182) w180) w178) w172.drew) (zr_ 11 (seqQ K109 Q105))))
         (F.upd (F.upd (F.upd (F.upd (F.upd (F.upd (F.upd (F.upd (F.upd (F.upd (F.upd (F.upd (F.upd (F.upd (F.upd (F.upd (F.upd (F.upd (F.upd (F.upd (F.upd (F.upd f106 97 t108) 98 (f106 96)) 99 t112) 100 t113) 16 (f106 96)) 17 t113) 101 t113) 102 t114) 104 (f106 3)) 105 t115) 106 t116) 107 (f106 96)) 108 t117) 109 t118) 110 t119) 103 t119) 111 t121) 112 t122) 18 t123) 19 t122) 113 t126) 114 (.int .i64 0)) w125) w124) w120) w107)) (fun f110 w111 =>
       Rd Try.prog (WS.at w111) (sBin .add 3 true (f110 96) (.int .i64 1)) fun t204 =>
       Q105 .normal (F.upd (F.upd f110 174 t204) 96 t204) w111))
       (Q105 (.exit 10) (F.upd f106 97 t108) w107))
      (zr_ 10 (zr_ 9 (seqQ (fun f205 w206 =>
     Rd Try.prog (WS.at w206) (sBin .add 3 true (f205 89) (.int .i64 1)) fun t207 =>
     Q93 .normal (F.upd (F.upd f205 175 t207) 89 t207) w206) Q93)))
      (F.upd (F.upd (F.upd (F.upd (F.upd (F.upd (F.upd (F.upd f94 90 t96) 91 t97) 92 t98) 15 t99) 93 t102) 94 t103) 95 t104) 96 (.int .i64 0)) w101) w100) w95)
     (Q93 (.exit 8) (F.upd f94 90 t96) w95))
    (zr_ 8 (seqQ (fun f208 w209 =>
   Rd Try.prog WS.any (zgb_ (f208 3)) fun t210 =>
   Rd Try.prog (WS.at w209.drew) (zc_ 145 t210) fun t211 =>
   Rd Try.prog (WS.at w209.drew) (zc_ 145 (f208 13)) fun t212 =>
   Rd Try.prog WS.any (sBin .neq 145 false t211 t212) fun t213 =>
   Q82 .normal (F.upd (F.upd (F.upd (F.upd (F.upd (F.upd f208 176 (f208 3)) 177 t210) 178 t211) 179 t212) 180 t213) 12 t213) w209.drew) (zr_ 7 Q82)))
    (F.upd (F.upd (F.upd (F.upd (F.upd (F.upd (F.upd (F.upd (F.upd f83 82 (f83 12)) 83 (f83 3)) 84 t85) 85 t86) 13 t87) 86 t90) 87 t91) 88 t92) 89 (.int .i64 0)) w89) w88) w84)
   (Q82 (.exit 6) (F.upd f83 82 (f83 12)) w84))
  (zr_ 6 (seqQ (fun f214 w215 =>
 k (f214 3) w215) (zt_ Try.prog [.tmp 2] k)))
  (F.upd (F.upd (F.upd (F.upd (F.upd f76 78 (f76 3)) 79 t78) 80 t79) 81 t80) 12 (.bool true)) w81) w77) (zt_ Try.prog [.tmp 2] k)))
  (F.upd (F.upd (F.upd (F.upd (F.upd (F.upd (F.upd (F.upd (F.upd (F.upd (zp_ [v0]) 1 t1) 2 (.pointer none)) 22 t5) 24 t6) 23 t7) 25 t9) 26 t11) 27 t12) 3 t12) 4 (.bool true)) w13) w10) w8) w2.drew) w
theorem body46 : Try.f46.body = some (zg_ Try.f46) := by kernel_rfl
theorem same46 (v0 : Value) (k : Value → World → Prop) (w : World) : wpF Try.prog pl46 (zg_ Try.f46) (zt_ Try.prog Try.f46.results.toList k) (zp_ [v0]) w = S46 v0 k w := by kernel_rfl
theorem enter46 {v0 : Value} {k : Value → World → Prop} {w : World} (h : S46 v0 k w) : CallK Try.prog 46 [v0] k w :=
  zi_ (pl := pl46) zbb_ Try.func46 body46 (by kernel_rfl) (of_decide_eq_true (by kernel_rfl)) (by kernel_rfl) (by kernel_rfl) (Eq.mpr (same46 v0 k w) h)

def pl47 : Plans := fun _ => ⟨false, [], .nil⟩
def S47 (v0 v1 : Value) (k : Value → World → Prop) (w : World) : Prop :=
 Do Try.prog (sBox 73 v0) (fun t1 w2 =>
 Do Try.prog (zib_ 71) (fun t3 w4 =>
 Rd Try.prog (WS.at w4) (zx_ 71 []) fun t5 =>
 Do Try.prog (zib_ 71) (fun t6 w7 =>
 Do Try.prog (zu_ 71 t6 t5) (fun _ w8 =>
 Rd Try.prog (WS.at w8) (zhd_ (.func 106) [] [t1]) fun t9 =>
 CallK Try.prog 101 [v1, t9] (fun t10 w11 =>
 zk_ t10
  (Rd Try.prog (WS.at w11) (zc_ 71 t6) fun t12 =>
  Do Try.prog (zu_ 71 t3 t12) (fun _ w13 =>
  Rd Try.prog (WS.at w13) (zjb_ 71 t3) fun t14 => k (.tuple #[t14, (.bool false)]) w13) w11)
  (Rd Try.prog (WS.at w11) (ze_ .len #[27] 3 [false] [v1]) fun t15 =>
  zfb_ [19, 20, 21, 8, 22, 23, 24, 25, 26, 27, 5, 28, 29, 30, 31, 32, 33, 34, 35, 36, 37, 9, 10, 38, 39, 40, 41, 42, 43, 44, 45, 46, 34, 47, 48, 49, 50, 51, 52, 53, 54, 5, 55, 18] (fun Q16 f17 w18 =>
   Rd Try.prog (WS.at w18) (sBin .lss 3 false (f17 18) (f17 17)) fun t19 =>
   zk_ t19
    (Rd Try.prog (WS.at w18) (zd_ 27 (f17 16) (f17 18)) fun t20 =>
    Rd Try.prog (WS.at w18) (zc_ 3 t20) fun t21 =>
    Rd Try.prog (WS.at w18) (sBin .lss 3 true t21 (.int .i64 0)) fun t22 =>
    zk_ t22
     (CallK Try.prog 107 [t21] (fun t23 w24 =>
     Rd Try.prog (WS.at w24) (zd_ 71 (f17 6) t23) fun t25 =>
     Do Try.prog (zu_ 4 t25 (.bool true)) (fun _ w26 =>
     Rd Try.prog (WS.at w26) (zc_ 71 (f17 6)) fun t27 =>
     Do Try.prog (zu_ 71 (f17 4) t27) (fun _ w28 =>
     Q16 .ret (F.upd (F.upd (F.upd (F.upd (F.upd (F.upd (F.upd (F.upd (F.upd (F.upd (F.upd f17 19 t19) 20 t20) 21 t21) 8 t21) 22 t21) 23 t22) 24 t21) 25 t23) 26 t25) 27 t27) 5 (.bool false)) w28) w26) w24) w18)
     (Rd Try.prog (WS.at w18) (zc_ 73 (f17 2)) fun t29 =>
     Rd Try.prog (WS.at w18) (zgb_ t29) fun t30 =>
     Rd Try.prog (WS.at w18) (za_ 145 t30 2) fun t31 =>
     Rd Try.prog (WS.at w18) (zd_ 143 t31 t21) fun t32 =>
     Rd Try.prog (WS.at w18) (zc_ 71 t32) fun t33 =>
     zfb_ [35, 36, 37, 9, 10, 38, 39, 40, 41, 42, 43, 44, 45, 46, 34] (fun Q34 f35 w36 =>
      Rd Try.prog (WS.at w36) (sBin .lss 3 true (f35 34) (.int .i64 4)) fun t37 =>
      zk_ t37
       (Rd Try.prog (WS.at w36) (sIndex 71 (f35 33) (f35 34)) fun t38 =>
       Rd Try.prog (WS.at w36) (zd_ 71 (f35 6) (f35 34)) fun t39 =>
       Rd Try.prog (WS.at w36) (zc_ 4 t39) fun t40 =>
       zb_ t40 false (fun k w' => k t38 w') (fun t41 w42 =>
       Rd Try.prog (WS.at w42) (zcb_ t40 (.bool true) t41) fun t43 =>
       Rd Try.prog (WS.at w42) (zd_ 71 (f35 6) (f35 34)) fun t44 =>
       Do Try.prog (zu_ 4 t44 t43) (fun _ w45 =>
       Rd Try.prog (WS.at w45) (sBin .add 3 true (f35 34) (.int .i64 1)) fun t46 =>
       Q34 .normal (F.upd (F.upd (F.upd (F.upd (F.upd (F.upd (F.upd (F.upd (F.upd (F.upd (F.upd (F.upd (F.upd (F.upd (F.upd f35 35 t37) 36 (f35 34)) 37 t38) 9 (f35 34)) 10 t38) 38 (f35 34)) 39 (f35 34)) 40 t39) 41 t40) 42 t40) 43 t41) 44 t43) 45 t44) 46 t46) 34 t46) w45) w42) w36)
       (Q34 (.exit 2) (F.upd f35 35 t37) w36))
      (zr_ 2 (seqQ (fun f47 w48 =>
     Rd Try.prog (WS.at w48) (zc_ 73 (f47 2)) fun t49 =>
     Rd Try.prog (WS.at w48) (zgb_ t49) fun t50 =>
     Rd Try.prog (WS.at w48) (za_ 145 t50 1) fun t51 =>
     Rd Try.prog (WS.at w48) (zd_ 141 t51 (f47 8)) fun t52 =>
     Rd Try.prog (WS.at w48) (zc_ 4 t52) fun t53 =>
     Rd Try.prog (WS.at w48) (sUn .not t53) fun t54 =>
     zk_ t54
      (Rd Try.prog (WS.at w48) (zc_ 71 (f47 6)) fun t55 =>
      Do Try.prog (zu_ 71 (f47 4) t55) (fun _ w56 =>
      Q16 .ret (F.upd (F.upd (F.upd (F.upd (F.upd (F.upd (F.upd (F.upd (F.upd f47 47 t49) 48 (f47 8)) 49 t50) 50 t51) 51 t52) 52 t53) 53 t54) 54 t55) 5 (.bool false)) w56) w48)
      (Rd Try.prog (WS.at w48) (sBin .add 3 true (f47 18) (.int .i64 1)) fun t57 =>
      Q16 .normal (F.upd (F.upd (F.upd (F.upd (F.upd (F.upd (F.upd (F.upd (F.upd f47 47 t49) 48 (f47 8)) 49 t50) 50 t51) 51 t52) 52 t53) 53 t54) 55 t57) 18 t57) w48)) (zr_ 1 (seqQ (fun f58 w59 =>
     Rd Try.prog (WS.at w59) (sBin .add 3 true (f58 18) (.int .i64 1)) fun t60 =>
     Q16 .normal (F.upd (F.upd f58 55 t60) 18 t60) w59) Q16))))
      (F.upd (F.upd (F.upd (F.upd (F.upd (F.upd (F.upd (F.upd (F.upd (F.upd (F.upd (F.upd (F.upd f17 19 t19) 20 t20) 21 t21) 8 t21) 22 t21) 23 t22) 28 t29) 29 t21) 30 t30) 31 t31) 32 t32) 33 t33) 34 (.int .i64 0)) w18))
    (Q16 (.exit 0) (F.upd f17 19 t19) w18))
   (zr_ 0 (seqQ (fun f61 w62 =>
  Rd Try.prog (WS.at w62) (zc_ 71 (f61 6)) fun t63 =>
  Do Try.prog (zu_ 71 (f61 4) t63) (fun _ w64 =>
  Rd Try.prog (WS.at w64) (zjb_ 71 (f61 4)) fun t65 => k (.tuple #[t65, (.bool true)]) w64) w62) (zt_ Try.prog [.cell 4 71, .tmp 5] k)))
   (F.upd (F.upd (F.upd (F.upd (F.upd (F.upd (F.upd (F.upd (F.upd (F.upd (F.upd (zp_ [v0, v1]) 2 t1) 4 t3) 5 (.bool false)) 11 t5) 6 t6) 12 v1) 13 t9) 14 t10) 16 v1) 17 t15) 18 (.int .i64 0)) w11)) w8) w7) w4) w2) w
theorem body47 : Try.f47.body = some (zg_ Try.f47) := by kernel_rfl
theorem same47 (v0 v1 : Value) (k : Value → World → Prop) (w : World) : wpF Try.prog pl47 (zg_ Try.f47) (zt_ Try.prog Try.f47.results.toList k) (zp_ [v0, v1]) w = S47 v0 v1 k w := by kernel_rfl
theorem enter47 {v0 v1 : Value} {k : Value → World → Prop} {w : World} (h : S47 v0 v1 k w) : CallK Try.prog 47 [v0, v1] k w :=
  zi_ (pl := pl47) zbb_ Try.func47 body47 (by kernel_rfl) (of_decide_eq_true (by kernel_rfl)) (by kernel_rfl) (by kernel_rfl) (Eq.mpr (same47 v0 v1 k w) h)

def pl48 : Plans := fun _ => ⟨false, [], .nil⟩
def S48 (v0 : Value) (k : Value → World → Prop) (w : World) : Prop :=
 Do Try.prog (sBox 71 v0) (fun t1 w2 =>
 Do Try.prog (zh_ 27 0 []) (fun t3 w4 =>
 Rd Try.prog (WS.at w4) (zc_ 71 t1) fun t5 =>
 zfb_ [9, 10, 11, 4, 5, 12, 13, 14, 15, 16, 3, 17, 8] (fun Q6 f7 w8 =>
  Rd Try.prog (WS.at w8) (sBin .lss 3 true (f7 8) (.int .i64 4)) fun t9 =>
  zk_ t9
   (Join (fun K10 =>
   Rd Try.prog (WS.at w8) (sIndex 71 (f7 7) (f7 8)) fun t13 =>
   zk_ t13
    (Do Try.prog (zh_ 27 1 [(0, (f7 8))]) (fun t14 w15 =>
    Do Try.prog (ze_ .append #[27, 27] 27 [false, false] [(f7 3), t14]) (fun t16 w17 =>
    K10 (F.upd (F.upd (F.upd (F.upd (F.upd (F.upd (F.upd (F.upd (F.upd (F.upd (F.upd f7 9 t9) 10 (f7 8)) 11 t13) 4 (f7 8)) 5 t13) 12 t13) 13 (f7 3)) 14 (f7 8)) 15 t14) 16 t16) 3 t16) w17) w15) w8)
    (K10 (F.upd (F.upd (F.upd (F.upd (F.upd (F.upd f7 9 t9) 10 (f7 8)) 11 t13) 4 (f7 8)) 5 t13) 12 t13) w8)) (fun f11 w12 =>
   Rd Try.prog (WS.at w12) (sBin .add 3 true (f11 8) (.int .i64 1)) fun t18 =>
   Q6 .normal (F.upd (F.upd f11 17 t18) 8 t18) w12))
   (Q6 (.exit 0) (F.upd f7 9 t9) w8))
  (zr_ 0 (seqQ (fun f19 w20 =>
 k (f19 3) w20) (zt_ Try.prog [.tmp 2] k)))
  (F.upd (F.upd (F.upd (F.upd (F.upd (F.upd (zp_ [v0]) 1 t1) 2 (.slice none 0 0)) 6 t3) 3 t3) 7 t5) 8 (.int .i64 0)) w4) w2) w
theorem body48 : Try.f48.body = some (zg_ Try.f48) := by kernel_rfl
theorem same48 (v0 : Value) (k : Value → World → Prop) (w : World) : wpF Try.prog pl48 (zg_ Try.f48) (zt_ Try.prog Try.f48.results.toList k) (zp_ [v0]) w = S48 v0 k w := by kernel_rfl
theorem enter48 {v0 : Value} {k : Value → World → Prop} {w : World} (h : S48 v0 k w) : CallK Try.prog 48 [v0] k w :=
  zi_ (pl := pl48) zbb_ Try.func48 body48 (by kernel_rfl) (of_decide_eq_true (by kernel_rfl)) (by kernel_rfl) (by kernel_rfl) (Eq.mpr (same48 v0 k w) h)

def pl106 : Plans := fun _ => ⟨false, [], .nil⟩
def S106 (v0 v1 : Value) (k : Value → World → Prop) (w : World) : Prop :=
 Rd Try.prog (WS.at w) (sBin .geq 3 true v0 (.int .i64 0)) fun t1 =>
 zb_ t1 true (fun k w' => Rd Try.prog (WS.at w) (zc_ 73 v1) fun v => k v w') (fun t2 w3 =>
 zb_ t1 true (fun k w' => k v0 w') (fun t4 w5 =>
 zb_ t1 true (fun k w' => Rd Try.prog (WS.at w5) (zgb_ t2) fun v => k v w') (fun t6 w7 =>
 zb_ t1 true (fun k w' => Rd Try.prog (WS.at w7) (za_ 145 t6 0) fun v => k v w') (fun t8 w9 =>
 zb_ t1 true (fun k w' => Rd Try.prog (WS.at w9) (zd_ 141 t8 t4) fun v => k v w') (fun t10 w11 =>
 zb_ t1 true (fun k w' => Rd Try.prog (WS.at w11) (zc_ 4 t10) fun v => k v w') (fun t12 w13 =>
 zb_ t1 true (fun k w' => Rd Try.prog (WS.at w13) (sUn .not t12) fun v => k v w') (fun t14 w15 =>
 Rd Try.prog (WS.at w15) (zcb_ t1 t14 (.bool false)) fun t16 =>
 k t16 w15) w13) w11) w9) w7) w5) w3) w
theorem body106 : Try.f106.body = some (zg_ Try.f106) := by kernel_rfl
theorem same106 (v0 v1 : Value) (k : Value → World → Prop) (w : World) : wpF Try.prog pl106 (zg_ Try.f106) (zt_ Try.prog Try.f106.results.toList k) (zp_ [v0, v1]) w = S106 v0 v1 k w := by kernel_rfl
theorem enter106 {v0 v1 : Value} {k : Value → World → Prop} {w : World} (h : S106 v0 v1 k w) : CallK Try.prog 106 [v0, v1] k w :=
  zi_ (pl := pl106) zbb_ Try.func106 body106 (by kernel_rfl) (of_decide_eq_true (by kernel_rfl)) (by kernel_rfl) (by kernel_rfl) (Eq.mpr (same106 v0 v1 k w) h)

def pl10 : Plans := fun i => match i with
  | 3 => ⟨true, [5], .step 0 .held (.step 1 .any (.step 3 .held (.step 4 .any (.step 2 .one (.step 5 .last (.step 6 .any (.step 7 .any (.step 8 .any (.nil)))))))))⟩
  | _ => ⟨false, [], .nil⟩
def S10 (v0 v1 : Value) (k : Value → World → Prop) (w : World) : Prop :=
 Do Try.prog (sBox 26 v0) (fun t1 w2 =>
 Rd Try.prog (WS.at w2) (zc_ 26 t1) fun t3 =>
 CallK Try.prog 49 [t3] (fun t4 w5 =>
 Rd Try.prog (WS.at w5) (sUn .not t4) fun t6 =>
 zb_ t6 false (fun k w' => Rd Try.prog (WS.at w5) (zc_ 26 t1) fun v => k v w') (fun t7 w8 =>
 zb_ t6 false (fun k w' => k v1 w') (fun t9 w10 =>
 zb_ t6 false (fun k w' => CallK Try.prog 50 [t7, t9, (.int .i64 4)] k w') (fun t11 w12 =>
 zb_ t6 false (fun k w' => Rd Try.prog (WS.at w12) (sUn .not t11) fun v => k v w') (fun t13 w14 =>
 Rd Try.prog (WS.at w14) (zcb_ t6 (.bool true) t13) fun t15 =>
 zk_ t15
  (k (.tuple #[(.slice none 0 0), (.bool false), (.bool false)]) w14)
  (∃ U16 : World → Prop, ∃ h17 : U16 w14.drew,
  Rd Try.prog ⟨U16, w14.drew, h17⟩ (zc_ 26 t1) fun t18 =>
  Rd Try.prog ⟨U16, w14.drew, h17⟩ (zc_ 26 t1) fun t19 =>
  CallK Try.prog 51 [t18, v1] (fun t20 w21 =>
  U16 w21 ∧ CallK Try.prog 52 [t19, v1] (fun t22 w23 =>
  k (.tuple #[t20, t22, (.bool true)]) w23) w21) w14.drew)) w12) w10) w8) w5) w2) w
theorem body10 : Try.f10.body = some (zg_ Try.f10) := by kernel_rfl
theorem same10 (v0 v1 : Value) (k : Value → World → Prop) (w : World) : wpF Try.prog pl10 (zg_ Try.f10) (zt_ Try.prog Try.f10.results.toList k) (zp_ [v0, v1]) w = S10 v0 v1 k w := by kernel_rfl
theorem enter10 {v0 v1 : Value} {k : Value → World → Prop} {w : World} (h : S10 v0 v1 k w) : CallK Try.prog 10 [v0, v1] k w :=
  zi_ (pl := pl10) zbb_ Try.func10 body10 (by kernel_rfl) (of_decide_eq_true (by kernel_rfl)) (by kernel_rfl) (by kernel_rfl) (Eq.mpr (same10 v0 v1 k w) h)

def pl113 : Plans := fun _ => ⟨false, [], .nil⟩
def S113 (v0 v1 v2 : Value) (k : Value → World → Prop) (w : World) : Prop :=
 Do Try.prog (sBox 26 v0) (fun t1 w2 =>
 Rd Try.prog (WS.at w2) (zc_ 26 t1) fun t3 =>
 CallK Try.prog 111 [t3, (.bool false)] (fun t4 w5 =>
 Rd Try.prog (WS.at w5) (ze_ .len #[27] 3 [false] [v2]) fun t6 =>
 zfb_ [18, 19, 20, 10, 21, 22, 23, 24, 25, 26, 6, 27, 28, 29, 30, 31, 32, 33, 34, 35, 12, 36, 37, 38, 8, 39, 32, 40, 41, 42, 43, 44, 6, 45, 17] (fun Q7 f8 w9 =>
  Rd Try.prog (WS.at w9) (sBin .lss 3 false (f8 17) (f8 16)) fun t10 =>
  zk_ t10
   (Rd Try.prog (WS.at w9) (zd_ 27 (f8 15) (f8 17)) fun t11 =>
   Rd Try.prog (WS.at w9) (zc_ 3 t11) fun t12 =>
   Rd Try.prog (WS.at w9) (sBin .lss 3 true t12 (.int .i64 0)) fun t13 =>
   zk_ t13
    (Rd Try.prog (WS.at w9) (sBin .sub 3 true (.int .i64 (-1)) t12) fun t14 =>
    CallK Try.prog 148 [(f8 8), t14] (fun t15 w16 =>
    Q7 .ret (F.upd (F.upd (F.upd (F.upd (F.upd (F.upd (F.upd (F.upd (F.upd (F.upd (F.upd f8 18 t10) 19 t11) 20 t12) 10 t12) 21 t12) 22 t13) 23 (f8 8)) 24 t12) 25 t14) 26 t15) 6 t15) w16) w9)
    (Rd Try.prog (WS.at w9) (zd_ 35 (f8 1) t12) fun t17 =>
    Rd Try.prog (WS.at w9) (zc_ 27 t17) fun t18 =>
    Rd Try.prog (WS.at w9) (ze_ .len #[27] 3 [false] [t18]) fun t19 =>
    zfb_ [33, 34, 35, 12, 36, 37, 38, 8, 39, 32] (fun Q20 f21 w22 =>
     Rd Try.prog (WS.at w22) (sBin .lss 3 false (f21 32) (f21 31)) fun t23 =>
     zk_ t23
      (Rd Try.prog (WS.at w22) (zd_ 27 (f21 30) (f21 32)) fun t24 =>
      Rd Try.prog (WS.at w22) (zc_ 3 t24) fun t25 =>
      CallK Try.prog 148 [(f21 8), t25] (fun t26 w27 =>
      Rd Try.prog (WS.at w27) (sBin .add 3 true (f21 32) (.int .i64 1)) fun t28 =>
      Q20 .normal (F.upd (F.upd (F.upd (F.upd (F.upd (F.upd (F.upd (F.upd (F.upd (F.upd f21 33 t23) 34 t24) 35 t25) 12 t25) 36 (f21 8)) 37 t25) 38 t26) 8 t26) 39 t28) 32 t28) w27) w22)
      (Q20 (.exit 2) (F.upd f21 33 t23) w22))
     (zr_ 2 (seqQ (fun f29 w30 =>
    CallK Try.prog 112 [(f29 7), (f29 10)] (fun t31 w32 =>
    Rd Try.prog (WS.at w32) (sUn .not t31) fun t33 =>
    zk_ t33
     (Q7 .ret (F.upd (F.upd (F.upd (F.upd (F.upd (F.upd f29 40 (f29 7)) 41 (f29 10)) 42 t31) 43 t33) 44 (f29 8)) 6 (f29 8)) w32)
     (Rd Try.prog (WS.at w32) (sBin .add 3 true (f29 17) (.int .i64 1)) fun t34 =>
     Q7 .normal (F.upd (F.upd (F.upd (F.upd (F.upd (F.upd f29 40 (f29 7)) 41 (f29 10)) 42 t31) 43 t33) 45 t34) 17 t34) w32)) w30) (zr_ 1 (seqQ (fun f35 w36 =>
    Rd Try.prog (WS.at w36) (sBin .add 3 true (f35 17) (.int .i64 1)) fun t37 =>
    Q7 .normal (F.upd (F.upd f35 45 t37) 17 t37) w36) Q7))))
     (F.upd (F.upd (F.upd (F.upd (F.upd (F.upd (F.upd (F.upd (F.upd (F.upd (F.upd (F.upd f8 18 t10) 19 t11) 20 t12) 10 t12) 21 t12) 22 t13) 27 (f8 1)) 28 t12) 29 t17) 30 t18) 31 t19) 32 (.int .i64 0)) w9))
   (Q7 (.exit 0) (F.upd f8 18 t10) w9))
  (zr_ 0 (seqQ (fun f38 w39 =>
 k (f38 8) w39) (zt_ Try.prog [.tmp 6] k)))
  (F.upd (F.upd (F.upd (F.upd (F.upd (F.upd (F.upd (F.upd (F.upd (zp_ [v0, v1, v2]) 3 t1) 6 (.slice none 0 0)) 13 t3) 14 t4) 7 t4) 8 (.slice none 0 0)) 15 v2) 16 t6) 17 (.int .i64 0)) w5) w2) w
theorem body113 : Try.f113.body = some (zg_ Try.f113) := by kernel_rfl
theorem same113 (v0 v1 v2 : Value) (k : Value → World → Prop) (w : World) : wpF Try.prog pl113 (zg_ Try.f113) (zt_ Try.prog Try.f113.results.toList k) (zp_ [v0, v1, v2]) w = S113 v0 v1 v2 k w := by kernel_rfl
theorem enter113 {v0 v1 v2 : Value} {k : Value → World → Prop} {w : World} (h : S113 v0 v1 v2 k w) : CallK Try.prog 113 [v0, v1, v2] k w :=
  zi_ (pl := pl113) zbb_ Try.func113 body113 (by kernel_rfl) (of_decide_eq_true (by kernel_rfl)) (by kernel_rfl) (by kernel_rfl) (Eq.mpr (same113 v0 v1 v2 k w) h)

def pl52 : Plans := fun _ => ⟨false, [], .nil⟩
def S52 (v0 v1 : Value) (k : Value → World → Prop) (w : World) : Prop :=
 Do Try.prog (sBox 26 v0) (fun t1 w2 =>
 Rd Try.prog (WS.at w2) (zc_ 26 t1) fun t3 =>
 CallK Try.prog 111 [t3, (.bool false)] (fun t4 w5 =>
 Rd Try.prog (WS.at w5) (ze_ .len #[27] 3 [false] [v1]) fun t6 =>
 zfb_ [13, 14, 15, 7, 16, 17, 18, 19, 20, 21, 22, 23, 4, 24, 12] (fun Q7 f8 w9 =>
  Rd Try.prog (WS.at w9) (sBin .lss 3 false (f8 12) (f8 11)) fun t10 =>
  zk_ t10
   (Rd Try.prog (WS.at w9) (zd_ 27 (f8 10) (f8 12)) fun t11 =>
   Rd Try.prog (WS.at w9) (zc_ 3 t11) fun t12 =>
   Rd Try.prog (WS.at w9) (sBin .lss 3 true t12 (.int .i64 0)) fun t13 =>
   zb_ t13 false (fun k w' => k (f8 5) w') (fun t14 w15 =>
   zb_ t13 false (fun k w' => k t12 w') (fun t16 w17 =>
   zb_ t13 false (fun k w' => CallK Try.prog 112 [t14, t16] k w') (fun t18 w19 =>
   zb_ t13 false (fun k w' => Rd Try.prog (WS.at w19) (sUn .not t18) fun v => k v w') (fun t20 w21 =>
   Rd Try.prog (WS.at w21) (zcb_ t13 (.bool true) t20) fun t22 =>
   zk_ t22
    (Q7 .ret (F.upd (F.upd (F.upd (F.upd (F.upd (F.upd (F.upd (F.upd (F.upd (F.upd (F.upd (F.upd (F.upd f8 13 t10) 14 t11) 15 t12) 7 t12) 16 t12) 17 t13) 18 t13) 19 t14) 20 t16) 21 t18) 22 t20) 23 t22) 4 (.bool false)) w21)
    (Rd Try.prog (WS.at w21) (sBin .add 3 true (f8 12) (.int .i64 1)) fun t23 =>
    Q7 .normal (F.upd (F.upd (F.upd (F.upd (F.upd (F.upd (F.upd (F.upd (F.upd (F.upd (F.upd (F.upd (F.upd (F.upd f8 13 t10) 14 t11) 15 t12) 7 t12) 16 t12) 17 t13) 18 t13) 19 t14) 20 t16) 21 t18) 22 t20) 23 t22) 24 t23) 12 t23) w21)) w19) w17) w15) w9)
   (Q7 (.exit 0) (F.upd f8 13 t10) w9))
  (zr_ 0 (seqQ (fun f24 w25 =>
 k (.bool true) w25) (zt_ Try.prog [.tmp 4] k)))
  (F.upd (F.upd (F.upd (F.upd (F.upd (F.upd (F.upd (F.upd (zp_ [v0, v1]) 2 t1) 4 (.bool false)) 8 t3) 9 t4) 5 t4) 10 v1) 11 t6) 12 (.int .i64 0)) w5) w2) w
theorem body52 : Try.f52.body = some (zg_ Try.f52) := by kernel_rfl
theorem same52 (v0 v1 : Value) (k : Value → World → Prop) (w : World) : wpF Try.prog pl52 (zg_ Try.f52) (zt_ Try.prog Try.f52.results.toList k) (zp_ [v0, v1]) w = S52 v0 v1 k w := by kernel_rfl
theorem enter52 {v0 v1 : Value} {k : Value → World → Prop} {w : World} (h : S52 v0 v1 k w) : CallK Try.prog 52 [v0, v1] k w :=
  zi_ (pl := pl52) zbb_ Try.func52 body52 (by kernel_rfl) (of_decide_eq_true (by kernel_rfl)) (by kernel_rfl) (by kernel_rfl) (Eq.mpr (same52 v0 v1 k w) h)

def pl114 : Plans := fun i => match i with
  | 19 => ⟨true, [11], .step 0 .any (.step 1 .any (.step 2 .held (.step 3 .any (.step 4 .any (.step 5 .held (.step 6 .any (.step 7 .held (.step 8 .any (.step 9 .one (.step 10 .any (.step 11 .last (.nil))))))))))))⟩
  | _ => ⟨false, [], .nil⟩
def S114 (v0 : Value) (k : Value → World → Prop) (w : World) : Prop :=
 Do Try.prog (sBox 26 v0) (fun t1 w2 =>
 Rd Try.prog (WS.at w2) (zc_ 26 t1) fun t3 =>
 CallK Try.prog 111 [t3, (.bool true)] (fun t4 w5 =>
 Rd Try.prog (WS.at w5) (za_ 26 t1 0) fun t6 =>
 Rd Try.prog (WS.at w5) (zc_ 3 t6) fun t7 =>
 Do Try.prog (zrc_ 35 t7 t7) (fun t8 w9 =>
 zfb_ [18, 5, 19, 20, 21, 22, 23, 24, 25, 7, 8, 26, 27, 28, 29, 30, 31, 32, 10, 33, 34, 35, 36, 37, 38, 39, 40, 41, 42, 8, 43, 29, 44, 45, 46, 47, 48, 49, 50, 51, 52, 53, 12, 54, 55, 56, 57, 58, 59, 60, 61, 62, 63, 64, 65, 66, 67, 68, 69, 70, 71, 72, 73, 74, 75, 5, 76, 50, 77, 22] (fun Q10 f11 w12 =>
  zk_ (f11 5)
   (Rd Try.prog (WS.at w12) (za_ 26 (f11 1) 2) fun t13 =>
   Rd Try.prog (WS.at w12) (zc_ 24 t13) fun t14 =>
   Rd Try.prog (WS.at w12) (ze_ .len #[24] 3 [false] [t14]) fun t15 =>
   zfb_ [23, 24, 25, 7, 8, 26, 27, 28, 29, 30, 31, 32, 10, 33, 34, 35, 36, 37, 38, 39, 40, 41, 42, 8, 43, 29, 44, 45, 46, 47, 48, 49, 50, 51, 52, 53, 12, 54, 55, 56, 57, 58, 59, 60, 61, 62, 63, 64, 65, 66, 67, 68, 69, 70, 71, 72, 73, 74, 75, 5, 76, 50, 77, 22] (fun Q16 f17 w18 =>
    Rd Try.prog (WS.at w18) (sBin .lss 3 false (f17 22) (f17 21)) fun t19 =>
    zk_ t19
     (Rd Try.prog (WS.at w18) (zd_ 24 (f17 20) (f17 22)) fun t20 =>
     Rd Try.prog (WS.at w18) (zc_ 106 t20) fun t21 =>
     Do Try.prog (zib_ 106) (fun t22 w23 =>
     Do Try.prog (zu_ 106 t22 t21) (fun _ w24 =>
     Rd Try.prog (WS.at w24) (za_ 106 t22 1) fun t25 =>
     Rd Try.prog (WS.at w24) (zc_ 27 t25) fun t26 =>
     Rd Try.prog (WS.at w24) (ze_ .len #[27] 3 [false] [t26]) fun t27 =>
     zfb_ [30, 31, 32, 10, 33, 34, 35, 36, 37, 38, 39, 40, 41, 42, 8, 43, 29] (fun Q28 f29 w30 =>
      Rd Try.prog (WS.at w30) (sBin .lss 3 false (f29 29) (f29 28)) fun t31 =>
      zk_ t31
       (Rd Try.prog (WS.at w30) (zd_ 27 (f29 27) (f29 29)) fun t32 =>
       Rd Try.prog (WS.at w30) (zc_ 3 t32) fun t33 =>
       zb_ (f29 8) true (fun k w' => k t33 w') (fun t34 w35 =>
       zb_ (f29 8) true (fun k w' => Rd Try.prog (WS.at w35) (sBin .lss 3 true t34 (.int .i64 0)) fun v => k v w') (fun t36 w37 =>
       zb_ (f29 8) true (fun k w' => k t36 w') (fun t38 w39 =>
       zb_ t38 false (fun k w' => k (f29 3) w') (fun t40 w41 =>
       zb_ t38 false (fun k w' => k t33 w') (fun t42 w43 =>
       zb_ t38 false (fun k w' => CallK Try.prog 112 [t40, t42] k w') (fun t44 w45 =>
       zb_ (f29 8) true (fun k w' => Rd Try.prog (WS.at w45) (zcb_ t38 (.bool true) t44) fun v => k v w') (fun t46 w47 =>
       Rd Try.prog (WS.at w47) (zcb_ (f29 8) t46 (.bool false)) fun t48 =>
       Rd Try.prog (WS.at w47) (sBin .add 3 true (f29 29) (.int .i64 1)) fun t49 =>
       Q28 .normal (F.upd (F.upd (F.upd (F.upd (F.upd (F.upd (F.upd (F.upd (F.upd (F.upd (F.upd (F.upd (F.upd (F.upd (F.upd (F.upd (F.upd f29 30 t31) 31 t32) 32 t33) 10 t33) 33 (f29 8)) 34 (f29 8)) 35 t34) 36 t36) 37 t38) 38 t40) 39 t42) 40 t44) 41 t46) 42 t48) 8 t48) 43 t49) 29 t49) w47) w45) w43) w41) w39) w37) w35) w30)
       (Q28 (.exit 4) (F.upd f29 30 t31) w30))
      (zr_ 4 (seqQ (fun f50 w51 =>
     Rd Try.prog (WS.at w51) (zc_ 26 (f50 1)) fun t52 =>
     Rd Try.prog (WS.at w51) (za_ 106 (f50 7) 1) fun t53 =>
     Rd Try.prog (WS.at w51) (zc_ 27 t53) fun t54 =>
     CallK Try.prog 113 [t52, (f50 4), t54] (fun t55 w56 =>
     Rd Try.prog (WS.at w56) (ze_ .len #[27] 3 [false] [t55]) fun t57 =>
     zfb_ [51, 52, 53, 12, 54, 55, 56, 57, 58, 59, 60, 61, 62, 63, 64, 65, 66, 67, 68, 69, 70, 71, 72, 73, 74, 75, 5, 76, 50] (fun Q58 f59 w60 =>
      Rd Try.prog (WS.at w60) (sBin .lss 3 false (f59 50) (f59 49)) fun t61 =>
      zk_ t61
       (Join (fun K62 =>
       Rd Try.prog (WS.at w60) (zd_ 27 (f59 48) (f59 50)) fun t65 =>
       Rd Try.prog (WS.at w60) (zc_ 3 t65) fun t66 =>
       zb_ (f59 8) true (fun k w' => k (f59 4) w') (fun t67 w68 =>
       zb_ (f59 8) true (fun k w' => Rd Try.prog (WS.at w68) (za_ 106 (f59 7) 0) fun v => k v w') (fun t69 w70 =>
       zb_ (f59 8) true (fun k w' => Rd Try.prog (WS.at w70) (zc_ 3 t69) fun v => k v w') (fun t71 w72 =>
       zb_ (f59 8) true (fun k w' => Rd Try.prog (WS.at w72) (zd_ 35 t67 t71) fun v => k v w') (fun t73 w74 =>
       zb_ (f59 8) true (fun k w' => Rd Try.prog (WS.at w74) (zc_ 27 t73) fun v => k v w') (fun t75 w76 =>
       zb_ (f59 8) true (fun k w' => k t66 w') (fun t77 w78 =>
       zb_ (f59 8) true (fun k w' => CallK Try.prog 112 [t75, t77] k w') (fun t79 w80 =>
       zb_ (f59 8) true (fun k w' => Rd Try.prog (WS.at w80) (sUn .not t79) fun v => k v w') (fun t81 w82 =>
       Rd Try.prog (WS.at w82) (zcb_ (f59 8) t81 (.bool false)) fun t83 =>
       zk_ t83
        (∃ U84 : World → Prop, ∃ h85 : U84 w82.drew,
        Rd Try.prog WS.any (za_ 106 (f59 7) 0) fun t86 =>
        Rd Try.prog ⟨U84, w82.drew, h85⟩ (zc_ 3 t86) fun t87 =>
        Rd Try.prog WS.any (za_ 106 (f59 7) 0) fun t88 =>
        Rd Try.prog ⟨U84, w82.drew, h85⟩ (zc_ 3 t88) fun t89 =>
        Rd Try.prog WS.any (zd_ 35 (f59 4) t89) fun t90 =>
        Rd Try.prog ⟨U84, w82.drew, h85⟩ (zc_ 27 t90) fun t91 =>
        CallK Try.prog 148 [t91, t66] (fun t92 w93 =>
        U84 w93 ∧ Rd Try.prog WS.any (zd_ 35 (f59 4) t87) fun t94 =>
        Do Try.prog (zu_ 27 t94 t92) (fun _ w95 =>
        K62 (F.upd (F.upd (F.upd (F.upd (F.upd (F.upd (F.upd (F.upd (F.upd (F.upd (F.upd (F.upd (F.upd (F.upd (F.upd (F.upd (F.upd (F.upd (F.upd (F.upd (F.upd (F.upd (F.upd (F.upd (F.upd (F.upd (F.upd f59 51 t61) 52 t65) 53 t66) 12 t66) 54 (f59 8)) 55 (f59 8)) 56 t67) 57 t69) 58 t71) 59 t73) 60 t75) 61 t77) 62 t79) 63 t81) 64 t83) 65 (f59 4)) 66 t86) 67 t87) 68 (f59 4)) 69 t88) 70 t89) 71 t90) 72 t91) 73 t66) 74 t92) 75 t94) 5 (.bool true)) w95) w93) w82.drew)
        (K62 (F.upd (F.upd (F.upd (F.upd (F.upd (F.upd (F.upd (F.upd (F.upd (F.upd (F.upd (F.upd (F.upd (F.upd (F.upd f59 51 t61) 52 t65) 53 t66) 12 t66) 54 (f59 8)) 55 (f59 8)) 56 t67) 57 t69) 58 t71) 59 t73) 60 t75) 61 t77) 62 t79) 63 t81) 64 t83) w82)) w80) w78) w76) w74) w72) w70) w68) w60) (fun f63 w64 =>
       Rd Try.prog (WS.at w64) (sBin .add 3 true (f63 50) (.int .i64 1)) fun t96 =>
       Q58 .normal (F.upd (F.upd f63 76 t96) 50 t96) w64))
       (Q58 (.exit 6) (F.upd f59 51 t61) w60))
      (zr_ 6 (zr_ 3 (seqQ (fun f97 w98 =>
     Rd Try.prog (WS.at w98) (sBin .add 3 true (f97 22) (.int .i64 1)) fun t99 =>
     Q16 .normal (F.upd (F.upd f97 77 t99) 22 t99) w98) Q16)))
      (F.upd (F.upd (F.upd (F.upd (F.upd (F.upd (F.upd f50 44 t52) 45 (f50 4)) 46 t53) 47 t54) 48 t55) 49 t57) 50 (.int .i64 0)) w56) w51) (zr_ 3 (seqQ (fun f100 w101 =>
     Rd Try.prog (WS.at w101) (sBin .add 3 true (f100 22) (.int .i64 1)) fun t102 =>
     Q16 .normal (F.upd (F.upd f100 77 t102) 22 t102) w101) Q16))))
      (F.upd (F.upd (F.upd (F.upd (F.upd (F.upd (F.upd (F.upd (F.upd f17 23 t19) 24 t20) 25 t21) 7 t22) 8 (.bool true)) 26 t25) 27 t26) 28 t27) 29 (.int .i64 0)) w24) w23) w18)
     (Q16 (.exit 2) (F.upd f17 23 t19) w18))
    (zr_ 2 (zr_ 1 Q10))
    (F.upd (F.upd (F.upd (F.upd (F.upd (F.upd f11 18 (f11 5)) 5 (.bool false)) 19 t13) 20 t14) 21 t15) 22 (.int .i64 0)) w12)
   (Q10 (.exit 0) (F.upd f11 18 (f11 5)) w12))
  (zr_ 0 (seqQ (fun f103 w104 =>
 k (f103 4) w104) (zt_ Try.prog [.tmp 2] k)))
  (F.upd (F.upd (F.upd (F.upd (F.upd (F.upd (F.upd (F.upd (F.upd (F.upd (zp_ [v0]) 1 t1) 2 (.slice none 0 0)) 13 t3) 14 t4) 3 t4) 15 t6) 16 t7) 17 t8) 4 t8) 5 (.bool true)) w9) w5) w2) w
theorem body114 : Try.f114.body = some (zg_ Try.f114) := by kernel_rfl
theorem same114 (v0 : Value) (k : Value → World → Prop) (w : World) : wpF Try.prog pl114 (zg_ Try.f114) (zt_ Try.prog Try.f114.results.toList k) (zp_ [v0]) w = S114 v0 k w := by kernel_rfl
theorem enter114 {v0 : Value} {k : Value → World → Prop} {w : World} (h : S114 v0 k w) : CallK Try.prog 114 [v0] k w :=
  zi_ (pl := pl114) zbb_ Try.func114 body114 (by kernel_rfl) (of_decide_eq_true (by kernel_rfl)) (by kernel_rfl) (by kernel_rfl) (Eq.mpr (same114 v0 k w) h)

def pl51 : Plans := fun i => match i with
  | 8 => ⟨true, [4], .step 0 .held (.step 1 .held (.step 3 .any (.step 2 .one (.step 4 .last (.step 5 .any (.nil))))))⟩
  | _ => ⟨false, [], .nil⟩
def S51 (v0 v1 : Value) (k : Value → World → Prop) (w : World) : Prop :=
 Do Try.prog (sBox 26 v0) (fun t1 w2 =>
 Rd Try.prog (WS.at w2) (zc_ 26 t1) fun t3 =>
 CallK Try.prog 111 [t3, (.bool true)] (fun t4 w5 =>
 Rd Try.prog (WS.at w5) (ze_ .len #[27] 3 [false] [v1]) fun t6 =>
 zfb_ [13, 14, 15, 7, 16, 17, 18, 19, 20, 21, 22, 23, 4, 24, 12] (fun Q7 f8 w9 =>
  Rd Try.prog (WS.at w9) (sBin .lss 3 false (f8 12) (f8 11)) fun t10 =>
  zk_ t10
   (Rd Try.prog (WS.at w9) (zd_ 27 (f8 10) (f8 12)) fun t11 =>
   Rd Try.prog (WS.at w9) (zc_ 3 t11) fun t12 =>
   Rd Try.prog (WS.at w9) (sBin .geq 3 true t12 (.int .i64 0)) fun t13 =>
   zb_ t13 true (fun k w' => k (f8 5) w') (fun t14 w15 =>
   zb_ t13 true (fun k w' => k t12 w') (fun t16 w17 =>
   zb_ t13 true (fun k w' => CallK Try.prog 112 [t14, t16] k w') (fun t18 w19 =>
   zb_ t13 true (fun k w' => Rd Try.prog (WS.at w19) (sUn .not t18) fun v => k v w') (fun t20 w21 =>
   Rd Try.prog (WS.at w21) (zcb_ t13 t20 (.bool false)) fun t22 =>
   zk_ t22
    (Q7 .ret (F.upd (F.upd (F.upd (F.upd (F.upd (F.upd (F.upd (F.upd (F.upd (F.upd (F.upd (F.upd (F.upd f8 13 t10) 14 t11) 15 t12) 7 t12) 16 t12) 17 t13) 18 t13) 19 t14) 20 t16) 21 t18) 22 t20) 23 t22) 4 (.slice none 0 0)) w21)
    (Rd Try.prog (WS.at w21) (sBin .add 3 true (f8 12) (.int .i64 1)) fun t23 =>
    Q7 .normal (F.upd (F.upd (F.upd (F.upd (F.upd (F.upd (F.upd (F.upd (F.upd (F.upd (F.upd (F.upd (F.upd (F.upd f8 13 t10) 14 t11) 15 t12) 7 t12) 16 t12) 17 t13) 18 t13) 19 t14) 20 t16) 21 t18) 22 t20) 23 t22) 24 t23) 12 t23) w21)) w19) w17) w15) w9)
   (Q7 (.exit 0) (F.upd f8 13 t10) w9))
  (zr_ 0 (seqQ (fun f24 w25 =>
 ∃ U26 : World → Prop, ∃ h27 : U26 w25.drew,
 Rd Try.prog ⟨U26, w25.drew, h27⟩ (zc_ 26 (f24 2)) fun t28 =>
 Rd Try.prog ⟨U26, w25.drew, h27⟩ (zc_ 26 (f24 2)) fun t29 =>
 CallK Try.prog 114 [t29] (fun t30 w31 =>
 U26 w31 ∧ CallK Try.prog 113 [t28, t30, (f24 1)] (fun t32 w33 =>
 k t32 w33) w31) w25.drew) (zt_ Try.prog [.tmp 4] k)))
  (F.upd (F.upd (F.upd (F.upd (F.upd (F.upd (F.upd (F.upd (zp_ [v0, v1]) 2 t1) 4 (.slice none 0 0)) 8 t3) 9 t4) 5 t4) 10 v1) 11 t6) 12 (.int .i64 0)) w5) w2) w
theorem body51 : Try.f51.body = some (zg_ Try.f51) := by kernel_rfl
theorem same51 (v0 v1 : Value) (k : Value → World → Prop) (w : World) : wpF Try.prog pl51 (zg_ Try.f51) (zt_ Try.prog Try.f51.results.toList k) (zp_ [v0, v1]) w = S51 v0 v1 k w := by kernel_rfl
theorem enter51 {v0 v1 : Value} {k : Value → World → Prop} {w : World} (h : S51 v0 v1 k w) : CallK Try.prog 51 [v0, v1] k w :=
  zi_ (pl := pl51) zbb_ Try.func51 body51 (by kernel_rfl) (of_decide_eq_true (by kernel_rfl)) (by kernel_rfl) (by kernel_rfl) (Eq.mpr (same51 v0 v1 k w) h)

def pl8 : Plans := fun _ => ⟨false, [], .nil⟩
def S8 (v0 : Value) (k : Value → World → Prop) (w : World) : Prop :=
 Do Try.prog (zib_ 26) (fun t1 w2 =>
 CallK Try.prog 43 [v0] (fun t3 w4 =>
 Rd Try.prog (WS.at w4) (zeb_ t3 0) fun t5 =>
 Rd Try.prog (WS.at w4) (zeb_ t3 1) fun t6 =>
 Rd Try.prog (WS.at w4) (zeb_ t3 2) fun t7 =>
 Do Try.prog (zib_ 26) (fun t8 w9 =>
 Do Try.prog (zu_ 26 t8 t5) (fun _ w10 =>
 Rd Try.prog (WS.at w10) (zc_ 26 t8) fun t11 =>
 Do Try.prog (zu_ 26 t1 t11) (fun _ w12 =>
 Rd Try.prog (WS.at w12) (zjb_ 26 t1) fun t13 => k (.tuple #[t13, t6]) w12) w10) w9) w4) w2) w
theorem body8 : Try.f8.body = some (zg_ Try.f8) := by kernel_rfl
theorem same8 (v0 : Value) (k : Value → World → Prop) (w : World) : wpF Try.prog pl8 (zg_ Try.f8) (zt_ Try.prog Try.f8.results.toList k) (zp_ [v0]) w = S8 v0 k w := by kernel_rfl
theorem enter8 {v0 : Value} {k : Value → World → Prop} {w : World} (h : S8 v0 k w) : CallK Try.prog 8 [v0] k w :=
  zi_ (pl := pl8) zbb_ Try.func8 body8 (by kernel_rfl) (of_decide_eq_true (by kernel_rfl)) (by kernel_rfl) (by kernel_rfl) (Eq.mpr (same8 v0 k w) h)

def pl3 : Plans := fun _ => ⟨false, [], .nil⟩
def S3 (v0 v1 : Value) (k : Value → World → Prop) (w : World) : Prop :=
 CallK Try.prog 7 [v0, v1] (fun t1 w2 =>
 zk_ t1
  (k (.bool true) w2)
  (CallK Try.prog 8 [v0] (fun t3 w4 =>
  Rd Try.prog (WS.at w4) (zeb_ t3 0) fun t5 =>
  Rd Try.prog (WS.at w4) (zeb_ t3 1) fun t6 =>
  Do Try.prog (zib_ 26) (fun t7 w8 =>
  Do Try.prog (zu_ 26 t7 t5) (fun _ w9 =>
  Rd Try.prog (WS.at w9) (zc_ 26 t7) fun t10 =>
  CallK Try.prog 9 [t10, t6] (fun t11 w12 =>
  Rd Try.prog (WS.at w12) (zeb_ t11 0) fun t13 =>
  Rd Try.prog (WS.at w12) (zeb_ t11 1) fun t14 =>
  Rd Try.prog (WS.at w12) (zeb_ t11 2) fun t15 =>
  Rd Try.prog (WS.at w12) (zc_ 26 t7) fun t16 =>
  CallK Try.prog 10 [t16, t6] (fun t17 w18 =>
  Rd Try.prog (WS.at w18) (zeb_ t17 0) fun t19 =>
  Rd Try.prog (WS.at w18) (zeb_ t17 1) fun t20 =>
  Rd Try.prog (WS.at w18) (zeb_ t17 2) fun t21 =>
  Rd Try.prog (WS.at w18) (sBin .neq 4 false t15 t21) fun t22 =>
  zb_ t22 false (fun k w' => k t13 w') (fun t23 w24 =>
  zb_ t22 false (fun k w' => k t19 w') (fun t25 w26 =>
  zb_ t22 false (fun k w' => CallK Try.prog 11 [t23, t25] k w') (fun t27 w28 =>
  zb_ t22 false (fun k w' => Rd Try.prog (WS.at w28) (sUn .not t27) fun v => k v w') (fun t29 w30 =>
  Rd Try.prog (WS.at w30) (zcb_ t22 (.bool true) t29) fun t31 =>
  zb_ t31 false (fun k w' => k t14 w') (fun t32 w33 =>
  zb_ t31 false (fun k w' => k t20 w') (fun t34 w35 =>
  zb_ t31 false (fun k w' => Rd Try.prog (WS.at w35) (sBin .neq 4 false t32 t34) fun v => k v w') (fun t36 w37 =>
  Rd Try.prog (WS.at w37) (zcb_ t31 (.bool true) t36) fun t38 =>
  zk_ t38
   (k (.bool false) w37)
   (Join (fun K39 =>
   zk_ t15
    (Rd Try.prog (WS.at w37) (zc_ 26 t7) fun t42 =>
    CallK Try.prog 12 [t42, t6, (.slice none 0 0)] (fun t43 w44 =>
    Rd Try.prog (WS.at w44) (zeb_ t43 0) fun t45 =>
    Rd Try.prog (WS.at w44) (zeb_ t43 1) fun t46 =>
    Rd Try.prog (WS.at w44) (sUn .not t46) fun t47 =>
    zb_ t47 false (fun k w' => k t45 w') (fun t48 w49 =>
    zb_ t47 false (fun k w' => k t14 w') (fun t50 w51 =>
    zb_ t47 false (fun k w' => Rd Try.prog (WS.at w51) (sBin .neq 4 false t48 t50) fun v => k v w') (fun t52 w53 =>
    Rd Try.prog (WS.at w53) (zcb_ t47 (.bool true) t52) fun t54 =>
    zk_ t54
     (k (.bool false) w53)
     (zfb_ [73, 74, 75, 76, 16, 79, 80, 81, 82, 85, 86, 87, 88, 89, 90, 91, 92, 93, 94, 95, 18, 97, 98, 99, 100, 96, 101, 102, 19, 20, 103, 104, 105, 106, 107, 108, 109, 110, 111, 112, 113, 4, 114, 92, 83, 84, 16, 77, 78, 15] (fun Q55 f56 w57 =>
      Rd Try.prog (WS.at w57) (za_ 26 (f56 5) 1) fun t58 =>
      Rd Try.prog (WS.at w57) (zc_ 3 t58) fun t59 =>
      Rd Try.prog (WS.at w57) (sBin .lss 3 false (f56 15) t59) fun t60 =>
      zk_ t60
       (zfb_ [79, 80, 81, 82, 85, 86, 87, 88, 89, 90, 91, 92, 93, 94, 95, 18, 97, 98, 99, 100, 96, 101, 102, 19, 20, 103, 104, 105, 106, 107, 108, 109, 110, 111, 112, 113, 4, 114, 92, 83, 84, 16] (fun Q61 f62 w63 =>
        Rd Try.prog (WS.at w63) (za_ 26 (f62 5) 1) fun t64 =>
        Rd Try.prog (WS.at w63) (zc_ 3 t64) fun t65 =>
        Rd Try.prog (WS.at w63) (sBin .lss 3 false (f62 16) t65) fun t66 =>
        zk_ t66
         (Do Try.prog (zh_ 27 1 [(0, (f62 15))]) (fun t67 w68 =>
         Do Try.prog (zh_ 27 2 [(0, (f62 15)), (1, (f62 16))]) (fun t69 w70 =>
         Do Try.prog (zh_ 35 2 [(0, t67), (1, t69)]) (fun t71 w72 =>
         Rd Try.prog (WS.at w72) (ze_ .len #[35] 3 [false] [t71]) fun t73 =>
         zfb_ [93, 94, 95, 18, 97, 98, 99, 100, 96, 101, 102, 19, 20, 103, 104, 105, 106, 107, 108, 109, 110, 111, 112, 113, 4, 114, 92] (fun Q74 f75 w76 =>
          Rd Try.prog (WS.at w76) (sBin .lss 3 false (f75 92) (f75 91)) fun t77 =>
          zk_ t77
           (Rd Try.prog (WS.at w76) (zd_ 35 (f75 90) (f75 92)) fun t78 =>
           Rd Try.prog (WS.at w76) (zc_ 27 t78) fun t79 =>
           Rd Try.prog (WS.at w76) (zc_ 26 (f75 5)) fun t80 =>
           CallK Try.prog 12 [t80, (f75 6), t79] (fun t81 w82 =>
           Rd Try.prog (WS.at w82) (zeb_ t81 0) fun t83 =>
           Rd Try.prog (WS.at w82) (zeb_ t81 1) fun t84 =>
           Rd Try.prog (WS.at w82) (sUn .not t84) fun t85 =>
           zb_ t85 false (fun k w' => k t83 w') (fun t86 w87 =>
           zb_ t85 false (fun k w' => k t86 w') (fun t88 w89 =>
           zb_ t88 true (fun k w' => k (f75 7) w') (fun t90 w91 =>
           zb_ t88 true (fun k w' => k (f75 15) w') (fun t92 w93 =>
           zb_ t88 true (fun k w' => CallK Try.prog 13 [t90, t92] k w') (fun t94 w95 =>
           zb_ t88 true (fun k w' => Rd Try.prog (WS.at w95) (sUn .not t94) fun v => k v w') (fun t96 w97 =>
           zb_ t85 false (fun k w' => Rd Try.prog (WS.at w97) (zcb_ t88 t96 (.bool false)) fun v => k v w') (fun t98 w99 =>
           Rd Try.prog (WS.at w99) (zcb_ t85 (.bool true) t98) fun t100 =>
           zk_ t100
            (Q74 .ret (F.upd (F.upd (F.upd (F.upd (F.upd (F.upd (F.upd (F.upd (F.upd (F.upd (F.upd (F.upd (F.upd (F.upd (F.upd (F.upd (F.upd (F.upd (F.upd (F.upd (F.upd (F.upd (F.upd (F.upd (F.upd f75 93 t77) 94 t78) 95 t79) 18 t79) 97 t80) 98 (f75 6)) 99 t79) 100 t81) 96 t81) 101 t83) 102 t84) 19 t83) 20 t84) 103 t84) 104 t85) 105 t85) 106 t86) 107 t88) 108 t90) 109 t92) 110 t94) 111 t96) 112 t98) 113 t100) 4 (.bool false)) w99)
            (Rd Try.prog (WS.at w99) (sBin .add 3 true (f75 92) (.int .i64 1)) fun t101 =>
            Q74 .normal (F.upd (F.upd (F.upd (F.upd (F.upd (F.upd (F.upd (F.upd (F.upd (F.upd (F.upd (F.upd (F.upd (F.upd (F.upd (F.upd (F.upd (F.upd (F.upd (F.upd (F.upd (F.upd (F.upd (F.upd (F.upd (F.upd f75 93 t77) 94 t78) 95 t79) 18 t79) 97 t80) 98 (f75 6)) 99 t79) 100 t81) 96 t81) 101 t83) 102 t84) 19 t83) 20 t84) 103 t84) 104 t85) 105 t85) 106 t86) 107 t88) 108 t90) 109 t92) 110 t94) 111 t96) 112 t98) 113 t100) 114 t101) 92 t101) w99)) w97) w95) w93) w91) w89) w87) w82) w76)
           (Q74 (.exit 4) (F.upd f75 93 t77) w76))
          (zr_ 4 (zr_ 3 (seqQ (fun f102 w103 =>
         Rd Try.prog (WS.at w103) (sBin .add 3 true (f102 16) (.int .i64 1)) fun t104 =>
         Q61 .normal (F.upd (F.upd (F.upd f102 83 (f102 16)) 84 t104) 16 t104) w103) Q61)))
          (F.upd (F.upd (F.upd (F.upd (F.upd (F.upd (F.upd (F.upd (F.upd (F.upd (F.upd (F.upd f62 79 (f62 16)) 80 t64) 81 t65) 82 t66) 85 (f62 15)) 86 t67) 87 (f62 15)) 88 (f62 16)) 89 t69) 90 t71) 91 t73) 92 (.int .i64 0)) w72) w70) w68) w63)
         (Q61 (.exit 2) (F.upd (F.upd (F.upd (F.upd f62 79 (f62 16)) 80 t64) 81 t65) 82 t66) w63))
        (zr_ 2 (zr_ 1 (seqQ (fun f105 w106 =>
       Rd Try.prog (WS.at w106) (sBin .add 3 true (f105 15) (.int .i64 1)) fun t107 =>
       Q55 .normal (F.upd (F.upd (F.upd f105 77 (f105 15)) 78 t107) 15 t107) w106) Q55)))
        (F.upd (F.upd (F.upd (F.upd (F.upd f56 73 (f56 15)) 74 t58) 75 t59) 76 t60) 16 (.int .i64 0)) w57)
       (Q55 (.exit 0) (F.upd (F.upd (F.upd (F.upd f56 73 (f56 15)) 74 t58) 75 t59) 76 t60) w57))
      (zr_ 0 (seqQ K39 (zt_ Try.prog [.tmp 4] k)))
      (F.upd (F.upd (F.upd (F.upd (F.upd (F.upd (F.upd (F.upd (F.upd (F.upd (F.upd (F.upd (F.upd (F.upd (F.upd (F.upd (F.upd (F.upd (F.upd (F.upd (F.upd (F.upd (F.upd (F.upd (F.upd (F.upd (F.upd (F.upd (F.upd (F.upd (F.upd (F.upd (F.upd (F.upd (F.upd (F.upd (F.upd (F.upd (F.upd (F.upd (F.upd (F.upd (F.upd (F.upd (F.upd (F.upd (F.upd (F.upd (F.upd (F.upd (F.upd (F.upd (F.upd (F.upd (F.upd (F.upd (F.upd (F.upd (F.upd (F.upd (F.upd (F.upd (zp_ [v0, v1]) 4 (.bool false)) 23 v0) 24 v1) 25 t1) 27 v0) 28 t3) 26 t3) 29 t5) 30 t6) 5 t7) 6 t6) 32 t10) 33 t6) 34 t11) 31 t11) 35 t13) 36 t14) 37 t15) 7 t13) 8 t14) 9 t15) 39 t16) 40 t6) 41 t17) 38 t17) 42 t19) 43 t20) 44 t21) 10 t19) 11 t20) 12 t21) 45 t15) 46 t21) 47 t22) 48 t22) 49 t23) 50 t25) 51 t27) 52 t29) 53 t31) 54 t31) 55 t32) 56 t34) 57 t36) 58 t38) 59 t15) 61 t42) 62 t6) 63 t43) 60 t43) 64 t45) 65 t46) 13 t45) 14 t46) 66 t46) 67 t47) 68 t47) 69 t48) 70 t50) 71 t52) 72 t54) 15 (.int .i64 0)) w53)) w51) w49) w44) w37)
    (K39 (F.upd (F.upd (F.upd (F.upd (F.upd (F.upd (F.upd (F.upd (F.upd (F.upd (F.upd (F.upd (F.upd (F.upd (F.upd (F.upd (F.upd (F.upd (F.upd (F.upd (F.upd (F.upd (F.upd (F.upd (F.upd (F.upd (F.upd (F.upd (F.upd (F.upd (F.upd (F.upd (F.upd (F.upd (F.upd (F.upd (F.upd (F.upd (F.upd (F.upd (F.upd (F.upd (F.upd (F.upd (F.upd (F.upd (zp_ [v0, v1]) 4 (.bool false)) 23 v0) 24 v1) 25 t1) 27 v0) 28 t3) 26 t3) 29 t5) 30 t6) 5 t7) 6 t6) 32 t10) 33 t6) 34 t11) 31 t11) 35 t13) 36 t14) 37 t15) 7 t13) 8 t14) 9 t15) 39 t16) 40 t6) 41 t17) 38 t17) 42 t19) 43 t20) 44 t21) 10 t19) 11 t20) 12 t21) 45 t15) 46 t21) 47 t22) 48 t22) 49 t23) 50 t25) 51 t27) 52 t29) 53 t31) 54 t31) 55 t32) 56 t34) 57 t36) 58 t38) 59 t15) w37)) (fun f40 w41 =>
   CallK Try.prog 8 [(f40 1)] (fun t110 w111 =>
   Rd Try.prog (WS.at w111) (zeb_ t110 0) fun t112 =>
   Rd Try.prog (WS.at w111) (zeb_ t110 1) fun t113 =>
   Do Try.prog (zib_ 26) (fun t114 w115 =>
   Do Try.prog (zu_ 26 t114 t112) (fun _ w116 =>
   Rd Try.prog (WS.at w116) (zc_ 26 t114) fun t117 =>
   CallK Try.prog 9 [t117, t113] (fun t118 w119 =>
   Rd Try.prog (WS.at w119) (zeb_ t118 0) fun t120 =>
   Rd Try.prog (WS.at w119) (zeb_ t118 1) fun t121 =>
   Rd Try.prog (WS.at w119) (zeb_ t118 2) fun t122 =>
   Rd Try.prog (WS.at w119) (zc_ 26 t114) fun t123 =>
   CallK Try.prog 10 [t123, t113] (fun t124 w125 =>
   Rd Try.prog (WS.at w125) (zeb_ t124 0) fun t126 =>
   Rd Try.prog (WS.at w125) (zeb_ t124 1) fun t127 =>
   Rd Try.prog (WS.at w125) (zeb_ t124 2) fun t128 =>
   Rd Try.prog (WS.at w125) (sBin .eql 4 false t122 t128) fun t129 =>
   zb_ t129 true (fun k w' => k t120 w') (fun t130 w131 =>
   zb_ t129 true (fun k w' => k t126 w') (fun t132 w133 =>
   zb_ t129 true (fun k w' => CallK Try.prog 11 [t130, t132] k w') (fun t134 w135 =>
   Rd Try.prog (WS.at w135) (zcb_ t129 t134 (.bool false)) fun t136 =>
   zb_ t136 true (fun k w' => k t121 w') (fun t137 w138 =>
   zb_ t136 true (fun k w' => k t127 w') (fun t139 w140 =>
   zb_ t136 true (fun k w' => Rd Try.prog (WS.at w140) (sBin .eql 4 false t137 t139) fun v => k v w') (fun t141 w142 =>
   Rd Try.prog (WS.at w142) (zcb_ t136 t141 (.bool false)) fun t143 =>
   k t143 w142) w140) w138) w135) w133) w131) w125) w119) w116) w115) w111) w41))) w35) w33) w30) w28) w26) w24) w18) w12) w9) w8) w4) w2)) w
theorem body3 : Try.f3.body = some (zg_ Try.f3) := by kernel_rfl
theorem same3 (v0 v1 : Value) (k : Value → World → Prop) (w : World) : wpF Try.prog pl3 (zg_ Try.f3) (zt_ Try.prog Try.f3.results.toList k) (zp_ [v0, v1]) w = S3 v0 v1 k w := by kernel_rfl
theorem enter3 {v0 v1 : Value} {k : Value → World → Prop} {w : World} (h : S3 v0 v1 k w) : CallK Try.prog 3 [v0, v1] k w :=
  zi_ (pl := pl3) zbb_ Try.func3 body3 (by kernel_rfl) (of_decide_eq_true (by kernel_rfl)) (by kernel_rfl) (by kernel_rfl) (Eq.mpr (same3 v0 v1 k w) h)

end Go.Proofs.Yteabbgaffgpegaa

namespace Go.Sh
open Go
theorem four_of : ∀ {A : List Bool}, A.length = 4 → ∃ a b c d, A = [a, b, c, d]
  | [a, b, c, d], _ => ⟨a, b, c, d, rfl⟩
theorem zkf_ (A : List Bool) : (arrB A).cells.toList = A.map Value.bool := by simp [arrB, Value.cells]
theorem zwf_ {A : List Bool} {n : Nat} (h : A.length = n) : (arrB A).cells.size = n := by simp [arrB, Value.cells, h]
theorem zmf_ (A : List Bool) : (arrB A).cells.toList.all Value.oneCell' = true := by
  rw [zkf_, List.all_map, List.all_eq_true]
  exact fun _ _ => rfl
theorem zxh_ {A : List Bool} {n m : Nat} {v : Bool} (hn : n < A.length) : atB (A.set n v) m = if m = n then v else atB A m := by
  unfold atB
  rw [List.getD_eq_getElem?_getD, List.getD_eq_getElem?_getD, List.getElem?_set]
  by_cases e : n = m
  · subst e
    simp [hn]
  · rw [if_neg e, if_neg fun h => e h.symm]
theorem zbc_ {A : List Bool} {n : Nat} {v : Bool} (hn : n < A.length) : (A.map Value.bool).take n ++ (Value.bool v).cells.toList ++ (A.map Value.bool).drop (n + 1) = (A.set n v).map Value.bool := by
  rw [List.map_set, List.set_eq_take_append_cons_drop, if_pos (by simpa using hn), List.append_assoc]
  rfl
theorem atB_part {A : List Bool} {o n j : Nat} (hj : j < n) : atB ((A.drop o).take n) j = atB A (o + j) := by
  unfold atB
  rw [List.getD_eq_getElem?_getD, List.getD_eq_getElem?_getD, List.getElem?_take_of_lt hj, List.getElem?_drop]
theorem atB_rep {n m : Nat} : atB (List.replicate n false) m = false := by
  unfold atB
  rw [List.getD_eq_getElem?_getD, List.getElem?_replicate]
  split <;> rfl
theorem part_len {A : List Bool} {o n : Nat} (h : o + n ≤ A.length) : ((A.drop o).take n).length = n := by
  rw [List.length_take, List.length_drop]
  omega
def hdP (B : List Bool) (A : Nat) : Prop := atB B A = true
def hdN (B : List Bool) (A : Nat) : Prop := atB B (6 + A) = true
def hdF (B : List Bool) (A : Nat) (t : Int) : Prop := 0 ≤ t ∧ t < 4 ∧ atB B (12 + A * 4 + t.toNat) = true
def hdW (B : List Bool) (A : Nat) (t : Int) : Prop := 0 ≤ t ∧ t < 4 ∧ atB B (36 + A * 4 + t.toNat) = true
def hdL (B : List Bool) (A : Nat) : Prop := atB B (60 + A) = true
def zae_ (B : List Bool) (xs : List Int) : Prop := ∀ x ∈ xs, ¬ x < 0 → hdP B x.toNat
def zxf_ (B : List Bool) (xs : List Int) : Prop := ∀ x ∈ xs, ¬ x < 0 ∧ hdN B x.toNat
theorem madeB_any {B : List Bool} {xs : List Int} : zae_ B xs ↔ xs.any (barP B) = false := by
  rw [List.any_eq_false]
  constructor
  · intro h x hx hb
    rw [(bars_p B x).2 ⟨fun _ => rfl, fun h0 => h x hx h0⟩] at hb
    cases hb
  · intro h x hx h0
    have := h x hx
    rw [Bool.not_eq_true] at this
    exact ((bars_p B x).1 this).2 h0
end Go.Sh
namespace Go.Proofs.Yteabbgaffgpegaa
open Go Go.Sh Go.RowKit
theorem inf71' : Inf Try.prog 71 (.agg #[.bool false, .bool false, .bool false, .bool false]) 4 4 := zke_ (by kernel_rfl)
section
variable {w : World} {k : Value → World → Prop} {Y : Option Addr} {cy : Nat} {gm : Gram}
theorem zdh_ {S : WS} {k : Value → Prop} {A : List Bool} (hlen : A.length = 4) {i : Nat} (hi : i < 4) : Rd Try.prog S (sIndex 71 (arrB A) (.int .i64 (i : Int))) k = k (.bool (atB A i)) := by
  obtain ⟨a0, a1, a2, a3, rfl⟩ := four_of hlen
  match i, hi with
  | 0, _ => exact zrb_ fun w _ => by kernel_rfl
  | 1, _ => exact zrb_ fun w _ => by kernel_rfl
  | 2, _ => exact zrb_ fun w _ => by kernel_rfl
  | 3, _ => exact zrb_ fun w _ => by kernel_rfl
theorem headsBar_c {b b1 : Nat} {B : List Bool} {x : Int} (hB : B.length = 66) (hx : x < 6) (hb1 : Box w b1 [ptrv b] 73) (hb : Box w b (B.map Value.bool) 145) (hk : k (.bool (barP B x)) w) :
    CallK Try.prog 106 [.int .i64 x, ptrv b1] k w := by
  refine enter106 ?_
  unfold S106
  unfold barP at hk
  simp only [zq18, zq19, zq20, zq21, zq22, zq23, zq24, zq25, zq26, zq27, zq28, zq4, zq3, zq1, zq2, zq0, zq29, zq30, zq14, zq15, zq16, zq17, zq13, zq10, zq12, zq11, zq7, zq5, zq6, zq9, zq8, zq31, zq32, ite_T, ite_F, zq33, zq34, zq35, Nat.reduceEqDiff, len22, len24, fa26_0, fa26_1, fa26_2, len27, len35, fa86_0, fa86_1, fa86_2, fa97_0, fa97_1, fa106_0, fa106_1, fa145_0, fa145_1, fa145_2, fa145_3, fa145_4, len192]
  by_cases h : 0 ≤ x
  · simp only [h, decide_true, zq18, zq19, zq20, zq21, zq22, zq23, zq24, zq25, zq26, zq27, zq28, zq4, zq3, zq1, zq2, zq0, zq29, zq30, zq14, zq15, zq16, zq17, zq13, zq10, zq12, zq11, zq7, zq5, zq6, zq9, zq8, zq31, zq32, ite_T, ite_F, zq33, zq34, zq35, Nat.reduceEqDiff, len22, len24, fa26_0, fa26_1, fa26_2, len27, len35, fa86_0, fa86_1, fa86_2, fa97_0, fa97_1, fa106_0, fa106_1, fa145_0, fa145_1, fa145_2, fa145_3, fa145_4, len192]
    rw [ldB73 hb1 rfl]
    simp only [zq18, zq19, zq20, zq21, zq22, zq23, zq24, zq25, zq26, zq27, zq28, zq4, zq3, zq1, zq2, zq0, zq29, zq30, zq14, zq15, zq16, zq17, zq13, zq10, zq12, zq11, zq7, zq5, zq6, zq9, zq8, zq31, zq32, ite_T, ite_F, zq33, zq34, zq35, Nat.reduceEqDiff, len22, len24, fa26_0, fa26_1, fa26_2, len27, len35, fa86_0, fa86_1, fa86_2, fa97_0, fa97_1, fa106_0, fa106_1, fa145_0, fa145_1, fa145_2, fa145_3, fa145_4, len192]
    refine rdi (zvd_ h hx) ?_
    rw [zq34, Nat.zero_add, ldB4 hb (zwd_ (by omega))]
    simp only [zq18, zq19, zq20, zq21, zq22, zq23, zq24, zq25, zq26, zq27, zq28, zq4, zq3, zq1, zq2, zq0, zq29, zq30, zq14, zq15, zq16, zq17, zq13, zq10, zq12, zq11, zq7, zq5, zq6, zq9, zq8, zq31, zq32, ite_T, ite_F, zq33, zq34, zq35, Nat.reduceEqDiff, len22, len24, fa26_0, fa26_1, fa26_2, len27, len35, fa86_0, fa86_1, fa86_2, fa97_0, fa97_1, fa106_0, fa106_1, fa145_0, fa145_1, fa145_2, fa145_3, fa145_4, len192]
    simpa only [h, decide_true, Bool.true_and] using hk
  · simp only [h, decide_false, zq18, zq19, zq20, zq21, zq22, zq23, zq24, zq25, zq26, zq27, zq28, zq4, zq3, zq1, zq2, zq0, zq29, zq30, zq14, zq15, zq16, zq17, zq13, zq10, zq12, zq11, zq7, zq5, zq6, zq9, zq8, zq31, zq32, ite_T, ite_F, zq33, zq34, zq35, Nat.reduceEqDiff, len22, len24, fa26_0, fa26_1, fa26_2, len27, len35, fa86_0, fa86_1, fa86_2, fa97_0, fa97_1, fa106_0, fa106_1, fa145_0, fa145_1, fa145_2, fa145_3, fa145_4, len192]
    simpa only [h, decide_false, Bool.false_and] using hk
set_option maxHeartbeats 12800000 in
theorem zmi_ {b c : Nat} {B : List Bool} {X : Option Addr} {xs : List Int} (hb : Box w b (B.map Value.bool) 145) (hB : B.length = 66) (hX : Ints w X xs) (hs : ∀ x ∈ xs, -4 ≤ x ∧ x < 6)
    (hk : ∀ w' S e, Gr w w' → S.length = 4 → (∀ t : Nat, t < 4 → (atB S t = true ↔ zae_ B xs ∧ Fsq (hdN B) (hdF B) xs t)) → (e = true ↔ zae_ B xs ∧ zxf_ B xs) → k (.tuple #[arrB S, .bool e]) w') :
    CallK Try.prog 47 [ptrv b, .slice X xs.length c] k w := by
  refine enter47 ?_
  unfold S47
  have H := Apt.nil w
  refine boxH H fun b1 w1 H => ?_
  refine zpb_ H inf71' fun b4 w2 H => ?_
  refine rdi (zcp_ u71 sz4 inf71' rfl) ?_
  refine zpb_ H inf71' fun b6 w3 H => ?_
  refine zdb_ H 2 rfl sz71 rfl rfl rfl fun w4 H => ?_
  have H : Apt w w4 [bx b1 [ptrv b] 73, bx b4 [.bool false, .bool false, .bool false, .bool false] 71, bx b6 ((List.replicate 4 false).map Value.bool) 71] := H
  rw [makeFunc_]
  refine zff_ (D := fun x => x < 6) (p := barP B) (hX.gr H.gr) (fun x hx => (hs x hx).2) (fun w5 g5 x hx k hk => ?_) fun w5 g5 => ?_
  · refine callVc (caps := [ptrv b1]) ?_
    exact headsBar_c hB hx ((H.box 0 rfl).gr g5) ((hb.gr H.gr).gr g5) (hk w5 (Gr.refl _))
  have H := H.step g5
  have last : ∀ (w6 : World) (S : List Bool) (e : Bool), S.length = 4 → Apt w w6 [bx b1 [ptrv b] 73, bx b4 [.bool false, .bool false, .bool false, .bool false] 71, bx b6 (S.map Value.bool) 71] →
      (∀ t : Nat, t < 4 → (atB S t = true ↔ zae_ B xs ∧ Fsq (hdN B) (hdF B) xs t)) → (e = true ↔ zae_ B xs ∧ zxf_ B xs) →
      Rd Try.prog (WS.at w6) (zc_ 71 (ptrv b6)) fun t12 => Do Try.prog (zu_ 71 (ptrv b4) t12) (fun _ w13 => Rd Try.prog (WS.at w13) (zjb_ 71 (ptrv b4)) fun t14 => k (.tuple #[t14, (.bool e)]) w13) w6 := fun w6 S e hS H h1 h2 => by
    rw [zw_ agg71 sz71 (by simp [hS]) (H.box 2 rfl)]
    refine zdb_ H 1 rfl sz71 (zwf_ hS) (zmf_ S) rfl fun w7 H => ?_
    have e1 : List.take 0 [Value.bool false, .bool false, .bool false, .bool false] ++ (arrB S).cells.toList ++ List.drop (0 + 4) [Value.bool false, .bool false, .bool false, .bool false] = S.map Value.bool := by
      rw [zkf_]
      simp
    have H : Apt w w7 [bx b1 [ptrv b] 73, bx b4 (List.take 0 [Value.bool false, .bool false, .bool false, .bool false] ++ (arrB S).cells.toList ++ List.drop (0 + 4) [Value.bool false, .bool false, .bool false, .bool false]) 71, bx b6 (S.map Value.bool) 71] := H
    rw [e1] at H
    rw [ztc_, zw_ agg71 sz71 (by simp [hS]) (H.box 1 rfl)]
    exact hk w7 S e H.gr hS h1 h2
  cases hany : xs.any (barP B)
  case true =>
    simp only [zq18, zq19, zq20, zq21, zq22, zq23, zq24, zq25, zq26, zq27, zq28, zq4, zq3, zq1, zq2, zq0, zq29, zq30, zq14, zq15, zq16, zq17, zq13, zq10, zq12, zq11, zq7, zq5, zq6, zq9, zq8, zq31, zq32, ite_T, ite_F, zq33, zq34, zq35, Nat.reduceEqDiff, len22, len24, fa26_0, fa26_1, fa26_2, len27, len35, fa86_0, fa86_1, fa86_2, fa97_0, fa97_1, fa106_0, fa106_1, fa145_0, fa145_1, fa145_2, fa145_3, fa145_4, len192]
    have hno : ¬ zae_ B xs := fun h => by rw [madeB_any.1 h] at hany; cases hany
    exact last w5 _ false rfl H (fun t ht => ⟨fun h => absurd h (by rw [atB_rep]; decide), fun h => absurd h.1 hno⟩) ⟨fun h => (by cases h), fun h => absurd h.1 hno⟩
  have hmade := madeB_any.2 hany
  simp only [zq18, zq19, zq20, zq21, zq22, zq23, zq24, zq25, zq26, zq27, zq28, zq4, zq3, zq1, zq2, zq0, zq29, zq30, zq14, zq15, zq16, zq17, zq13, zq10, zq12, zq11, zq7, zq5, zq6, zq9, zq8, zq31, zq32, ite_T, ite_F, zq33, zq34, zq35, Nat.reduceEqDiff, len22, len24, fa26_0, fa26_1, fa26_2, len27, len35, fa86_0, fa86_1, fa86_2, fa97_0, fa97_1, fa106_0, fa106_1, fa145_0, fa145_1, fa145_2, fa145_3, fa145_4, len192]
  refine zhb_ xs.length 0 (fun i f w' => i ≤ xs.length ∧ f 18 = .int .i64 (i : Int) ∧ ∃ S : List Bool, S.length = 4 ∧ (∀ t : Nat, t < 4 → ((atB S t = true ∨ Fsq (hdN B) (hdF B) (xs.drop i) t) ↔ Fsq (hdN B) (hdF B) xs t)) ∧
      (zxf_ B xs ↔ zxf_ B (xs.drop i)) ∧
      Apt w w' [bx b1 [ptrv b] 73, bx b4 [.bool false, .bool false, .bool false, .bool false] 71, bx b6 (S.map Value.bool) 71])
    ⟨Nat.zero_le _, rfl, List.replicate 4 false, rfl, (fun t ht => by rw [atB_rep]; simp), by simp, H⟩ ?_
  clear H
  rintro i f w6 N hag ⟨hi, f18, S, hS, hset, hnul, H⟩ hN
  have f2 : f 2 = ptrv b1 := hag 2 (by decide)
  have f4 : f 4 = ptrv b4 := hag 4 (by decide)
  have f6 : f 6 = ptrv b6 := hag 6 (by decide)
  have f16 : f 16 = .slice X xs.length c := hag 16 (by decide)
  have f17 : f 17 = .int .i64 xs.length := hag 17 (by decide)
  simp only [f2, f4, f6, f16, f17, f18, zq18, zq19, zq20, zq21, zq22, zq23, zq24, zq25, zq26, zq27, zq28, zq4, zq3, zq1, zq2, zq0, zq29, zq30, zq14, zq15, zq16, zq17, zq13, zq10, zq12, zq11, zq7, zq5, zq6, zq9, zq8, zq31, zq32, ite_T, ite_F, zq33, zq34, zq35, Nat.reduceEqDiff, len22, len24, fa26_0, fa26_1, fa26_2, len27, len35, fa86_0, fa86_1, fa86_2, fa97_0, fa97_1, fa106_0, fa106_1, fa145_0, fa145_1, fa145_2, fa145_3, fa145_4, len192]
  by_cases hlt : i < xs.length
  case neg =>
    simp only [show ¬ ((i : Int) < (xs.length : Int)) from by omega, decide_false, f4, f6, zq18, zq19, zq20, zq21, zq22, zq23, zq24, zq25, zq26, zq27, zq28, zq4, zq3, zq1, zq2, zq0, zq29, zq30, zq14, zq15, zq16, zq17, zq13, zq10, zq12, zq11, zq7, zq5, zq6, zq9, zq8, zq31, zq32, ite_T, ite_F, zq33, zq34, zq35, Nat.reduceEqDiff, len22, len24, fa26_0, fa26_1, fa26_2, len27, len35, fa86_0, fa86_1, fa86_2, fa97_0, fa97_1, fa106_0, fa106_1, fa145_0, fa145_1, fa145_2, fa145_3, fa145_4, len192]
    have e0 : xs.drop i = [] := List.drop_eq_nil_of_le (by omega)
    rw [e0] at hset hnul
    refine last w6 S true hS H (fun t ht => ?_) ?_
    · have := hset t ht
      constructor
      · exact fun h => ⟨hmade, this.1 (.inl h)⟩
      · exact fun h => (this.2 h.2).elim id fun h => h.elim
    · exact ⟨fun _ => ⟨hmade, hnul.2 fun x hx => by simp at hx⟩, fun _ => rfl⟩
  simp only [show ((i : Int) < (xs.length : Int)) from by omega, decide_true, zq18, zq19, zq20, zq21, zq22, zq23, zq24, zq25, zq26, zq27, zq28, zq4, zq3, zq1, zq2, zq0, zq29, zq30, zq14, zq15, zq16, zq17, zq13, zq10, zq12, zq11, zq7, zq5, zq6, zq9, zq8, zq31, zq32, ite_T, ite_F, zq33, zq34, zq35, Nat.reduceEqDiff, len22, len24, fa26_0, fa26_1, fa26_2, len27, len35, fa86_0, fa86_1, fa86_2, fa97_0, fa97_1, fa106_0, fa106_1, fa145_0, fa145_1, fa145_2, fa145_3, fa145_4, len192]
  have hXi := hX.gr H.gr
  have hle := hXi.le
  rw [zwb_ hXi.ptr hlt, ld3 (hXi.cell i hlt)]
  simp only [zq18, zq19, zq20, zq21, zq22, zq23, zq24, zq25, zq26, zq27, zq28, zq4, zq3, zq1, zq2, zq0, zq29, zq30, zq14, zq15, zq16, zq17, zq13, zq10, zq12, zq11, zq7, zq5, zq6, zq9, zq8, zq31, zq32, ite_T, ite_F, zq33, zq34, zq35, Nat.reduceEqDiff, len22, len24, fa26_0, fa26_1, fa26_2, len27, len35, fa86_0, fa86_1, fa86_2, fa97_0, fa97_1, fa106_0, fa106_1, fa145_0, fa145_1, fa145_2, fa145_3, fa145_4, len192]
  have hd : xs.drop i = xs.getD i 0 :: xs.drop (i + 1) := by
    rw [List.drop_eq_getElem_cons hlt, List.getD_eq_getElem?_getD, List.getElem?_eq_getElem hlt]
    rfl
  have hxm : xs.getD i 0 ∈ xs := zec_ hlt
  have hxb := hs _ hxm
  rw [hd] at hset hnul
  generalize hx : xs.getD i 0 = x at *
  by_cases hneg : x < 0
  · simp only [hneg, decide_true, zq18, zq19, zq20, zq21, zq22, zq23, zq24, zq25, zq26, zq27, zq28, zq4, zq3, zq1, zq2, zq0, zq29, zq30, zq14, zq15, zq16, zq17, zq13, zq10, zq12, zq11, zq7, zq5, zq6, zq9, zq8, zq31, zq32, ite_T, ite_F, zq33, zq34, zq35, Nat.reduceEqDiff, len22, len24, fa26_0, fa26_1, fa26_2, len27, len35, fa86_0, fa86_1, fa86_2, fa97_0, fa97_1, fa106_0, fa106_1, fa145_0, fa145_1, fa145_2, fa145_3, fa145_4, len192]
    refine zik_ ?_
    rw [zm_ (by omega) (by omega)]
    refine rdi (zrd_ (by omega) (by omega)) ?_
    rw [zq34, Nat.zero_add]
    have hn : (-1 - x).toNat < S.length := by omega
    refine zdb_ H 2 rfl sz4 rfl rfl (Nat.ble_eq_true_of_le (by simp; omega)) fun w7 H => ?_
    rw [zbc_ hn] at H
    simp only [List.set_cons_zero, List.set_cons_succ] at H
    simp only [resK_cell, f4, f6, zq18, zq19, zq20, zq21, zq22, zq23, zq24, zq25, zq26, zq27, zq28, zq4, zq3, zq1, zq2, zq0, zq29, zq30, zq14, zq15, zq16, zq17, zq13, zq10, zq12, zq11, zq7, zq5, zq6, zq9, zq8, zq31, zq32, ite_T, ite_F, zq33, zq34, zq35, Nat.reduceEqDiff, len22, len24, fa26_0, fa26_1, fa26_2, len27, len35, fa86_0, fa86_1, fa86_2, fa97_0, fa97_1, fa106_0, fa106_1, fa145_0, fa145_1, fa145_2, fa145_3, fa145_4, len192]
    refine last w7 _ false (by rw [List.length_set]; exact hS) H (fun t ht => ?_) ?_
    · rw [zxh_ hn]
      have := hset t ht
      constructor
      · intro h
        refine ⟨hmade, this.1 ?_⟩
        by_cases e : t = (-1 - x).toNat
        · exact .inr (.inl ⟨hneg, by omega⟩)
        · rw [if_neg e] at h
          exact .inl h
      · intro h
        rcases this.2 h.2 with h | ⟨_, h⟩ | ⟨h0, _⟩
        · split
          · rfl
          · exact h
        · rw [if_pos (by omega)]
        · exact absurd hneg h0
    · refine ⟨fun h => (by cases h), fun h => ?_⟩
      exact absurd hneg (hnul.1 h.2 x (List.mem_cons_self ..)).1
  simp only [hneg, decide_false, zq18, zq19, zq20, zq21, zq22, zq23, zq24, zq25, zq26, zq27, zq28, zq4, zq3, zq1, zq2, zq0, zq29, zq30, zq14, zq15, zq16, zq17, zq13, zq10, zq12, zq11, zq7, zq5, zq6, zq9, zq8, zq31, zq32, ite_T, ite_F, zq33, zq34, zq35, Nat.reduceEqDiff, len22, len24, fa26_0, fa26_1, fa26_2, len27, len35, fa86_0, fa86_1, fa86_2, fa97_0, fa97_1, fa106_0, fa106_1, fa145_0, fa145_1, fa145_2, fa145_3, fa145_4, len192]
  rw [ldB73 (H.box 0 rfl) rfl]
  simp only [zq18, zq19, zq20, zq21, zq22, zq23, zq24, zq25, zq26, zq27, zq28, zq4, zq3, zq1, zq2, zq0, zq29, zq30, zq14, zq15, zq16, zq17, zq13, zq10, zq12, zq11, zq7, zq5, zq6, zq9, zq8, zq31, zq32, ite_T, ite_F, zq33, zq34, zq35, Nat.reduceEqDiff, len22, len24, fa26_0, fa26_1, fa26_2, len27, len35, fa86_0, fa86_1, fa86_2, fa97_0, fa97_1, fa106_0, fa106_1, fa145_0, fa145_1, fa145_2, fa145_3, fa145_4, len192]
  refine rdi (zbe_ (by omega) hxb.2) ?_
  rw [zq34, Nat.zero_add]
  have hbx := hb.gr H.gr
  have hF0 : ((B.drop (12 + x.toNat * 4)).take 4).length = 4 := part_len (by omega)
  have hFa : ∀ j, j < 4 → atB ((B.drop (12 + x.toNat * 4)).take 4) j = atB B (12 + x.toNat * 4 + j) := fun j hj => atB_part hj
  rw [zjg_ agg71 sz71 (cs := ((B.drop (12 + x.toNat * 4)).take 4).map Value.bool) (by simpa using hF0) (fun j hj => by
    rw [zq34, hbx.cell, List.getElem?_map]
    have hj4 : j < 4 := by
      rw [List.length_map, hF0] at hj
      exact hj
    rw [List.getElem_map, List.getElem_take, List.getElem_drop, List.getElem?_eq_getElem (by omega)]
    rfl)]
  generalize hF : (B.drop (12 + x.toNat * 4)).take 4 = F0 at *
  have H0 := H
  refine zhb_ 4 0 (fun j q w' => j ≤ 4 ∧ q 34 = .int .i64 (j : Int) ∧ ∃ S2 : List Bool, S2.length = 4 ∧ (∀ t : Nat, t < 4 → (atB S2 t = true ↔ atB S t = true ∨ (t < j ∧ atB F0 t = true))) ∧
      Apt w w' [bx b1 [ptrv b] 73, bx b4 [.bool false, .bool false, .bool false, .bool false] 71, bx b6 (S2.map Value.bool) 71])
    ⟨by omega, rfl, S, hS, (fun t ht => by simp), H⟩ ?_
  clear H
  rintro j q w7 N2 hag2 ⟨hj, q34, S2, hS2, hset2, H⟩ hN2
  have q2 : q 2 = ptrv b1 := (hag2 2 (by decide)).trans f2
  have q4 : q 4 = ptrv b4 := (hag2 4 (by decide)).trans f4
  have q6 : q 6 = ptrv b6 := (hag2 6 (by decide)).trans f6
  have q8 : q 8 = .int .i64 x := hag2 8 (by decide)
  have q18 : q 18 = .int .i64 (i : Int) := (hag2 18 (by decide)).trans f18
  have q33 : q 33 = arrB F0 := hag2 33 (by decide)
  simp only [q2, q4, q6, q8, q18, q33, q34, zq18, zq19, zq20, zq21, zq22, zq23, zq24, zq25, zq26, zq27, zq28, zq4, zq3, zq1, zq2, zq0, zq29, zq30, zq14, zq15, zq16, zq17, zq13, zq10, zq12, zq11, zq7, zq5, zq6, zq9, zq8, zq31, zq32, ite_T, ite_F, zq33, zq34, zq35, Nat.reduceEqDiff, len22, len24, fa26_0, fa26_1, fa26_2, len27, len35, fa86_0, fa86_1, fa86_2, fa97_0, fa97_1, fa106_0, fa106_1, fa145_0, fa145_1, fa145_2, fa145_3, fa145_4, len192]
  by_cases hjl : j < 4
  case neg =>
    have e4 : j = 4 := by omega
    subst e4
    simp only [show ¬ (((4 : Nat) : Int) < 4) from by omega, decide_false, q2, q4, q6, q8, q18, zq18, zq19, zq20, zq21, zq22, zq23, zq24, zq25, zq26, zq27, zq28, zq4, zq3, zq1, zq2, zq0, zq29, zq30, zq14, zq15, zq16, zq17, zq13, zq10, zq12, zq11, zq7, zq5, zq6, zq9, zq8, zq31, zq32, ite_T, ite_F, zq33, zq34, zq35, Nat.reduceEqDiff, len22, len24, fa26_0, fa26_1, fa26_2, len27, len35, fa86_0, fa86_1, fa86_2, fa97_0, fa97_1, fa106_0, fa106_1, fa145_0, fa145_1, fa145_2, fa145_3, fa145_4, len192]
    rw [ldB73 (H.box 0 rfl) rfl]
    simp only [zq18, zq19, zq20, zq21, zq22, zq23, zq24, zq25, zq26, zq27, zq28, zq4, zq3, zq1, zq2, zq0, zq29, zq30, zq14, zq15, zq16, zq17, zq13, zq10, zq12, zq11, zq7, zq5, zq6, zq9, zq8, zq31, zq32, ite_T, ite_F, zq33, zq34, zq35, Nat.reduceEqDiff, len22, len24, fa26_0, fa26_1, fa26_2, len27, len35, fa86_0, fa86_1, fa86_2, fa97_0, fa97_1, fa106_0, fa106_1, fa145_0, fa145_1, fa145_2, fa145_3, fa145_4, len192]
    refine rdi (zvd_ (by omega) hxb.2) ?_
    rw [zq34, Nat.zero_add]
    rw [ldB4 (hb.gr H.gr) (zwd_ (by omega))]
    simp only [zq18, zq19, zq20, zq21, zq22, zq23, zq24, zq25, zq26, zq27, zq28, zq4, zq3, zq1, zq2, zq0, zq29, zq30, zq14, zq15, zq16, zq17, zq13, zq10, zq12, zq11, zq7, zq5, zq6, zq9, zq8, zq31, zq32, ite_T, ite_F, zq33, zq34, zq35, Nat.reduceEqDiff, len22, len24, fa26_0, fa26_1, fa26_2, len27, len35, fa86_0, fa86_1, fa86_2, fa97_0, fa97_1, fa106_0, fa106_1, fa145_0, fa145_1, fa145_2, fa145_3, fa145_4, len192]
    have hfx : ∀ t : Nat, t < 4 → (hdF B x.toNat t ↔ atB F0 t = true) := fun t ht => by
      rw [hFa t ht]
      unfold hdF
      rw [Int.toNat_natCast]
      constructor
      · exact fun h => h.2.2
      · exact fun h => ⟨by omega, by omega, h⟩
    cases hnull : atB B (6 + x.toNat)
    case false =>
      simp only [Bool.not_false, zq18, zq19, zq20, zq21, zq22, zq23, zq24, zq25, zq26, zq27, zq28, zq4, zq3, zq1, zq2, zq0, zq29, zq30, zq14, zq15, zq16, zq17, zq13, zq10, zq12, zq11, zq7, zq5, zq6, zq9, zq8, zq31, zq32, ite_T, ite_F, zq33, zq34, zq35, Nat.reduceEqDiff, len22, len24, fa26_0, fa26_1, fa26_2, len27, len35, fa86_0, fa86_1, fa86_2, fa97_0, fa97_1, fa106_0, fa106_1, fa145_0, fa145_1, fa145_2, fa145_3, fa145_4, len192]
      have hN0 : ¬ hdN B x.toNat := by
        unfold hdN
        rw [hnull]
        decide
      simp only [resK_cell, q4, q6, zq18, zq19, zq20, zq21, zq22, zq23, zq24, zq25, zq26, zq27, zq28, zq4, zq3, zq1, zq2, zq0, zq29, zq30, zq14, zq15, zq16, zq17, zq13, zq10, zq12, zq11, zq7, zq5, zq6, zq9, zq8, zq31, zq32, ite_T, ite_F, zq33, zq34, zq35, Nat.reduceEqDiff, len22, len24, fa26_0, fa26_1, fa26_2, len27, len35, fa86_0, fa86_1, fa86_2, fa97_0, fa97_1, fa106_0, fa106_1, fa145_0, fa145_1, fa145_2, fa145_3, fa145_4, len192]
      refine last w7 S2 false hS2 H (fun t ht => ?_) ?_
      · rw [hset2 t ht]
        have := hset t ht
        constructor
        · rintro (h | ⟨_, h⟩)
          · exact ⟨hmade, this.1 (.inl h)⟩
          · exact ⟨hmade, this.1 (.inr (.inr ⟨hneg, .inl ((hfx t ht).2 h)⟩))⟩
        · intro h
          rcases this.2 h.2 with h | ⟨h0, _⟩ | ⟨_, h | ⟨h, _⟩⟩
          · exact .inl h
          · exact absurd h0 hneg
          · exact .inr ⟨ht, (hfx t ht).1 h⟩
          · exact absurd h hN0
      · exact ⟨fun h => (by cases h), fun h => absurd (hnul.1 h.2 x (List.mem_cons_self ..)).2 hN0⟩
    simp only [Bool.not_true, q18, zq18, zq19, zq20, zq21, zq22, zq23, zq24, zq25, zq26, zq27, zq28, zq4, zq3, zq1, zq2, zq0, zq29, zq30, zq14, zq15, zq16, zq17, zq13, zq10, zq12, zq11, zq7, zq5, zq6, zq9, zq8, zq31, zq32, ite_T, ite_F, zq33, zq34, zq35, Nat.reduceEqDiff, len22, len24, fa26_0, fa26_1, fa26_2, len27, len35, fa86_0, fa86_1, fa86_2, fa97_0, fa97_1, fa106_0, fa106_1, fa145_0, fa145_1, fa145_2, fa145_3, fa145_4, len192]
    rw [zm_ (by omega) (by omega)]
    have hN1 : hdN B x.toNat := hnull
    refine hN _ _ hlt ⟨by omega, rfl, S2, hS2, fun t ht => ?_, ?_, H⟩
    · rw [← hset t ht, hset2 t ht]
      constructor
      · rintro ((h | ⟨_, h⟩) | h)
        · exact .inl h
        · exact .inr (.inr ⟨hneg, .inl ((hfx t ht).2 h)⟩)
        · exact .inr (.inr ⟨hneg, .inr ⟨hN1, h⟩⟩)
      · rintro (h | ⟨h0, _⟩ | ⟨_, h | ⟨_, h⟩⟩)
        · exact .inl (.inl h)
        · exact absurd h0 hneg
        · exact .inl (.inr ⟨ht, (hfx t ht).1 h⟩)
        · exact .inr h
    · rw [hnul]
      constructor
      · exact fun h y hy => h y (List.mem_cons_of_mem _ hy)
      · intro h y hy
        rcases List.mem_cons.1 hy with rfl | hy
        · exact ⟨hneg, hN1⟩
        · exact h y hy
  simp only [show ((j : Int) < 4) from by omega, decide_true, zq18, zq19, zq20, zq21, zq22, zq23, zq24, zq25, zq26, zq27, zq28, zq4, zq3, zq1, zq2, zq0, zq29, zq30, zq14, zq15, zq16, zq17, zq13, zq10, zq12, zq11, zq7, zq5, zq6, zq9, zq8, zq31, zq32, ite_T, ite_F, zq33, zq34, zq35, Nat.reduceEqDiff, len22, len24, fa26_0, fa26_1, fa26_2, len27, len35, fa86_0, fa86_1, fa86_2, fa97_0, fa97_1, fa106_0, fa106_1, fa145_0, fa145_1, fa145_2, fa145_3, fa145_4, len192]
  rw [zdh_ hF0 hjl]
  refine rdi (zrd_ (by omega) (by omega)) ?_
  rw [zq34, Nat.zero_add, Int.toNat_natCast]
  have hn : j < S2.length := by omega
  rw [ldB4 (H.box 2 rfl) (zwd_ hn)]
  have fin : ∀ v : Bool, (v = true ↔ atB S2 j = true ∨ atB F0 j = true) → ∀ w8, Apt w w8 [bx b1 [ptrv b] 73, bx b4 [.bool false, .bool false, .bool false, .bool false] 71, bx b6 ((S2.set j v).map Value.bool) 71] →
      ∃ S3 : List Bool, S3.length = 4 ∧ (∀ t : Nat, t < 4 → (atB S3 t = true ↔ atB S t = true ∨ (t < j + 1 ∧ atB F0 t = true))) ∧ Apt w w8 [bx b1 [ptrv b] 73, bx b4 [.bool false, .bool false, .bool false, .bool false] 71, bx b6 (S3.map Value.bool) 71] := fun v hv w8 H => by
    refine ⟨_, by rw [List.length_set]; exact hS2, fun t ht => ?_, H⟩
    rw [zxh_ hn]
    by_cases e : t = j
    · subst e
      rw [if_pos rfl, hv, hset2 t ht]
      constructor
      · rintro ((h | h) | h)
        · exact .inl h
        · omega
        · exact .inr ⟨by omega, h⟩
      · rintro (h | h)
        · exact .inl (.inl h)
        · exact .inr h.2
    · rw [if_neg e, hset2 t ht]
      constructor
      · rintro (h | h)
        · exact .inl h
        · exact .inr ⟨by omega, h.2⟩
      · rintro (h | h)
        · exact .inl h
        · exact .inr ⟨by omega, h.2⟩
  cases h1 : atB S2 j
  · cases h2 : atB F0 j
    · simp only [zq18, zq19, zq20, zq21, zq22, zq23, zq24, zq25, zq26, zq27, zq28, zq4, zq3, zq1, zq2, zq0, zq29, zq30, zq14, zq15, zq16, zq17, zq13, zq10, zq12, zq11, zq7, zq5, zq6, zq9, zq8, zq31, zq32, ite_T, ite_F, zq33, zq34, zq35, Nat.reduceEqDiff, len22, len24, fa26_0, fa26_1, fa26_2, len27, len35, fa86_0, fa86_1, fa86_2, fa97_0, fa97_1, fa106_0, fa106_1, fa145_0, fa145_1, fa145_2, fa145_3, fa145_4, len192]
      refine rdi (zrd_ (by omega) (by omega)) ?_
      rw [zq34, Nat.zero_add, Int.toNat_natCast]
      refine zdb_ H 2 rfl sz4 rfl rfl (Nat.ble_eq_true_of_le (by simp; omega)) fun w8 H => ?_
      rw [zbc_ hn] at H
      simp only [List.set_cons_zero, List.set_cons_succ, zq18, zq19, zq20, zq21, zq22, zq23, zq24, zq25, zq26, zq27, zq28, zq4, zq3, zq1, zq2, zq0, zq29, zq30, zq14, zq15, zq16, zq17, zq13, zq10, zq12, zq11, zq7, zq5, zq6, zq9, zq8, zq31, zq32, ite_T, ite_F, zq33, zq34, zq35, Nat.reduceEqDiff, len22, len24, fa26_0, fa26_1, fa26_2, len27, len35, fa86_0, fa86_1, fa86_2, fa97_0, fa97_1, fa106_0, fa106_1, fa145_0, fa145_1, fa145_2, fa145_3, fa145_4, len192] at H ⊢
      rw [zm_ (by omega) (by omega)]
      exact hN2 _ _ hjl ⟨by omega, rfl, fin false (by rw [h1, h2]; decide) w8 H⟩
    · simp only [zq18, zq19, zq20, zq21, zq22, zq23, zq24, zq25, zq26, zq27, zq28, zq4, zq3, zq1, zq2, zq0, zq29, zq30, zq14, zq15, zq16, zq17, zq13, zq10, zq12, zq11, zq7, zq5, zq6, zq9, zq8, zq31, zq32, ite_T, ite_F, zq33, zq34, zq35, Nat.reduceEqDiff, len22, len24, fa26_0, fa26_1, fa26_2, len27, len35, fa86_0, fa86_1, fa86_2, fa97_0, fa97_1, fa106_0, fa106_1, fa145_0, fa145_1, fa145_2, fa145_3, fa145_4, len192]
      refine rdi (zrd_ (by omega) (by omega)) ?_
      rw [zq34, Nat.zero_add, Int.toNat_natCast]
      refine zdb_ H 2 rfl sz4 rfl rfl (Nat.ble_eq_true_of_le (by simp; omega)) fun w8 H => ?_
      rw [zbc_ hn] at H
      simp only [List.set_cons_zero, List.set_cons_succ, zq18, zq19, zq20, zq21, zq22, zq23, zq24, zq25, zq26, zq27, zq28, zq4, zq3, zq1, zq2, zq0, zq29, zq30, zq14, zq15, zq16, zq17, zq13, zq10, zq12, zq11, zq7, zq5, zq6, zq9, zq8, zq31, zq32, ite_T, ite_F, zq33, zq34, zq35, Nat.reduceEqDiff, len22, len24, fa26_0, fa26_1, fa26_2, len27, len35, fa86_0, fa86_1, fa86_2, fa97_0, fa97_1, fa106_0, fa106_1, fa145_0, fa145_1, fa145_2, fa145_3, fa145_4, len192] at H ⊢
      rw [zm_ (by omega) (by omega)]
      exact hN2 _ _ hjl ⟨by omega, rfl, fin true (by rw [h1, h2]; decide) w8 H⟩
  · simp only [zq18, zq19, zq20, zq21, zq22, zq23, zq24, zq25, zq26, zq27, zq28, zq4, zq3, zq1, zq2, zq0, zq29, zq30, zq14, zq15, zq16, zq17, zq13, zq10, zq12, zq11, zq7, zq5, zq6, zq9, zq8, zq31, zq32, ite_T, ite_F, zq33, zq34, zq35, Nat.reduceEqDiff, len22, len24, fa26_0, fa26_1, fa26_2, len27, len35, fa86_0, fa86_1, fa86_2, fa97_0, fa97_1, fa106_0, fa106_1, fa145_0, fa145_1, fa145_2, fa145_3, fa145_4, len192]
    refine rdi (zrd_ (by omega) (by omega)) ?_
    rw [zq34, Nat.zero_add, Int.toNat_natCast]
    refine zdb_ H 2 rfl sz4 rfl rfl (Nat.ble_eq_true_of_le (by simp; omega)) fun w8 H => ?_
    rw [zbc_ hn] at H
    simp only [List.set_cons_zero, List.set_cons_succ, zq18, zq19, zq20, zq21, zq22, zq23, zq24, zq25, zq26, zq27, zq28, zq4, zq3, zq1, zq2, zq0, zq29, zq30, zq14, zq15, zq16, zq17, zq13, zq10, zq12, zq11, zq7, zq5, zq6, zq9, zq8, zq31, zq32, ite_T, ite_F, zq33, zq34, zq35, Nat.reduceEqDiff, len22, len24, fa26_0, fa26_1, fa26_2, len27, len35, fa86_0, fa86_1, fa86_2, fa97_0, fa97_1, fa106_0, fa106_1, fa145_0, fa145_1, fa145_2, fa145_3, fa145_4, len192] at H ⊢
    rw [zm_ (by omega) (by omega)]
    exact hN2 _ _ hjl ⟨by omega, rfl, fin true (by rw [h1]; simp) w8 H⟩
end
end Go.Proofs.Yteabbgaffgpegaa

namespace Go.Sh
open Go
def leB (B C : List Bool) : Prop := B.length = C.length ∧ ∀ n, atB B n = true → atB C n = true
theorem leB.refl (B : List Bool) : leB B B := ⟨rfl, fun _ h => h⟩
theorem leB.trans {B C D : List Bool} (h : leB B C) (g : leB C D) : leB B D := ⟨h.1.trans g.1, fun n hn => g.2 n (h.2 n hn)⟩
theorem zpi_ : ∀ {B C : List Bool}, leB B C → B = C ∨ B.count true < C.count true
  | [], [], _ => .inl rfl
  | [], c :: C, h => by cases h.1
  | b :: B, [], h => by cases h.1
  | b :: B, c :: C, h => by
    have h0 := h.2 0
    have ih := zpi_ (B := B) (C := C) ⟨by have := h.1; simpa using this, fun n hn => by have := h.2 (n + 1); simpa [atB] using this (by simpa [atB] using hn)⟩
    simp only [atB, List.getD_cons_zero] at h0
    cases b
    · cases c
      · rcases ih with rfl | ih
        · exact .inl rfl
        · exact .inr (by simpa using ih)
      · rcases ih with rfl | ih
        · exact .inr (by simp)
        · exact .inr (by simp; omega)
    · obtain rfl := h0 rfl
      rcases ih with rfl | ih
      · exact .inl rfl
      · exact .inr (by simpa using ih)
structure OrB (B2 : List Bool) (o : Nat) (S : List Bool) (j : Nat) (B3 : List Bool) : Prop where
  len : B3.length = B2.length
  cell : ∀ n, atB B3 n = true ↔ atB B2 n = true ∨ ∃ t, t < j ∧ n = o + t ∧ atB S t = true
theorem OrB.zero (B2 : List Bool) (o : Nat) (S : List Bool) : OrB B2 o S 0 B2 := ⟨rfl, fun n => ⟨.inl, fun h => h.elim id fun ⟨t, h, _⟩ => by omega⟩⟩
theorem OrB.step {B2 B3 S : List Bool} {o j : Nat} {v : Bool} (h : OrB B2 o S j B3) (hn : o + j < B3.length) (hv : v = true ↔ atB B3 (o + j) = true ∨ atB S j = true) : OrB B2 o S (j + 1) (B3.set (o + j) v) := by
  refine ⟨by rw [List.length_set]; exact h.len, fun n => ?_⟩
  rw [zxh_ hn]
  by_cases e : n = o + j
  · subst e
    rw [if_pos rfl, hv, h.cell]
    constructor
    · rintro ((h | ⟨t, h1, h2, h3⟩) | h)
      · exact .inl h
      · omega
      · exact .inr ⟨j, by omega, rfl, h⟩
    · rintro (h | ⟨t, h1, h2, h3⟩)
      · exact .inl (.inl h)
      · obtain rfl : t = j := by omega
        exact .inr h3
  · rw [if_neg e, h.cell]
    constructor
    · rintro (h | ⟨t, h1, h2, h3⟩)
      · exact .inl h
      · exact .inr ⟨t, by omega, h2, h3⟩
    · rintro (h | ⟨t, h1, h2, h3⟩)
      · exact .inl h
      · by_cases ht : t = j
        · subst ht
          exact absurd h2 e
        · exact .inr ⟨t, by omega, h2, h3⟩
theorem OrB.le {B2 B3 S : List Bool} {o j : Nat} (h : OrB B2 o S j B3) : leB B2 B3 := ⟨h.len.symm, fun n hn => (h.cell n).2 (.inl hn)⟩
structure FolC (rs : List RuleL) (W : Nat → Int → Prop) (L : Nat → Prop) : Prop where
  zero : L 0
  fst : ∀ r ∈ rs, ∀ i x rest, r.2.drop i = x :: rest → ¬ x < 0 → Made rs rest → ∀ t, Fst rs (.inr rest) t → W x.toNat t
  fol : ∀ r ∈ rs, ∀ i x rest, r.2.drop i = x :: rest → ¬ x < 0 → Nulls rs rest → ∀ t, W r.1.toNat t → W x.toNat t
  last : ∀ r ∈ rs, ∀ i x rest, r.2.drop i = x :: rest → ¬ x < 0 → Nulls rs rest → L r.1.toNat → L x.toNat
structure HdK (rs : List RuleL) (B : List Bool) : Prop where
  len : B.length = 66
  pr : ∀ A, A < 6 → (hdP B A ↔ Clo rs true A)
  nu : ∀ A, A < 6 → (hdN B A ↔ Clo rs false A)
structure HdF (rs : List RuleL) (B : List Bool) : Prop extends HdK rs B where
  fi : ∀ A, A < 6 → ∀ t, (hdF B A t ↔ Fst rs (.inl A) t)
structure HdA (rs : List RuleL) (B : List Bool) : Prop extends HdF rs B where
  fol : FolC rs (fun A t => A < 6 ∧ hdW B A t) (fun A => A < 6 ∧ hdL B A)
  least : ∀ W L, FolC rs W L → (∀ A, A < 6 → ∀ t, hdW B A t → W A t) ∧ ∀ A, A < 6 → hdL B A → L A
section
variable {rs : List RuleL} {B C : List Bool}
theorem HdK.made (h : HdK rs B) {xs : List Int} (hx : ∀ x ∈ xs, x < 6) : zae_ B xs ↔ Made rs xs := by
  constructor
  · exact fun g x hm h0 => (h.pr _ (by have := hx x hm; omega)).1 (g x hm h0)
  · exact fun g x hm h0 => (h.pr _ (by have := hx x hm; omega)).2 (g x hm h0)
theorem HdK.nulls (h : HdK rs B) {xs : List Int} (hx : ∀ x ∈ xs, x < 6) : zxf_ B xs ↔ Nulls rs xs := by
  constructor
  · exact fun g x hm => ⟨(g x hm).1, (h.nu _ (by have := hx x hm; omega)).1 (g x hm).2⟩
  · exact fun g x hm => ⟨(g x hm).1, (h.nu _ (by have := hx x hm; omega)).2 (g x hm).2⟩
theorem zkh_ {N M : Nat → Prop} {F G : Nat → Int → Prop} (hN : ∀ A, A < 6 → N A → M A) (hF : ∀ A, A < 6 → ∀ t, F A t → G A t) : ∀ {xs : List Int} {t : Int}, (∀ x ∈ xs, x < 6) → Fsq N F xs t → Fsq M G xs t
  | [], _, _, h => h
  | x :: xs, t, hx, h => by
    have h6 := hx x (List.mem_cons_self ..)
    rcases h with h | ⟨h0, h | ⟨hn, h⟩⟩
    · exact .inl h
    · exact .inr ⟨h0, .inl (hF _ (by omega) _ h)⟩
    · exact .inr ⟨h0, .inr ⟨hN _ (by omega) hn, zkh_ hN hF (fun y hy => hx y (List.mem_cons_of_mem _ hy)) h⟩⟩
theorem HdF.seq (h : HdF rs B) {xs : List Int} (hx : ∀ x ∈ xs, x < 6) {t : Int} : Fsq (hdN B) (hdF B) xs t ↔ Fst rs (.inr xs) t := by
  rw [fst_seq]
  exact ⟨zkh_ (fun A hA => (h.nu A hA).1) (fun A hA t => (h.fi A hA t).1) hx, zkh_ (fun A hA => (h.nu A hA).2) (fun A hA t => (h.fi A hA t).2) hx⟩
theorem HdK.up (h : HdK rs B) {o : Nat} {S : List Bool} {j : Nat} (g : OrB B o S j C) (ho : 12 ≤ o) : HdK rs C := by
  have key : ∀ n, n < 12 → (atB C n = true ↔ atB B n = true) := fun n hn => by
    rw [g.cell]
    exact ⟨fun h => h.elim id fun ⟨t, _, e, _⟩ => by omega, .inl⟩
  refine ⟨g.len.trans h.len, fun A hA => ?_, fun A hA => ?_⟩
  · exact (key A (by omega)).trans (h.pr A hA)
  · exact (key (6 + A) (by omega)).trans (h.nu A hA)
theorem HdF.up (h : HdF rs B) {o : Nat} {S : List Bool} {j : Nat} (g : OrB B o S j C) (ho : 36 ≤ o) : HdF rs C := by
  refine ⟨h.toHdK.up g (by omega), fun A hA t => ?_⟩
  rw [← h.fi A hA t]
  unfold hdF
  constructor
  · rintro ⟨h1, h2, h3⟩
    refine ⟨h1, h2, ?_⟩
    rcases (g.cell _).1 h3 with h | ⟨u, _, e, _⟩
    · exact h
    · omega
  · rintro ⟨h1, h2, h3⟩
    exact ⟨h1, h2, (g.cell _).2 (.inl h3)⟩
end
end Go.Sh
