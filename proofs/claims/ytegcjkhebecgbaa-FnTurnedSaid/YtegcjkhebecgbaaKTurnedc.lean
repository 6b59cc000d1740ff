/- Texts of this repository put together: ShP1, Be, ShQ1, ShQ2, Bf, ShS1, ShQ3, ShQ4, ShQ5, ShQ6, ShQ7, ShQ8, ShS2, ShS3, ShS4, ShC3, ShC5, ShT1, ShQ9, Bg, ShU1, ShG7, ShZ8, Cb, Ce, ShE1, ShE2, ShE4, ShE5, Cc, ShF1, ShU2, ShH6, Bm, ShJ0, ShU4, ShU5, ShU6, ShY1, ShX1. -/
import Derived.Test.YtegcjkhebecgbaaKTurnedb
import Derived.Test.YtegcjkhebecgbaaProg
import Derived.Test.YtegcjkhebecgbaaKTurneda

set_option linter.unusedVariables false
set_option linter.unusedSimpArgs false
namespace Go.Sh
abbrev Tab := Nat → Nat → Nat → Bool
def Tab.put (T : Tab) (x i j : Nat) : Tab := fun a b c => if a = x ∧ b = i ∧ c = j then true else T a b c
def symT (T : Tab) (w : List Int) (x : Int) (i j : Nat) : Bool := if x < 0 then decide (j = i + 1) && decide (w.getD i 0 = -1 - x) else T x.toNat i j
def zwc_ (T : Tab) (w : List Int) : List Int → Nat → Nat → Bool
  | [], i, j => decide (i = j)
  | x :: xs, i, j => (List.range' i (j + 1 - i)).any fun m => symT T w x i m && zwc_ T w xs m j
theorem zgk_ {T : Tab} {w : List Int} {x : Int} {xs : List Int} {i j : Nat} (hx : x < 0) : zwc_ T w (x :: xs) i j = (decide (i < j) && (decide (w.getD i 0 = -1 - x) && zwc_ T w xs (i + 1) j)) := by
  rw [Bool.eq_iff_iff]
  simp only [zwc_, symT, hx, if_true, List.any_eq_true, List.mem_range'_1, Bool.and_eq_true, decide_eq_true_eq]
  constructor
  · rintro ⟨m, ⟨h1, h2⟩, ⟨rfl, h4⟩, h5⟩
    exact ⟨by omega, h4, h5⟩
  · rintro ⟨h1, h2, h3⟩
    exact ⟨i + 1, ⟨by omega, by omega⟩, ⟨rfl, h2⟩, h3⟩
theorem zhk_ {T : Tab} {w : List Int} {x : Int} {xs : List Int} {i j : Nat} (hx : ¬ x < 0) : zwc_ T w (x :: xs) i j = (List.range' i (j + 1 - i)).any fun m => T x.toNat i m && zwc_ T w xs m j := by
  simp only [zwc_, symT, hx, if_false]
theorem any_upto {p : Nat → Bool} {i j : Nat} (h : ∀ m, i ≤ m → m ≤ j → p m = false) : (List.range' i (j + 1 - i)).any p = false := by
  rw [List.any_eq_false]
  intro m hm
  rw [List.mem_range'_1] at hm
  rw [h m hm.1 (by omega)]
  decide
theorem any_at {p : Nat → Bool} {i j m : Nat} (h1 : i ≤ m) (h2 : m ≤ j) (h : p m = true) : (List.range' i (j + 1 - i)).any p = true := by
  rw [List.any_eq_true]
  exact ⟨m, List.mem_range'_1.2 ⟨h1, by omega⟩, h⟩

abbrev TS := Tab × Bool
def stepT (w : List Int) (r : Int × List Int) (i : Nat) (s : TS) (j : Nat) : TS := if !s.1 r.1.toNat i j && zwc_ s.1 w r.2 i j then (s.1.put r.1.toNat i j, true) else s
def rowT (w : List Int) (r : Int × List Int) (s : TS) (i : Nat) : TS := (List.range' i (w.length + 1 - i)).foldl (stepT w r i) s
def ruleT (w : List Int) (s : TS) (r : Int × List Int) : TS := (List.range (w.length + 1)).foldl (rowT w r) s
def zef_ (rs : List (Int × List Int)) (w : List Int) (s : TS) : TS := rs.foldl (ruleT w) s
def cellT (T : Tab) (p : Nat) : Bool := T (p / 121) (p / 11 % 11) (p % 11)
def openT (T : Tab) : Nat := (List.range 726).countP fun p => !cellT T p
theorem count_le {α : Type} {p q : α → Bool} {l : List α} (h : ∀ a ∈ l, p a = true → q a = true) : l.countP p ≤ l.countP q := List.countP_mono_left h
theorem count_lt {α : Type} {p q : α → Bool} {l : List α} (h : ∀ a ∈ l, p a = true → q a = true) {b : α} (hb : b ∈ l) (hq : q b = true) (hp : p b = false) : l.countP p < l.countP q := by
  induction l with
  | nil => cases hb
  | cons a l ih =>
    have ht : ∀ a ∈ l, p a = true → q a = true := fun x hx => h x (List.mem_cons_of_mem _ hx)
    rw [List.countP_cons, List.countP_cons]
    rcases List.mem_cons.1 hb with rfl | hb
    · have := count_le ht
      rw [hp, hq]
      simp
      omega
    · have := ih ht hb
      have ha := h a (List.mem_cons_self ..)
      by_cases hpa : p a = true
      · rw [if_pos hpa, if_pos (ha hpa)]
        omega
      · rw [if_neg hpa]
        split <;> omega
theorem open_put {T : Tab} {x i j : Nat} (hx : x < 6) (hi : i < 11) (hj : j < 11) (h : T x i j = false) : openT (T.put x i j) < openT T := by
  unfold openT
  refine count_lt (b := x * 121 + i * 11 + j) (fun p hp hh => ?_) (List.mem_range.2 (by omega)) ?_ ?_
  · simp only [cellT, Tab.put, Bool.not_eq_true'] at hh ⊢
    split at hh
    · cases hh
    · exact hh
  · have e1 : (x * 121 + i * 11 + j) / 121 = x := by omega
    have e2 : (x * 121 + i * 11 + j) / 11 % 11 = i := by omega
    have e3 : (x * 121 + i * 11 + j) % 11 = j := by omega
    simp [cellT, e1, e2, e3, h]
  · have e1 : (x * 121 + i * 11 + j) / 121 = x := by omega
    have e2 : (x * 121 + i * 11 + j) / 11 % 11 = i := by omega
    have e3 : (x * 121 + i * 11 + j) % 11 = j := by omega
    simp [cellT, Tab.put, e1, e2, e3]
def Inc (s s' : TS) : Prop := s' = s ∨ (s'.2 = true ∧ openT s'.1 < openT s.1)
theorem Inc.refl (s : TS) : Inc s s := .inl rfl
theorem Inc.trans {a b c : TS} (h : Inc a b) (g : Inc b c) : Inc a c := by
  rcases h with rfl | ⟨h1, h2⟩
  · exact g
  · rcases g with rfl | ⟨g1, g2⟩
    · exact .inr ⟨h1, h2⟩
    · exact .inr ⟨g1, by omega⟩
theorem Inc.fold {α : Type} {f : TS → α → TS} {l : List α} (h : ∀ a ∈ l, ∀ s, Inc s (f s a)) : ∀ s, Inc s (l.foldl f s) := by
  induction l with
  | nil => exact fun s => Inc.refl s
  | cons a l ih =>
    intro s
    exact (h a (List.mem_cons_self ..) s).trans (ih (fun b hb => h b (List.mem_cons_of_mem _ hb)) _)
theorem zkp_ {w : List Int} {r : Int × List Int} {i j : Nat} {s : TS} (hr : r.1.toNat < 6) (hi : i < 11) (hj : j < 11) : Inc s (stepT w r i s j) := by
  unfold stepT
  split
  · rename_i h
    simp only [Bool.and_eq_true, Bool.not_eq_true'] at h
    exact .inr ⟨rfl, open_put hr hi hj h.1⟩
  · exact .inl rfl
theorem rowT_inc {w : List Int} {r : Int × List Int} {i : Nat} (hr : r.1.toNat < 6) (hw : w.length ≤ 10) (hi : i < 11) (s : TS) : Inc s (rowT w r s i) :=
  Inc.fold (fun j hj s => by
    rw [List.mem_range'_1] at hj
    exact zkp_ hr hi (by omega)) s
theorem zmp_ {w : List Int} {r : Int × List Int} (hr : r.1.toNat < 6) (hw : w.length ≤ 10) (s : TS) : Inc s (ruleT w s r) :=
  Inc.fold (fun i hi s => rowT_inc hr hw (by have := List.mem_range.1 hi; omega) s) s
theorem zrg_ {rs : List (Int × List Int)} {w : List Int} (hr : ∀ r ∈ rs, r.1.toNat < 6) (hw : w.length ≤ 10) (s : TS) : Inc s (zef_ rs w s) :=
  Inc.fold (fun r h s => zmp_ (hr r h) hw s) s
inductive Span (rs : List (Int × List Int)) (w : List Int) : Tab → Tab → Prop
  | done {T : Tab} : (zef_ rs w (T, false)).2 = false → Span rs w T (zef_ rs w (T, false)).1
  | more {T U : Tab} : (zef_ rs w (T, false)).2 = true → Span rs w (zef_ rs w (T, false)).1 U → Span rs w T U
theorem Span.det {rs : List (Int × List Int)} {w : List Int} {T U V : Tab} (h : Span rs w T U) (g : Span rs w T V) : U = V := by
  induction h with
  | done h1 =>
    cases g with
    | done g1 => rfl
    | more g1 g2 => rw [h1] at g1; cases g1
  | more h1 h2 ih =>
    cases g with
    | done g1 => rw [h1] at g1; cases g1
    | more g1 g2 => exact ih g2
theorem Span.ex {rs : List (Int × List Int)} {w : List Int} (hr : ∀ r ∈ rs, r.1.toNat < 6) (hw : w.length ≤ 10) : ∀ (n : Nat) (T : Tab), openT T ≤ n → ∃ U, Span rs w T U := by
  intro n
  induction n with
  | zero =>
    intro T hT
    rcases zrg_ hr hw (T, false) with h | ⟨_, h⟩
    · exact ⟨_, .done (by rw [h])⟩
    · exact absurd h (by simp at hT ⊢; omega)
  | succ n ih =>
    intro T hT
    rcases zrg_ hr hw (T, false) with h | ⟨h1, h2⟩
    · exact ⟨_, .done (by rw [h])⟩
    · obtain ⟨U, hU⟩ := ih (zef_ rs w (T, false)).1 (by simp at h2; omega)
      exact ⟨U, .more h1 hU⟩
def noTab : Tab := fun _ _ _ => false
open Classical in
noncomputable def spanT (rs : List (Int × List Int)) (w : List Int) : Tab := if h : ∃ U, Span rs w noTab U then Classical.choose h else noTab
theorem Span.eq {rs : List (Int × List Int)} {w : List Int} {U : Tab} (h : Span rs w noTab U) : U = spanT rs w := by
  have hx : ∃ U, Span rs w noTab U := ⟨U, h⟩
  unfold spanT
  rw [dif_pos hx]
  exact h.det (Classical.choose_spec hx)
noncomputable def inL (rs : List (Int × List Int)) (w : List Int) : Bool := spanT rs w 0 0 w.length
end Go.Sh

set_option maxRecDepth 100000
namespace Go.Proofs.Ytegcjkhebecgbaa
open Go Go.Sh

def pl254 : Plans := fun _ => ⟨false, [], .nil⟩
def S254 (v0 : Value) (k : Value → World → Prop) (w : World) : Prop :=
 Rd Try.prog (WS.at w) (sBin .sub 3 true (.int .i64 (-1)) v0) fun t1 =>
 k t1 w
theorem body254 : Try.f254.body = some (zg_ Try.f254) := by kernel_rfl
theorem same254 (v0 : Value) (k : Value → World → Prop) (w : World) : wpF Try.prog pl254 (zg_ Try.f254) (zr_ Try.prog Try.f254.results.toList k) (zp_ [v0]) w = S254 v0 k w := by kernel_rfl
theorem enter254 {v0 : Value} {k : Value → World → Prop} {w : World} (h : S254 v0 k w) : CallK Try.prog 254 [v0] k w :=
  call_of_wpF (pl := pl254) mixed Try.func254 body254 (by kernel_rfl) (of_decide_eq_true (by kernel_rfl)) (by kernel_rfl) (by kernel_rfl) (Eq.mpr (same254 v0 k w) h)

end Go.Proofs.Ytegcjkhebecgbaa

namespace Go.Sh
open Go
end Go.Sh
namespace Go.Proofs.Ytegcjkhebecgbaa
open Go Go.Sh Go.RowKit

end Go.Proofs.Ytegcjkhebecgbaa

namespace Go.Sh
open Go
theorem zed_ {g : Gram} (hg : zv_ g = true) : 1 ≤ g.nons ∧ g.nons ≤ 6 := by
  simp only [zv_, inB, Bool.and_eq_true, decide_eq_true_eq] at hg
  exact hg.1.1.1
theorem zve_ {g : Gram} (hg : zv_ g = true) : 1 ≤ g.toks ∧ g.toks ≤ 4 := by
  simp only [zv_, inB, Bool.and_eq_true, decide_eq_true_eq] at hg
  exact hg.1.1.2
def isT (gm : Gram) (tree : List Int) : Bool := decide (0 < tree.length) && decide (endT gm.rules tree tree.length 0 0 = some tree.length)
def ztg_ (gm : Gram) (tree : List Int) : Bool := zv_ gm && decide (tree.length ≤ 60) && isT gm tree
end Go.Sh
namespace Go.Proofs.Ytegcjkhebecgbaa
open Go Go.Sh Go.RowKit

open Go Go.Sh

def pl150 : Plans := fun _ => ⟨false, [], .nil⟩
def S150 (v0 v1 : Value) (k : Value → World → Prop) (w : World) : Prop :=
 Do Try.prog (sBox 3 v0) (fun t1 w2 =>
 Rd Try.prog (WS.at w2) (ze_ .len #[27] 3 [false] [v1]) fun t3 =>
 Rd Try.prog (WS.at w2) (sBin .leq 3 true t3 (.int .i64 10)) fun t4 =>
 zb_ t4 true (fun k w' => k v1 w') (fun t5 w6 =>
 zb_ t4 true (fun k w' => Rd Try.prog (WS.at w6) (zxf_ (.func 251) [] [t1]) fun v => k v w') (fun t7 w8 =>
 zb_ t4 true (fun k w' => CallK Try.prog 250 [t5, t7] k w') (fun t9 w10 =>
 zb_ t4 true (fun k w' => Rd Try.prog (WS.at w10) (sUn .not t9) fun v => k v w') (fun t11 w12 =>
 Rd Try.prog (WS.at w12) (zeb_ t4 t11 (.bool false)) fun t13 =>
 k t13 w12) w10) w8) w6) w2) w
theorem body150 : Try.f150.body = some (zg_ Try.f150) := by kernel_rfl
theorem same150 (v0 v1 : Value) (k : Value → World → Prop) (w : World) : wpF Try.prog pl150 (zg_ Try.f150) (zr_ Try.prog Try.f150.results.toList k) (zp_ [v0, v1]) w = S150 v0 v1 k w := by kernel_rfl
theorem enter150 {v0 v1 : Value} {k : Value → World → Prop} {w : World} (h : S150 v0 v1 k w) : CallK Try.prog 150 [v0, v1] k w :=
  call_of_wpF (pl := pl150) mixed Try.func150 body150 (by kernel_rfl) (of_decide_eq_true (by kernel_rfl)) (by kernel_rfl) (by kernel_rfl) (Eq.mpr (same150 v0 v1 k w) h)

def pl128 : Plans := fun _ => ⟨false, [], .nil⟩
def S128 (v0 v1 : Value) (k : Value → World → Prop) (w : World) : Prop :=
 Do Try.prog (sBox 26 v0) (fun t1 w2 =>
 Rd Try.prog (WS.at w2) (zc_ 26 t1) fun t3 =>
 CallK Try.prog 127 [t3] (fun t4 w5 =>
 zb_ t4 true (fun k w' => Rd Try.prog (WS.at w5) (zc_ 26 t1) fun v => k v w') (fun t6 w7 =>
 zb_ t4 true (fun k w' => k v1 w') (fun t8 w9 =>
 zb_ t4 true (fun k w' => CallK Try.prog 240 [t6, t8] k w') (fun t10 w11 =>
 Rd Try.prog (WS.at w11) (zeb_ t4 t10 (.bool false)) fun t12 =>
 k t12 w11) w9) w7) w5) w2) w
theorem body128 : Try.f128.body = some (zg_ Try.f128) := by kernel_rfl
theorem same128 (v0 v1 : Value) (k : Value → World → Prop) (w : World) : wpF Try.prog pl128 (zg_ Try.f128) (zr_ Try.prog Try.f128.results.toList k) (zp_ [v0, v1]) w = S128 v0 v1 k w := by kernel_rfl
theorem enter128 {v0 v1 : Value} {k : Value → World → Prop} {w : World} (h : S128 v0 v1 k w) : CallK Try.prog 128 [v0, v1] k w :=
  call_of_wpF (pl := pl128) mixed Try.func128 body128 (by kernel_rfl) (of_decide_eq_true (by kernel_rfl)) (by kernel_rfl) (by kernel_rfl) (Eq.mpr (same128 v0 v1 k w) h)

def pl153 : Plans := fun _ => ⟨false, [], .nil⟩
def S153 (v0 v1 v2 : Value) (k : Value → World → Prop) (w : World) : Prop :=
 Do Try.prog (sBox 26 v0) (fun t1 w2 =>
 Rd Try.prog (WS.at w2) (zc_ 26 t1) fun t3 =>
 CallK Try.prog 162 [t3, v2] (fun t4 w5 =>
 Rd Try.prog (WS.at w5) (zf_ 134 t4 v1) fun t6 =>
 Rd Try.prog (WS.at w5) (zc_ 136 t6) fun t7 =>
 Rd Try.prog (WS.at w5) (ze_ .len #[27] 3 [false] [v2]) fun t8 =>
 Rd Try.prog (WS.at w5) (zf_ 136 t7 t8) fun t9 =>
 Rd Try.prog (WS.at w5) (zc_ 4 t9) fun t10 =>
 k t10 w5) w2) w
theorem body153 : Try.f153.body = some (zg_ Try.f153) := by kernel_rfl
theorem same153 (v0 v1 v2 : Value) (k : Value → World → Prop) (w : World) : wpF Try.prog pl153 (zg_ Try.f153) (zr_ Try.prog Try.f153.results.toList k) (zp_ [v0, v1, v2]) w = S153 v0 v1 v2 k w := by kernel_rfl
theorem enter153 {v0 v1 v2 : Value} {k : Value → World → Prop} {w : World} (h : S153 v0 v1 v2 k w) : CallK Try.prog 153 [v0, v1, v2] k w :=
  call_of_wpF (pl := pl153) mixed Try.func153 body153 (by kernel_rfl) (of_decide_eq_true (by kernel_rfl)) (by kernel_rfl) (by kernel_rfl) (Eq.mpr (same153 v0 v1 v2 k w) h)

def pl151 : Plans := fun i => match i with
  | 14 => ⟨false, [18], .step 0 .any (.step 1 .any (.step 2 .held (.step 3 .any (.step 4 .any (.step 5 .any (.step 6 .any (.step 7 .any (.step 8 .any (.step 9 .any (.step 10 .held (.step 11 .any (.step 12 .any (.step 13 .any (.step 14 .any (.step 15 .held (.step 16 .any (.step 17 .any (.step 18 .last (.step 19 .any (.nil))))))))))))))))))))⟩
  | 15 => ⟨false, [10], .step 0 .any (.step 1 .any (.step 2 .held (.step 3 .any (.step 4 .any (.step 5 .any (.step 6 .any (.step 7 .any (.step 8 .any (.step 9 .any (.step 10 .last (.nil)))))))))))⟩
  | _ => ⟨false, [], .nil⟩
def S151 (v0 v1 : Value) (k : Value → World → Prop) (w : World) : Prop :=
 Do Try.prog (sBox 26 v0) (fun t1 w2 =>
 Rd Try.prog (WS.at w2) (zy_ 124 [(0, v1)]) fun t3 =>
 Do Try.prog (sBox 124 t3) (fun t4 w5 =>
 zrb_ [14, 6, 15, 16, 17, 18, 19, 20, 21, 8, 22, 23, 24, 25, 26, 27, 9, 28, 10, 29, 30, 31, 32, 35, 36, 37, 38, 39, 40, 41, 42, 43, 44, 45, 46, 47, 48, 49, 50, 51, 52, 53, 54, 55, 56, 57, 58, 59, 60, 61, 62, 63, 64, 6, 33, 34, 10, 65, 25, 66, 18] (fun Q6 f7 w8 =>
  zm_ (f7 6)
   (Rd Try.prog (WS.at w8) (za_ 26 (f7 2) 2) fun t9 =>
   Rd Try.prog (WS.at w8) (zc_ 24 t9) fun t10 =>
   Rd Try.prog (WS.at w8) (ze_ .len #[24] 3 [false] [t10]) fun t11 =>
   zrb_ [19, 20, 21, 8, 22, 23, 24, 25, 26, 27, 9, 28, 10, 29, 30, 31, 32, 35, 36, 37, 38, 39, 40, 41, 42, 43, 44, 45, 46, 47, 48, 49, 50, 51, 52, 53, 54, 55, 56, 57, 58, 59, 60, 61, 62, 63, 64, 6, 33, 34, 10, 65, 25, 66, 18] (fun Q12 f13 w14 =>
    Rd Try.prog (WS.at w14) (sBin .lss 3 false (f13 18) (f13 17)) fun t15 =>
    zm_ t15
     (Rd Try.prog (WS.at w14) (zf_ 24 (f13 16) (f13 18)) fun t16 =>
     Rd Try.prog (WS.at w14) (zc_ 33 t16) fun t17 =>
     Do Try.prog (zw_ 33) (fun t18 w19 =>
     Do Try.prog (zi_ 33 t18 t17) (fun _ w20 =>
     Rd Try.prog (WS.at w20) (ze_ .len #[27] 3 [false] [(f13 1)]) fun t21 =>
     Rd Try.prog (WS.at w20) (sBin .add 3 true t21 (.int .i64 1)) fun t22 =>
     zrb_ [26, 27, 9, 28, 10, 29, 30, 31, 32, 35, 36, 37, 38, 39, 40, 41, 42, 43, 44, 45, 46, 47, 48, 49, 50, 51, 52, 53, 54, 55, 56, 57, 58, 59, 60, 61, 62, 63, 64, 6, 33, 34, 10, 65, 25] (fun Q23 f24 w25 =>
      Rd Try.prog (WS.at w25) (sBin .lss 3 false (f24 25) (f24 24)) fun t26 =>
      zm_ t26
       (zrb_ [29, 30, 31, 32, 35, 36, 37, 38, 39, 40, 41, 42, 43, 44, 45, 46, 47, 48, 49, 50, 51, 52, 53, 54, 55, 56, 57, 58, 59, 60, 61, 62, 63, 64, 6, 33, 34, 10] (fun Q27 f28 w29 =>
        Rd Try.prog (WS.at w29) (ze_ .len #[27] 3 [false] [(f28 1)]) fun t30 =>
        Rd Try.prog (WS.at w29) (sBin .leq 3 false (f28 10) t30) fun t31 =>
        zm_ t31
         (Join (fun K32 =>
         Rd Try.prog WS.any (za_ 33 (f28 8) 0) fun t35 =>
         Rd Try.prog (WS.at w29.drew) (zc_ 3 t35) fun t36 =>
         Rd Try.prog WS.any (zvb_ (f28 5)) fun t37 =>
         Rd Try.prog WS.any (za_ 124 t37 1) fun t38 =>
         Rd Try.prog WS.any (zf_ 122 t38 t36) fun t39 =>
         Rd Try.prog WS.any (zf_ 121 t39 (f28 9)) fun t40 =>
         Rd Try.prog WS.any (zf_ 120 t40 (f28 10)) fun t41 =>
         Rd Try.prog (WS.at w29.drew) (zc_ 4 t41) fun t42 =>
         Rd Try.prog WS.any (sUn .not t42) fun t43 =>
         zb_ t43 true (fun k w' => k (f28 5) w') (fun t44 w45 =>
         zb_ t43 true (fun k w' => Rd Try.prog WS.any (za_ 33 (f28 8) 1) fun v => k v w') (fun t46 w47 =>
         zb_ t43 true (fun k w' => Rd Try.prog (WS.at w29.drew) (zc_ 27 t46) fun v => k v w') (fun t48 w49 =>
         zb_ t43 true (fun k w' => k (f28 9) w') (fun t50 w51 =>
         zb_ t43 true (fun k w' => k (f28 10) w') (fun t52 w53 =>
         zb_ t43 true (fun k w' => CallK Try.prog 155 [t44, t48, t50, t52] k w') (fun t54 w55 =>
         Rd Try.prog WS.any (zeb_ t43 t54 (.bool false)) fun t56 =>
         zm_ t56
          (Rd Try.prog WS.any (za_ 33 (f28 8) 0) fun t57 =>
          Rd Try.prog (WS.at w55.drew) (zc_ 3 t57) fun t58 =>
          Rd Try.prog WS.any (zvb_ (f28 5)) fun t59 =>
          Rd Try.prog WS.any (za_ 124 t59 1) fun t60 =>
          Rd Try.prog WS.any (zf_ 122 t60 t58) fun t61 =>
          Rd Try.prog WS.any (zf_ 121 t61 (f28 9)) fun t62 =>
          Rd Try.prog WS.any (zf_ 120 t62 (f28 10)) fun t63 =>
          Do Try.prog (zi_ 4 t63 (.bool true)) (fun _ w64 =>
          K32 (F.upd (F.upd (F.upd (F.upd (F.upd (F.upd (F.upd (F.upd (F.upd (F.upd (F.upd (F.upd (F.upd (F.upd (F.upd (F.upd (F.upd (F.upd (F.upd (F.upd (F.upd (F.upd (F.upd (F.upd (F.upd (F.upd (F.upd (F.upd (F.upd (F.upd (F.upd (F.upd (F.upd (F.upd (F.upd f28 29 (f28 10)) 30 (f28 1)) 31 t30) 32 t31) 35 (f28 5)) 36 t35) 37 t36) 38 (f28 9)) 39 (f28 10)) 40 t37) 41 t38) 42 t39) 43 t40) 44 t41) 45 t42) 46 t43) 47 t43) 48 t44) 49 t46) 50 t48) 51 t50) 52 t52) 53 t54) 54 t56) 55 (f28 5)) 56 t57) 57 t58) 58 (f28 9)) 59 (f28 10)) 60 t59) 61 t60) 62 t61) 63 t62) 64 t63) 6 (.bool true)) w64) w55.drew)
          (K32 (F.upd (F.upd (F.upd (F.upd (F.upd (F.upd (F.upd (F.upd (F.upd (F.upd (F.upd (F.upd (F.upd (F.upd (F.upd (F.upd (F.upd (F.upd (F.upd (F.upd (F.upd (F.upd (F.upd (F.upd f28 29 (f28 10)) 30 (f28 1)) 31 t30) 32 t31) 35 (f28 5)) 36 t35) 37 t36) 38 (f28 9)) 39 (f28 10)) 40 t37) 41 t38) 42 t39) 43 t40) 44 t41) 45 t42) 46 t43) 47 t43) 48 t44) 49 t46) 50 t48) 51 t50) 52 t52) 53 t54) 54 t56) w55)) w53) w51) w49) w47) w45) w29.drew) (fun f33 w34 =>
         Rd Try.prog (WS.at w34) (sBin .add 3 true (f33 10) (.int .i64 1)) fun t65 =>
         Q27 .normal (F.upd (F.upd (F.upd f33 33 (f33 10)) 34 t65) 10 t65) w34))
         (Q27 (.exit 6) (F.upd (F.upd (F.upd (F.upd f28 29 (f28 10)) 30 (f28 1)) 31 t30) 32 t31) w29))
        (zx_ 6 (zx_ 5 (seqQ (fun f66 w67 =>
       Rd Try.prog (WS.at w67) (sBin .add 3 true (f66 25) (.int .i64 1)) fun t68 =>
       Q23 .normal (F.upd (F.upd f66 65 t68) 25 t68) w67) Q23)))
        (F.upd (F.upd (F.upd (F.upd (F.upd f24 26 t26) 27 (f24 25)) 9 (f24 25)) 28 (f24 25)) 10 (f24 25)) w25)
       (Q23 (.exit 4) (F.upd f24 26 t26) w25))
      (zx_ 4 (zx_ 3 (seqQ (fun f69 w70 =>
     Rd Try.prog (WS.at w70) (sBin .add 3 true (f69 18) (.int .i64 1)) fun t71 =>
     Q12 .normal (F.upd (F.upd f69 66 t71) 18 t71) w70) Q12)))
      (F.upd (F.upd (F.upd (F.upd (F.upd (F.upd (F.upd (F.upd f13 19 t15) 20 t16) 21 t17) 8 t18) 22 (f13 1)) 23 t21) 24 t22) 25 (.int .i64 0)) w20) w19) w14)
     (Q12 (.exit 2) (F.upd f13 19 t15) w14))
    (zx_ 2 (zx_ 1 Q6))
    (F.upd (F.upd (F.upd (F.upd (F.upd (F.upd f7 14 (f7 6)) 6 (.bool false)) 15 t9) 16 t10) 17 t11) 18 (.int .i64 0)) w8)
   (Q6 (.exit 0) (F.upd f7 14 (f7 6)) w8))
  (zx_ 0 (seqQ (fun f72 w73 =>
 k (f72 5) w73) (zr_ Try.prog [.tmp 4] k)))
  (F.upd (F.upd (F.upd (F.upd (F.upd (F.upd (F.upd (zp_ [v0, v1]) 2 t1) 4 (.pointer none)) 11 v1) 12 t3) 13 t4) 5 t4) 6 (.bool true)) w5) w2) w
theorem body151 : Try.f151.body = some (zg_ Try.f151) := by kernel_rfl
theorem same151 (v0 v1 : Value) (k : Value → World → Prop) (w : World) : wpF Try.prog pl151 (zg_ Try.f151) (zr_ Try.prog Try.f151.results.toList k) (zp_ [v0, v1]) w = S151 v0 v1 k w := by kernel_rfl
theorem enter151 {v0 v1 : Value} {k : Value → World → Prop} {w : World} (h : S151 v0 v1 k w) : CallK Try.prog 151 [v0, v1] k w :=
  call_of_wpF (pl := pl151) mixed Try.func151 body151 (by kernel_rfl) (of_decide_eq_true (by kernel_rfl)) (by kernel_rfl) (by kernel_rfl) (Eq.mpr (same151 v0 v1 k w) h)

def pl240 : Plans := fun _ => ⟨false, [], .nil⟩
def S240 (v0 v1 : Value) (k : Value → World → Prop) (w : World) : Prop :=
 Do Try.prog (sBox 26 v0) (fun t1 w2 =>
 Rd Try.prog (WS.at w2) (ze_ .len #[27] 3 [false] [v1]) fun t3 =>
 Rd Try.prog (WS.at w2) (sBin .leq 3 true t3 (.int .i64 10)) fun t4 =>
 zb_ t4 true (fun k w' => k v1 w') (fun t5 w6 =>
 zb_ t4 true (fun k w' => Rd Try.prog (WS.at w6) (za_ 26 t1 1) fun v => k v w') (fun t7 w8 =>
 zb_ t4 true (fun k w' => Rd Try.prog (WS.at w8) (zc_ 3 t7) fun v => k v w') (fun t9 w10 =>
 zb_ t4 true (fun k w' => Rd Try.prog (WS.at w10) (sBin .sub 3 true t9 (.int .i64 1)) fun v => k v w') (fun t11 w12 =>
 zb_ t4 true (fun k w' => CallK Try.prog 230 [t5, (.int .i64 0), t11] k w') (fun t13 w14 =>
 Rd Try.prog (WS.at w14) (zeb_ t4 t13 (.bool false)) fun t15 =>
 k t15 w14) w12) w10) w8) w6) w2) w
theorem body240 : Try.f240.body = some (zg_ Try.f240) := by kernel_rfl
theorem same240 (v0 v1 : Value) (k : Value → World → Prop) (w : World) : wpF Try.prog pl240 (zg_ Try.f240) (zr_ Try.prog Try.f240.results.toList k) (zp_ [v0, v1]) w = S240 v0 v1 k w := by kernel_rfl
theorem enter240 {v0 v1 : Value} {k : Value → World → Prop} {w : World} (h : S240 v0 v1 k w) : CallK Try.prog 240 [v0, v1] k w :=
  call_of_wpF (pl := pl240) mixed Try.func240 body240 (by kernel_rfl) (of_decide_eq_true (by kernel_rfl)) (by kernel_rfl) (by kernel_rfl) (Eq.mpr (same240 v0 v1 k w) h)

def pl251 : Plans := fun _ => ⟨false, [], .nil⟩
def S251 (v0 v1 : Value) (k : Value → World → Prop) (w : World) : Prop :=
 Rd Try.prog (WS.at w) (zc_ 3 v1) fun t1 =>
 Rd Try.prog (WS.at w) (sBin .sub 3 true t1 (.int .i64 1)) fun t2 =>
 CallK Try.prog 149 [v0, (.int .i64 0), t2] (fun t3 w4 =>
 Rd Try.prog (WS.at w4) (sUn .not t3) fun t5 =>
 k t5 w4) w
theorem body251 : Try.f251.body = some (zg_ Try.f251) := by kernel_rfl
theorem same251 (v0 v1 : Value) (k : Value → World → Prop) (w : World) : wpF Try.prog pl251 (zg_ Try.f251) (zr_ Try.prog Try.f251.results.toList k) (zp_ [v0, v1]) w = S251 v0 v1 k w := by kernel_rfl
theorem enter251 {v0 v1 : Value} {k : Value → World → Prop} {w : World} (h : S251 v0 v1 k w) : CallK Try.prog 251 [v0, v1] k w :=
  call_of_wpF (pl := pl251) mixed Try.func251 body251 (by kernel_rfl) (of_decide_eq_true (by kernel_rfl)) (by kernel_rfl) (by kernel_rfl) (Eq.mpr (same251 v0 v1 k w) h)

def pl162 : Plans := fun _ => ⟨false, [], .nil⟩
def S162 (v0 v1 : Value) (k : Value → World → Prop) (w : World) : Prop :=
 Do Try.prog (sBox 26 v0) (fun t1 w2 =>
 Rd Try.prog (WS.at w2) (ze_ .len #[27] 3 [false] [v1]) fun t3 =>
 Rd Try.prog (WS.at w2) (sBin .add 3 true t3 (.int .i64 1)) fun t4 =>
 Rd Try.prog (WS.at w2) (za_ 26 t1 0) fun t5 =>
 Rd Try.prog (WS.at w2) (zc_ 3 t5) fun t6 =>
 Do Try.prog (zge_ 134 t6 t6) (fun t7 w8 =>
 Rd Try.prog (WS.at w8) (ze_ .len #[134] 3 [false] [t7]) fun t9 =>
 zrb_ [22, 23, 7, 24, 25, 26, 27, 28, 29, 30, 31, 21] (fun Q10 f11 w12 =>
  Rd Try.prog (WS.at w12) (sBin .lss 3 false (f11 21) (f11 20)) fun t13 =>
  zm_ t13
   (Rd Try.prog (WS.at w12) (sBin .mul 3 false (f11 5) (f11 5)) fun t14 =>
   Do Try.prog (zge_ 136 t14 t14) (fun t15 w16 =>
   Rd Try.prog (WS.at w16) (zf_ 134 (f11 6) (f11 21)) fun t17 =>
   Do Try.prog (zi_ 136 t17 t15) (fun _ w18 =>
   Rd Try.prog (WS.at w18) (sBin .add 3 true (f11 21) (.int .i64 1)) fun t19 =>
   Q10 .normal (F.upd (F.upd (F.upd (F.upd (F.upd (F.upd (F.upd (F.upd (F.upd (F.upd (F.upd (F.upd f11 22 t13) 23 (f11 21)) 7 (f11 21)) 24 (f11 6)) 25 (f11 21)) 26 (f11 5)) 27 (f11 5)) 28 t14) 29 t15) 30 t17) 31 t19) 21 t19) w18) w16) w12)
   (Q10 (.exit 0) (F.upd f11 22 t13) w12))
  (zx_ 0 (seqQ (fun f20 w21 =>
 zrb_ [32, 8, 33, 34, 35, 36, 37, 38, 39, 10, 11, 40, 41, 42, 45, 12, 46, 47, 48, 51, 52, 53, 54, 55, 56, 57, 58, 59, 60, 61, 62, 63, 64, 65, 66, 67, 68, 69, 70, 71, 72, 73, 74, 75, 76, 77, 78, 79, 80, 81, 82, 83, 8, 49, 50, 12, 43, 44, 11, 84, 36] (fun Q22 f23 w24 =>
  zm_ (f23 8)
   (Rd Try.prog (WS.at w24) (za_ 26 (f23 2) 2) fun t25 =>
   Rd Try.prog (WS.at w24) (zc_ 24 t25) fun t26 =>
   Rd Try.prog (WS.at w24) (ze_ .len #[24] 3 [false] [t26]) fun t27 =>
   zrb_ [37, 38, 39, 10, 11, 40, 41, 42, 45, 12, 46, 47, 48, 51, 52, 53, 54, 55, 56, 57, 58, 59, 60, 61, 62, 63, 64, 65, 66, 67, 68, 69, 70, 71, 72, 73, 74, 75, 76, 77, 78, 79, 80, 81, 82, 83, 8, 49, 50, 12, 43, 44, 11, 84, 36] (fun Q28 f29 w30 =>
    Rd Try.prog (WS.at w30) (sBin .lss 3 false (f29 36) (f29 35)) fun t31 =>
    zm_ t31
     (Rd Try.prog (WS.at w30) (zf_ 24 (f29 34) (f29 36)) fun t32 =>
     Rd Try.prog (WS.at w30) (zc_ 33 t32) fun t33 =>
     Do Try.prog (zw_ 33) (fun t34 w35 =>
     Do Try.prog (zi_ 33 t34 t33) (fun _ w36 =>
     zrb_ [40, 41, 42, 45, 12, 46, 47, 48, 51, 52, 53, 54, 55, 56, 57, 58, 59, 60, 61, 62, 63, 64, 65, 66, 67, 68, 69, 70, 71, 72, 73, 74, 75, 76, 77, 78, 79, 80, 81, 82, 83, 8, 49, 50, 12, 43, 44, 11] (fun Q37 f38 w39 =>
      Rd Try.prog (WS.at w39) (sBin .lss 3 false (f38 11) (f38 5)) fun t40 =>
      zm_ t40
       (zrb_ [46, 47, 48, 51, 52, 53, 54, 55, 56, 57, 58, 59, 60, 61, 62, 63, 64, 65, 66, 67, 68, 69, 70, 71, 72, 73, 74, 75, 76, 77, 78, 79, 80, 81, 82, 83, 8, 49, 50, 12] (fun Q41 f42 w43 =>
        Rd Try.prog (WS.at w43) (sBin .lss 3 false (f42 12) (f42 5)) fun t44 =>
        zm_ t44
         (Join (fun K45 =>
         Rd Try.prog (WS.at w43) (za_ 33 (f42 10) 0) fun t48 =>
         Rd Try.prog (WS.at w43) (zc_ 3 t48) fun t49 =>
         Rd Try.prog (WS.at w43) (zf_ 134 (f42 6) t49) fun t50 =>
         Rd Try.prog (WS.at w43) (zc_ 136 t50) fun t51 =>
         Rd Try.prog (WS.at w43) (sBin .mul 3 false (f42 11) (f42 5)) fun t52 =>
         Rd Try.prog (WS.at w43) (sBin .add 3 false t52 (f42 12)) fun t53 =>
         Rd Try.prog (WS.at w43) (zf_ 136 t51 t53) fun t54 =>
         Rd Try.prog (WS.at w43) (zc_ 4 t54) fun t55 =>
         Rd Try.prog (WS.at w43) (sUn .not t55) fun t56 =>
         zb_ t56 true (fun k w' => k (f42 6) w') (fun t57 w58 =>
         zb_ t56 true (fun k w' => k (f42 1) w') (fun t59 w60 =>
         zb_ t56 true (fun k w' => Rd Try.prog (WS.at w60) (za_ 33 (f42 10) 1) fun v => k v w') (fun t61 w62 =>
         zb_ t56 true (fun k w' => Rd Try.prog (WS.at w62) (zc_ 27 t61) fun v => k v w') (fun t63 w64 =>
         zb_ t56 true (fun k w' => k (f42 11) w') (fun t65 w66 =>
         zb_ t56 true (fun k w' => k (f42 12) w') (fun t67 w68 =>
         zb_ t56 true (fun k w' => CallK Try.prog 161 [t57, t59, t63, t65, t67] k w') (fun t69 w70 =>
         Rd Try.prog (WS.at w70) (zeb_ t56 t69 (.bool false)) fun t71 =>
         zm_ t71
          (Rd Try.prog (WS.at w70) (za_ 33 (f42 10) 0) fun t72 =>
          Rd Try.prog (WS.at w70) (zc_ 3 t72) fun t73 =>
          Rd Try.prog (WS.at w70) (zf_ 134 (f42 6) t73) fun t74 =>
          Rd Try.prog (WS.at w70) (zc_ 136 t74) fun t75 =>
          Rd Try.prog (WS.at w70) (sBin .mul 3 false (f42 11) (f42 5)) fun t76 =>
          Rd Try.prog (WS.at w70) (sBin .add 3 false t76 (f42 12)) fun t77 =>
          Rd Try.prog (WS.at w70) (zf_ 136 t75 t77) fun t78 =>
          Do Try.prog (zi_ 4 t78 (.bool true)) (fun _ w79 =>
          K45 (F.upd (F.upd (F.upd (F.upd (F.upd (F.upd (F.upd (F.upd (F.upd (F.upd (F.upd (F.upd (F.upd (F.upd (F.upd (F.upd (F.upd (F.upd (F.upd (F.upd (F.upd (F.upd (F.upd (F.upd (F.upd (F.upd (F.upd (F.upd (F.upd (F.upd (F.upd (F.upd (F.upd (F.upd (F.upd (F.upd (F.upd f42 46 (f42 12)) 47 (f42 5)) 48 t44) 51 (f42 6)) 52 t48) 53 t49) 54 t50) 55 t51) 56 (f42 11)) 57 (f42 5)) 58 t52) 59 (f42 12)) 60 t53) 61 t54) 62 t55) 63 t56) 64 t56) 65 t57) 66 t59) 67 t61) 68 t63) 69 t65) 70 t67) 71 t69) 72 t71) 73 (f42 6)) 74 t72) 75 t73) 76 t74) 77 t75) 78 (f42 11)) 79 (f42 5)) 80 t76) 81 (f42 12)) 82 t77) 83 t78) 8 (.bool true)) w79) w70)
          (K45 (F.upd (F.upd (F.upd (F.upd (F.upd (F.upd (F.upd (F.upd (F.upd (F.upd (F.upd (F.upd (F.upd (F.upd (F.upd (F.upd (F.upd (F.upd (F.upd (F.upd (F.upd (F.upd (F.upd (F.upd (F.upd f42 46 (f42 12)) 47 (f42 5)) 48 t44) 51 (f42 6)) 52 t48) 53 t49) 54 t50) 55 t51) 56 (f42 11)) 57 (f42 5)) 58 t52) 59 (f42 12)) 60 t53) 61 t54) 62 t55) 63 t56) 64 t56) 65 t57) 66 t59) 67 t61) 68 t63) 69 t65) 70 t67) 71 t69) 72 t71) w70)) w68) w66) w64) w62) w60) w58) w43) (fun f46 w47 =>
         Rd Try.prog (WS.at w47) (sBin .add 3 true (f46 12) (.int .i64 1)) fun t80 =>
         Q41 .normal (F.upd (F.upd (F.upd f46 49 (f46 12)) 50 t80) 12 t80) w47))
         (Q41 (.exit 8) (F.upd (F.upd (F.upd f42 46 (f42 12)) 47 (f42 5)) 48 t44) w43))
        (zx_ 8 (zx_ 7 (seqQ (fun f81 w82 =>
       Rd Try.prog (WS.at w82) (sBin .add 3 true (f81 11) (.int .i64 1)) fun t83 =>
       Q37 .normal (F.upd (F.upd (F.upd f81 43 (f81 11)) 44 t83) 11 t83) w82) Q37)))
        (F.upd (F.upd (F.upd (F.upd (F.upd f38 40 (f38 11)) 41 (f38 5)) 42 t40) 45 (f38 11)) 12 (f38 11)) w39)
       (Q37 (.exit 6) (F.upd (F.upd (F.upd f38 40 (f38 11)) 41 (f38 5)) 42 t40) w39))
      (zx_ 6 (zx_ 5 (seqQ (fun f84 w85 =>
     Rd Try.prog (WS.at w85) (sBin .add 3 true (f84 36) (.int .i64 1)) fun t86 =>
     Q28 .normal (F.upd (F.upd f84 84 t86) 36 t86) w85) Q28)))
      (F.upd (F.upd (F.upd (F.upd (F.upd f29 37 t31) 38 t32) 39 t33) 10 t34) 11 (.int .i64 0)) w36) w35) w30)
     (Q28 (.exit 4) (F.upd f29 37 t31) w30))
    (zx_ 4 (zx_ 3 Q22))
    (F.upd (F.upd (F.upd (F.upd (F.upd (F.upd f23 32 (f23 8)) 8 (.bool false)) 33 t25) 34 t26) 35 t27) 36 (.int .i64 0)) w24)
   (Q22 (.exit 2) (F.upd f23 32 (f23 8)) w24))
  (zx_ 2 (seqQ (fun f87 w88 =>
 k (f87 6) w88) (zr_ Try.prog [.tmp 4] k)))
  (F.upd f20 8 (.bool true)) w21) (zr_ Try.prog [.tmp 4] k)))
  (F.upd (F.upd (F.upd (F.upd (F.upd (F.upd (F.upd (F.upd (F.upd (F.upd (F.upd (F.upd (F.upd (zp_ [v0, v1]) 2 t1) 4 (.slice none 0 0)) 13 v1) 14 t3) 15 t4) 5 t4) 16 t5) 17 t6) 18 t7) 6 t7) 19 t7) 20 t9) 21 (.int .i64 0)) w8) w2) w
theorem body162 : Try.f162.body = some (zg_ Try.f162) := by kernel_rfl
theorem same162 (v0 v1 : Value) (k : Value → World → Prop) (w : World) : wpF Try.prog pl162 (zg_ Try.f162) (zr_ Try.prog Try.f162.results.toList k) (zp_ [v0, v1]) w = S162 v0 v1 k w := by kernel_rfl
theorem enter162 {v0 v1 : Value} {k : Value → World → Prop} {w : World} (h : S162 v0 v1 k w) : CallK Try.prog 162 [v0, v1] k w :=
  call_of_wpF (pl := pl162) mixed Try.func162 body162 (by kernel_rfl) (of_decide_eq_true (by kernel_rfl)) (by kernel_rfl) (by kernel_rfl) (Eq.mpr (same162 v0 v1 k w) h)

def pl155 : Plans := fun _ => ⟨false, [], .nil⟩
def S155 (v0 v1 v2 v3 : Value) (k : Value → World → Prop) (w : World) : Prop :=
 Rd Try.prog (WS.at w) (ze_ .len #[27] 3 [false] [v1]) fun t1 =>
 Rd Try.prog (WS.at w) (sBin .eql 3 true t1 (.int .i64 0)) fun t2 =>
 zm_ t2
  (Rd Try.prog (WS.at w) (sBin .eql 3 false v2 v3) fun t3 =>
  k t3 w)
  (Rd Try.prog (WS.at w) (zf_ 27 v1 (.int .i64 0)) fun t4 =>
  Rd Try.prog (WS.at w) (zc_ 3 t4) fun t5 =>
  Rd Try.prog (WS.at w) (sBin .lss 3 true t5 (.int .i64 0)) fun t6 =>
  zm_ t6
   (Rd Try.prog (WS.at w) (sBin .lss 3 false v2 v3) fun t7 =>
   zb_ t7 true (fun k w' => k v0 w') (fun t8 w9 =>
   zb_ t7 true (fun k w' => Rd Try.prog (WS.at w9) (zvb_ t8) fun v => k v w') (fun t10 w11 =>
   zb_ t7 true (fun k w' => Rd Try.prog (WS.at w11) (za_ 124 t10 0) fun v => k v w') (fun t12 w13 =>
   zb_ t7 true (fun k w' => Rd Try.prog (WS.at w13) (zc_ 27 t12) fun v => k v w') (fun t14 w15 =>
   zb_ t7 true (fun k w' => k v2 w') (fun t16 w17 =>
   zb_ t7 true (fun k w' => Rd Try.prog (WS.at w17) (zf_ 27 t14 t16) fun v => k v w') (fun t18 w19 =>
   zb_ t7 true (fun k w' => Rd Try.prog (WS.at w19) (zc_ 3 t18) fun v => k v w') (fun t20 w21 =>
   zb_ t7 true (fun k w' => CallK Try.prog 254 [t20] k w') (fun t22 w23 =>
   zb_ t7 true (fun k w' => k t5 w') (fun t24 w25 =>
   zb_ t7 true (fun k w' => Rd Try.prog (WS.at w25) (sBin .eql 3 false t22 t24) fun v => k v w') (fun t26 w27 =>
   Rd Try.prog (WS.at w27) (zeb_ t7 t26 (.bool false)) fun t28 =>
   zb_ t28 true (fun k w' => k v0 w') (fun t29 w30 =>
   zb_ t28 true (fun k w' => k v1 w') (fun t31 w32 =>
   zb_ t28 true (fun k w' => Rd Try.prog (WS.at w32) (zec_ 27 t31 (some (.int .i64 1)) none none) fun v => k v w') (fun t33 w34 =>
   zb_ t28 true (fun k w' => k v2 w') (fun t35 w36 =>
   zb_ t28 true (fun k w' => Rd Try.prog (WS.at w36) (sBin .add 3 true t35 (.int .i64 1)) fun v => k v w') (fun t37 w38 =>
   zb_ t28 true (fun k w' => k v3 w') (fun t39 w40 =>
   zb_ t28 true (fun k w' => CallK Try.prog 155 [t29, t33, t37, t39] k w') (fun t41 w42 =>
   Rd Try.prog (WS.at w42) (zeb_ t28 t41 (.bool false)) fun t43 =>
   k t43 w42) w40) w38) w36) w34) w32) w30) w27) w25) w23) w21) w19) w17) w15) w13) w11) w9) w)
   (zrb_ [47, 48, 49, 52, 53, 54, 55, 56, 57, 58, 59, 60, 61, 62, 63, 64, 65, 66, 67, 68, 69, 8, 50, 51, 10] (fun Q44 f45 w46 =>
    Rd Try.prog (WS.at w46) (sBin .leq 3 false (f45 10) (f45 3)) fun t47 =>
    zm_ t47
     (Rd Try.prog (WS.at w46) (zvb_ (f45 0)) fun t48 =>
     Rd Try.prog (WS.at w46) (za_ 124 t48 1) fun t49 =>
     Rd Try.prog (WS.at w46) (zf_ 122 t49 (f45 9)) fun t50 =>
     Rd Try.prog (WS.at w46) (zf_ 121 t50 (f45 2)) fun t51 =>
     Rd Try.prog (WS.at w46) (zf_ 120 t51 (f45 10)) fun t52 =>
     Rd Try.prog (WS.at w46) (zc_ 4 t52) fun t53 =>
     zb_ t53 true (fun k w' => k (f45 0) w') (fun t54 w55 =>
     zb_ t53 true (fun k w' => k (f45 1) w') (fun t56 w57 =>
     zb_ t53 true (fun k w' => Rd Try.prog (WS.at w57) (zec_ 27 t56 (some (.int .i64 1)) none none) fun v => k v w') (fun t58 w59 =>
     zb_ t53 true (fun k w' => k (f45 10) w') (fun t60 w61 =>
     zb_ t53 true (fun k w' => k (f45 3) w') (fun t62 w63 =>
     zb_ t53 true (fun k w' => CallK Try.prog 155 [t54, t58, t60, t62] k w') (fun t64 w65 =>
     Rd Try.prog (WS.at w65) (zeb_ t53 t64 (.bool false)) fun t66 =>
     zm_ t66
      (Q44 .ret (F.upd (F.upd (F.upd (F.upd (F.upd (F.upd (F.upd (F.upd (F.upd (F.upd (F.upd (F.upd (F.upd (F.upd (F.upd (F.upd (F.upd (F.upd (F.upd (F.upd (F.upd (F.upd f45 47 (f45 10)) 48 (f45 3)) 49 t47) 52 (f45 0)) 53 (f45 9)) 54 (f45 2)) 55 (f45 10)) 56 t48) 57 t49) 58 t50) 59 t51) 60 t52) 61 t53) 62 t53) 63 t54) 64 t56) 65 t58) 66 t60) 67 t62) 68 t64) 69 t66) 8 (.bool true)) w65)
      (Rd Try.prog (WS.at w65) (sBin .add 3 true (f45 10) (.int .i64 1)) fun t67 =>
      Q44 .normal (F.upd (F.upd (F.upd (F.upd (F.upd (F.upd (F.upd (F.upd (F.upd (F.upd (F.upd (F.upd (F.upd (F.upd (F.upd (F.upd (F.upd (F.upd (F.upd (F.upd (F.upd (F.upd (F.upd (F.upd f45 47 (f45 10)) 48 (f45 3)) 49 t47) 52 (f45 0)) 53 (f45 9)) 54 (f45 2)) 55 (f45 10)) 56 t48) 57 t49) 58 t50) 59 t51) 60 t52) 61 t53) 62 t53) 63 t54) 64 t56) 65 t58) 66 t60) 67 t62) 68 t64) 69 t66) 50 (f45 10)) 51 t67) 10 t67) w65)) w63) w61) w59) w57) w55) w46)
     (Q44 (.exit 0) (F.upd (F.upd (F.upd f45 47 (f45 10)) 48 (f45 3)) 49 t47) w46))
    (zx_ 0 (seqQ (fun f68 w69 =>
   k (.bool false) w69) (zr_ Try.prog [.tmp 8] k)))
    (F.upd (F.upd (F.upd (F.upd (F.upd (F.upd (F.upd (F.upd (F.upd (F.upd (F.upd (F.upd (zp_ [v0, v1, v2, v3]) 8 (.bool false)) 11 v1) 12 t1) 13 t2) 17 v1) 18 t4) 19 t5) 9 t5) 20 t5) 21 t6) 46 v2) 10 v2) w))
theorem body155 : Try.f155.body = some (zg_ Try.f155) := by kernel_rfl
theorem same155 (v0 v1 v2 v3 : Value) (k : Value → World → Prop) (w : World) : wpF Try.prog pl155 (zg_ Try.f155) (zr_ Try.prog Try.f155.results.toList k) (zp_ [v0, v1, v2, v3]) w = S155 v0 v1 v2 v3 k w := by kernel_rfl
theorem enter155 {v0 v1 v2 v3 : Value} {k : Value → World → Prop} {w : World} (h : S155 v0 v1 v2 v3 k w) : CallK Try.prog 155 [v0, v1, v2, v3] k w :=
  call_of_wpF (pl := pl155) mixed Try.func155 body155 (by kernel_rfl) (of_decide_eq_true (by kernel_rfl)) (by kernel_rfl) (by kernel_rfl) (Eq.mpr (same155 v0 v1 v2 v3 k w) h)

def pl161 : Plans := fun _ => ⟨false, [], .nil⟩
def S161 (v0 v1 v2 v3 v4 : Value) (k : Value → World → Prop) (w : World) : Prop :=
 Rd Try.prog (WS.at w) (ze_ .len #[27] 3 [false] [v2]) fun t1 =>
 Rd Try.prog (WS.at w) (sBin .eql 3 true t1 (.int .i64 0)) fun t2 =>
 zm_ t2
  (Rd Try.prog (WS.at w) (sBin .eql 3 false v3 v4) fun t3 =>
  k t3 w)
  (zrb_ [19, 20, 21, 24, 25, 26, 27, 28, 29, 30, 31, 32, 33, 34, 35, 36, 37, 38, 39, 40, 10, 22, 23, 11] (fun Q4 f5 w6 =>
   Rd Try.prog (WS.at w6) (sBin .leq 3 false (f5 11) (f5 4)) fun t7 =>
   zm_ t7
    (Rd Try.prog (WS.at w6) (zf_ 27 (f5 2) (.int .i64 0)) fun t8 =>
    Rd Try.prog (WS.at w6) (zc_ 3 t8) fun t9 =>
    CallK Try.prog 255 [(f5 0), (f5 1), t9, (f5 3), (f5 11)] (fun t10 w11 =>
    zb_ t10 true (fun k w' => k (f5 0) w') (fun t12 w13 =>
    zb_ t10 true (fun k w' => k (f5 1) w') (fun t14 w15 =>
    zb_ t10 true (fun k w' => k (f5 2) w') (fun t16 w17 =>
    zb_ t10 true (fun k w' => Rd Try.prog (WS.at w17) (zec_ 27 t16 (some (.int .i64 1)) none none) fun v => k v w') (fun t18 w19 =>
    zb_ t10 true (fun k w' => k (f5 11) w') (fun t20 w21 =>
    zb_ t10 true (fun k w' => k (f5 4) w') (fun t22 w23 =>
    zb_ t10 true (fun k w' => CallK Try.prog 161 [t12, t14, t18, t20, t22] k w') (fun t24 w25 =>
    Rd Try.prog (WS.at w25) (zeb_ t10 t24 (.bool false)) fun t26 =>
    zm_ t26
     (Q4 .ret (F.upd (F.upd (F.upd (F.upd (F.upd (F.upd (F.upd (F.upd (F.upd (F.upd (F.upd (F.upd (F.upd (F.upd (F.upd (F.upd (F.upd (F.upd (F.upd (F.upd (F.upd f5 19 (f5 11)) 20 (f5 4)) 21 t7) 24 (f5 0)) 25 (f5 1)) 26 (f5 2)) 27 t8) 28 t9) 29 (f5 3)) 30 (f5 11)) 31 t10) 32 t10) 33 t12) 34 t14) 35 t16) 36 t18) 37 t20) 38 t22) 39 t24) 40 t26) 10 (.bool true)) w25)
     (Rd Try.prog (WS.at w25) (sBin .add 3 true (f5 11) (.int .i64 1)) fun t27 =>
     Q4 .normal (F.upd (F.upd (F.upd (F.upd (F.upd (F.upd (F.upd (F.upd (F.upd (F.upd (F.upd (F.upd (F.upd (F.upd (F.upd (F.upd (F.upd (F.upd (F.upd (F.upd (F.upd (F.upd (F.upd f5 19 (f5 11)) 20 (f5 4)) 21 t7) 24 (f5 0)) 25 (f5 1)) 26 (f5 2)) 27 t8) 28 t9) 29 (f5 3)) 30 (f5 11)) 31 t10) 32 t10) 33 t12) 34 t14) 35 t16) 36 t18) 37 t20) 38 t22) 39 t24) 40 t26) 22 (f5 11)) 23 t27) 11 t27) w25)) w23) w21) w19) w17) w15) w13) w11) w6)
    (Q4 (.exit 0) (F.upd (F.upd (F.upd f5 19 (f5 11)) 20 (f5 4)) 21 t7) w6))
   (zx_ 0 (seqQ (fun f28 w29 =>
  k (.bool false) w29) (zr_ Try.prog [.tmp 10] k)))
   (F.upd (F.upd (F.upd (F.upd (F.upd (F.upd (zp_ [v0, v1, v2, v3, v4]) 10 (.bool false)) 12 v2) 13 t1) 14 t2) 18 v3) 11 v3) w)
theorem body161 : Try.f161.body = some (zg_ Try.f161) := by kernel_rfl
theorem same161 (v0 v1 v2 v3 v4 : Value) (k : Value → World → Prop) (w : World) : wpF Try.prog pl161 (zg_ Try.f161) (zr_ Try.prog Try.f161.results.toList k) (zp_ [v0, v1, v2, v3, v4]) w = S161 v0 v1 v2 v3 v4 k w := by kernel_rfl
theorem enter161 {v0 v1 v2 v3 v4 : Value} {k : Value → World → Prop} {w : World} (h : S161 v0 v1 v2 v3 v4 k w) : CallK Try.prog 161 [v0, v1, v2, v3, v4] k w :=
  call_of_wpF (pl := pl161) mixed Try.func161 body161 (by kernel_rfl) (of_decide_eq_true (by kernel_rfl)) (by kernel_rfl) (by kernel_rfl) (Eq.mpr (same161 v0 v1 v2 v3 v4 k w) h)

def pl255 : Plans := fun _ => ⟨false, [], .nil⟩
def S255 (v0 v1 v2 v3 v4 : Value) (k : Value → World → Prop) (w : World) : Prop :=
 Rd Try.prog (WS.at w) (sBin .lss 3 true v2 (.int .i64 0)) fun t1 =>
 zm_ t1
  (Rd Try.prog (WS.at w) (sBin .add 3 true v3 (.int .i64 1)) fun t2 =>
  Rd Try.prog (WS.at w) (sBin .eql 3 false v4 t2) fun t3 =>
  zb_ t3 true (fun k w' => k v1 w') (fun t4 w5 =>
  zb_ t3 true (fun k w' => k v3 w') (fun t6 w7 =>
  zb_ t3 true (fun k w' => Rd Try.prog (WS.at w7) (zf_ 27 t4 t6) fun v => k v w') (fun t8 w9 =>
  zb_ t3 true (fun k w' => Rd Try.prog (WS.at w9) (zc_ 3 t8) fun v => k v w') (fun t10 w11 =>
  zb_ t3 true (fun k w' => k v2 w') (fun t12 w13 =>
  zb_ t3 true (fun k w' => Rd Try.prog (WS.at w13) (sBin .sub 3 true (.int .i64 (-1)) t12) fun v => k v w') (fun t14 w15 =>
  zb_ t3 true (fun k w' => Rd Try.prog (WS.at w15) (sBin .eql 3 false t10 t14) fun v => k v w') (fun t16 w17 =>
  Rd Try.prog (WS.at w17) (zeb_ t3 t16 (.bool false)) fun t18 =>
  k t18 w17) w15) w13) w11) w9) w7) w5) w)
  (Rd Try.prog (WS.at w) (zf_ 134 v0 v2) fun t19 =>
  Rd Try.prog (WS.at w) (zc_ 136 t19) fun t20 =>
  Rd Try.prog (WS.at w) (ze_ .len #[27] 3 [false] [v1]) fun t21 =>
  Rd Try.prog (WS.at w) (sBin .add 3 true t21 (.int .i64 1)) fun t22 =>
  Rd Try.prog (WS.at w) (sBin .mul 3 false v3 t22) fun t23 =>
  Rd Try.prog (WS.at w) (sBin .add 3 false t23 v4) fun t24 =>
  Rd Try.prog (WS.at w) (zf_ 136 t20 t24) fun t25 =>
  Rd Try.prog (WS.at w) (zc_ 4 t25) fun t26 =>
  k t26 w)
theorem body255 : Try.f255.body = some (zg_ Try.f255) := by kernel_rfl
theorem same255 (v0 v1 v2 v3 v4 : Value) (k : Value → World → Prop) (w : World) : wpF Try.prog pl255 (zg_ Try.f255) (zr_ Try.prog Try.f255.results.toList k) (zp_ [v0, v1, v2, v3, v4]) w = S255 v0 v1 v2 v3 v4 k w := by kernel_rfl
theorem enter255 {v0 v1 v2 v3 v4 : Value} {k : Value → World → Prop} {w : World} (h : S255 v0 v1 v2 v3 v4 k w) : CallK Try.prog 255 [v0, v1, v2, v3, v4] k w :=
  call_of_wpF (pl := pl255) mixed Try.func255 body255 (by kernel_rfl) (of_decide_eq_true (by kernel_rfl)) (by kernel_rfl) (by kernel_rfl) (Eq.mpr (same255 v0 v1 v2 v3 v4 k w) h)

end Go.Proofs.Ytegcjkhebecgbaa

namespace Go.Sh
open Go
structure TabS (w : World) (U : Option Addr) (nons n : Nat) (T : Tab) : Prop where
  ptr : 0 < nons → U = some (ad U)
  row : ∀ x, x < nons → ∃ R c, w.cell? ((ad U).add x) = some (.slice R (n * n) c) ∧ R = some (ad R) ∧ ∀ i j, i < n → j < n → w.cell? ((ad R).add (i * n + j)) = some (.bool (T x i j))
theorem TabS.gr {w w' : World} {U : Option Addr} {nons n : Nat} {T : Tab} (h : TabS w U nons n T) (g : Gr w w') : TabS w' U nons n T := ⟨h.ptr, fun x hx => by
  obtain ⟨R, c, h1, h2, h3⟩ := h.row x hx
  exact ⟨R, c, g.cell h1, h2, fun i j hi hj => g.cell (h3 i j hi hj)⟩⟩
def rowB (T : Tab) (n x : Nat) : List Value := (List.range (n * n)).map fun p => .bool (T x (p / n) (p % n))
def zwd_ (T : Tab) (nons n : Nat) : List (List Value) := (List.range nons).map (rowB T n)
theorem zcf_ (T : Tab) (n x : Nat) : (rowB T n x).length = n * n := by simp [rowB]
theorem zjd_ (T : Tab) (nons n : Nat) : (zwd_ T nons n).length = nons := by simp [zwd_]
theorem zmh_ {T : Tab} {nons n x : Nat} (h : x < nons) : vls (zwd_ T nons n) x = rowB T n x := by
  rw [vls_eq (by rw [zjd_]; exact h)]
  simp [zwd_]
theorem zwf_ {n i j : Nat} (hi : i < n) (hj : j < n) : i * n + j < n * n := by
  have : (i + 1) * n ≤ n * n := Nat.mul_le_mul_right n hi
  rw [Nat.add_mul] at this
  omega
theorem rowB_at {T : Tab} {n x i j : Nat} (hi : i < n) (hj : j < n) : (rowB T n x)[i * n + j]? = some (.bool (T x i j)) := by
  have hn : 0 < n := by omega
  have e1 : (i * n + j) / n = i := by rw [Nat.mul_comm, Nat.mul_add_div hn, Nat.div_eq_of_lt hj, Nat.add_zero]
  have e2 : (i * n + j) % n = j := by rw [Nat.mul_comm, Nat.mul_add_mod, Nat.mod_eq_of_lt hj]
  simp [rowB, zwf_ hi hj, e1, e2]
theorem rowB_put {T : Tab} {n x i j : Nat} (hi : i < n) (hj : j < n) : (rowB T n x).set (i * n + j) (.bool true) = rowB (T.put x i j) n x := by
  have hn : 0 < n := by omega
  refine List.ext_getElem? fun p => ?_
  rw [List.getElem?_set]
  by_cases hp : i * n + j = p
  · subst hp
    rw [if_pos rfl, if_pos (by rw [zcf_]; exact zwf_ hi hj), rowB_at hi hj]
    simp [Tab.put]
  · rw [if_neg hp]
    simp only [rowB, List.getElem?_map, List.getElem?_range']
    by_cases hlt : p < n * n
    · simp only [List.getElem?_range hlt, Option.map_some, Tab.put]
      have : ¬ (x = x ∧ p / n = i ∧ p % n = j) := by
        rintro ⟨_, h1, h2⟩
        apply hp
        have := Nat.div_add_mod p n
        rw [h1, h2, Nat.mul_comm] at this
        exact this
      rw [if_neg (fun h => this ⟨rfl, h.2⟩)]
    · rw [List.getElem?_eq_none (by simp; omega)]
      rfl
theorem rowB_other {T : Tab} {n x y i j : Nat} (h : y ≠ x) : rowB (T.put x i j) n y = rowB T n y := by
  simp [rowB, Tab.put, h]
theorem rowsB_put {T : Tab} {nons n x i j : Nat} (hx : x < nons) (hi : i < n) (hj : j < n) : (zwd_ T nons n).set x ((vls (zwd_ T nons n) x).set (i * n + j) (.bool true)) = zwd_ (T.put x i j) nons n := by
  rw [zmh_ hx, rowB_put hi hj]
  refine List.ext_getElem? fun p => ?_
  rw [List.getElem?_set]
  by_cases hp : x = p
  · subst hp
    rw [if_pos rfl, if_pos (by rw [zjd_]; exact hx)]
    simp [zwd_, hx]
  · rw [if_neg hp]
    by_cases hlt : p < nons
    · simp [zwd_, hlt, rowB_other (fun e => hp e.symm)]
    · rw [List.getElem?_eq_none (by rw [zjd_]; omega), List.getElem?_eq_none (by rw [zjd_]; omega)]
theorem OwnV.tab {e1 e2 : Nat} {w : World} {B c nons n : Nat} {X : Option Addr} {T : Tab} {ps : Nat → Option Addr × Nat} (h : OwnV e1 e2 w B X c (zwd_ T nons n) ps) (hn : 0 < n) : TabS w X nons n T := by
  refine ⟨fun hp => h.ptr (by rw [zjd_]; exact hp), fun x hx => ?_⟩
  have hx' : x < (zwd_ T nons n).length := by rw [zjd_]; exact hx
  have hc := h.cell hx'
  have ho := h.own x hx'
  rw [zmh_ hx, zcf_] at hc ho
  refine ⟨_, _, hc, ho.ptr (Nat.mul_pos hn hn), fun i j hi hj => ho.src.cell _ _ (rowB_at hi hj)⟩
theorem zpj_ {α : Type} (f : α → Nat → α) (s : α) (n : Nat) : (List.range (n + 1)).foldl f s = f ((List.range n).foldl f s) n := by
  rw [List.range_succ, List.foldl_append]
  rfl
theorem zwi_ {α : Type} (f : α → Nat → α) (s : α) (a n : Nat) : (List.range' a (n + 1)).foldl f s = f ((List.range' a n).foldl f s) (a + n) := by
  rw [List.range'_concat, List.foldl_append]
  simp
theorem zkm_ {α : Type} (f : α → RuleL → α) (s : α) (rs : List RuleL) {n : Nat} (h : n < rs.length) : (rs.take (n + 1)).foldl f s = f ((rs.take n).foldl f s) (rul rs n) := by
  rw [List.take_succ_eq_append_getElem h, List.foldl_append, zpc_ h]
  rfl
end Go.Sh
namespace Go.Proofs.Ytegcjkhebecgbaa
open Go Go.Sh Go.RowKit

theorem l4Symbol_c {w : World} {U X : Option Addr} {cu cx nons : Nat} {T : Tab} {ws : List Int} {x : Int} {i j : Nat} (hT : TabS w U nons (ws.length + 1) T) (hX : Ints w X ws) (hl : ws.length ≤ 10) (hx : x < nons) (hx0 : -100 ≤ x) (hi : i ≤ j) (hj : j ≤ ws.length) {k : Value → World → Prop} (hk : k (.bool (symT T ws x i j)) w) :
    CallK Try.prog 255 [.slice U nons cu, .slice X ws.length cx, .int .i64 x, .int .i64 i, .int .i64 j] k w := by
  refine enter255 ?_
  unfold S255
  simp only [go_sem, Nat.reduceEqDiff]
  by_cases hneg : x < 0
  · simp only [hneg, decide_true, go_sem, Nat.reduceEqDiff]
    rw [zt_ (n := (i : Int) + 1) (by omega) (by omega)]
    unfold symT at hk
    rw [if_pos hneg] at hk
    by_cases he : j = i + 1
    · subst he
      simp only [show (((i + 1 : Nat) : Int) = (i : Int) + 1) from rfl, decide_true, go_sem, Nat.reduceEqDiff]
      rw [zcc_ hX.ptr (by omega), ld3 (hX.cell i (by omega))]
      simp only [go_sem, Nat.reduceEqDiff]
      rw [zt_ (by omega) (by omega)]
      simpa only [decide_true, Bool.true_and] using hk
    · simp only [show ¬ ((j : Int) = (i : Int) + 1) from by omega, decide_false, go_sem, Nat.reduceEqDiff]
      simpa only [he, decide_false, Bool.false_and] using hk
  · simp only [hneg, decide_false, go_sem, Nat.reduceEqDiff]
    unfold symT at hk
    rw [if_neg hneg] at hk
    obtain ⟨x, rfl⟩ : ∃ x' : Nat, x = x' := ⟨x.toNat, by omega⟩
    rw [Int.toNat_natCast] at hk
    obtain ⟨R, c, h1, h2, h3⟩ := hT.row x (by omega)
    have hm : (i : Int) * ((ws.length : Int) + 1) = ((i * (ws.length + 1) : Nat) : Int) := by push_cast; rfl
    have hb := zwf_ (n := ws.length + 1) (show i < ws.length + 1 by omega) (show j < ws.length + 1 by omega)
    have hnn : (ws.length + 1) * (ws.length + 1) ≤ 11 * 11 := Nat.mul_le_mul (by omega) (by omega)
    rw [ixn134 (fun h => hT.ptr h) (by omega), ld136 h1, zt_ (n := (ws.length : Int) + 1) (by omega) (by omega), hm, zt_ (n := ((i * (ws.length + 1) : Nat) : Int)) (by omega) (by omega), zt_ (by omega) (by omega)]
    rw [show (((i * (ws.length + 1) : Nat) : Int) + (j : Int)) = ((i * (ws.length + 1) + j : Nat) : Int) from by push_cast; rfl]
    rw [ixn136 (fun _ => h2) hb, ld4 (h3 i j (by omega) (by omega))]
    exact hk
theorem l4Fits_c {ws : List Int} (hl : ws.length ≤ 10) {nons : Nat} : ∀ (right : List Int) {w : World} {U X Y : Option Addr} {cu cx cy : Nat} {T : Tab} {i j : Nat} {k : Value → World → Prop}, TabS w U nons (ws.length + 1) T → Ints w X ws → Ints w Y right → right.length ≤ cy → (∀ x ∈ right, x < nons ∧ -100 ≤ x) → i ≤ j → j ≤ ws.length → k (.bool (zwc_ T ws right i j)) w →
    CallK Try.prog 161 [.slice U nons cu, .slice X ws.length cx, .slice Y right.length cy, .int .i64 i, .int .i64 j] k w := by
  intro right
  induction right with
  | nil =>
    intro w U X Y cu cx cy T i j k hT hX hY hcy hr hi hj hk
    refine enter161 ?_
    unfold S161
    simp only [go_sem, List.length_nil]
    simp only [Int.natCast_zero, decide_true, go_sem, Nat.reduceEqDiff, Int.natCast_inj]
    exact hk
  | cons x right ih =>
    intro w U X Y cu cx cy T i j k hT hX hY hcy hr hi hj hk
    refine enter161 ?_
    unfold S161
    simp only [go_sem, List.length_cons]
    simp only [show ¬ (((right.length + 1 : Nat) : Int) = 0) from by omega, decide_false, go_sem, Nat.reduceEqDiff]
    have hfs : zwc_ T ws (x :: right) i j = (List.range' i (j + 1 - i)).any fun m => symT T ws x i m && zwc_ T ws right m j := rfl
    rw [hfs] at hk
    have hx := hr x (List.mem_cons_self ..)
    have hr' : ∀ y ∈ right, y < nons ∧ -100 ≤ y := fun y hy => hr y (List.mem_cons_of_mem _ hy)
    have hYl := hY.le
    simp only [List.length_cons] at hYl hcy
    have hY' : Ints w (sub Y 1 cy 1) right := by
      have := hY.sub (l := 1) (c := cy) (by simp) (by simp; omega) (right.length)
      simpa using this
    refine ztb_ (j + 1) i (fun m f w' => i ≤ m ∧ m ≤ j + 1 ∧ f 11 = .int .i64 m ∧ (∀ m', i ≤ m' → m' < m → (symT T ws x i m' && zwc_ T ws right m' j) = false) ∧ w' = w) ⟨Nat.le_refl _, by omega, rfl, fun m' h1 h2 => by omega, rfl⟩ ?_
    rintro m f w' N hag ⟨hm1, hm2, h11, hno, rfl⟩ hN
    have f0 : f 0 = .slice U nons cu := hag 0 (by decide)
    have f1 : f 1 = .slice X ws.length cx := hag 1 (by decide)
    have f2 : f 2 = .slice Y (right.length + 1) cy := hag 2 (by decide)
    have f3 : f 3 = .int .i64 i := hag 3 (by decide)
    have f4 : f 4 = .int .i64 j := hag 4 (by decide)
    simp only [f0, f1, f2, f3, f4, h11, go_sem, Nat.reduceEqDiff]
    by_cases hle : m ≤ j
    case neg =>
      simp only [show ¬ ((m : Int) ≤ j) from by omega, decide_false, go_sem, Nat.reduceEqDiff]
      rw [any_upto (fun m' h1 h2 => hno m' h1 (by omega))] at hk
      exact hk
    simp only [show ((m : Int) ≤ j) from by omega, decide_true, go_sem, Nat.reduceEqDiff]
    rw [ix27_0 (fun _ => hY.ptr (by simp)) (by omega), ld3 (hY.cell 0 (by simp))]
    simp only [List.getD_cons_zero]
    refine l4Symbol_c hT hX hl hx.1 hx.2 hm1 (by omega) ?_
    cases hs : symT T ws x i m
    · simp only [go_sem, Nat.reduceEqDiff]
      rw [zt_ (by omega) (by omega)]
      exact hN _ _ (by omega) ⟨by omega, by omega, rfl, fun m' h1 h2 => by
        by_cases e : m' = m
        · rw [e, hs, Bool.false_and]
        · exact hno m' h1 (by omega), rfl⟩
    · simp only [go_sem, Nat.reduceEqDiff]
      rw [sll27 (by decide) (by omega)]
      rw [show (1 : Int).toNat = 1 from rfl, Nat.add_sub_cancel]
      refine ih hT hX hY' (by omega) hr' (by omega) hj ?_
      cases hf : zwc_ T ws right m j
      · simp only [go_sem, Nat.reduceEqDiff]
        rw [zt_ (by omega) (by omega)]
        exact hN _ _ (by omega) ⟨by omega, by omega, rfl, fun m' h1 h2 => by
          by_cases e : m' = m
          · rw [e, hf, Bool.and_false]
          · exact hno m' h1 (by omega), rfl⟩
      · simp only [go_sem, Nat.reduceEqDiff]
        rw [any_at hm1 hle (by rw [hs, hf]; rfl)] at hk
        exact hk
end Go.Proofs.Ytegcjkhebecgbaa

namespace Go.Sh
open Go
end Go.Sh
namespace Go.Proofs.Ytegcjkhebecgbaa
open Go Go.Sh Go.RowKit

end Go.Proofs.Ytegcjkhebecgbaa

namespace Go.Sh
open Go
end Go.Sh
namespace Go.Proofs.Ytegcjkhebecgbaa
open Go Go.Sh Go.RowKit

end Go.Proofs.Ytegcjkhebecgbaa

namespace Go.Sh
open Go
structure Whole (gm : Gram) (tree : List Int) (p : PT) (ws : List Int) : Prop where
  good : zv_ gm = true
  le : tree.length ≤ 60
  read : readT gm.rules tree tree.length 0 0 [] = some (p, ws)
  fin : p.fin = tree.length
theorem Whole.laid {gm : Gram} {tree : List Int} {p : PT} {ws : List Int} (h : Whole gm tree p ws) : Laid p.parts 0 := (zim_ _ _ _ _ _ _ _ _ h.read).1
theorem Whole.len {gm : Gram} {tree : List Int} {p : PT} {ws : List Int} (h : Whole gm tree p ws) : p.parts.length = tree.length := by
  have := (zim_ _ _ _ _ _ _ _ _ h.read).2.1
  have := h.fin
  omega
theorem Whole.words {gm : Gram} {tree : List Int} {p : PT} {ws : List Int} (h : Whole gm tree p ws) : ws.length ≤ 240 := by
  have := (readT_words (zid_ h.good) _ _ _ _ _ _ h.read).2
  have := h.len
  have := h.le
  simp at *
  omega
theorem asked_whole {gm : Gram} {tree : List Int} : (ztg_ gm tree = true → ∃ p ws, Whole gm tree p ws) ∧ (ztg_ gm tree = false → ∀ p ws, ¬ Whole gm tree p ws) := by
  have he := endT_eq gm.rules tree tree.length 0 0 []
  constructor
  · intro h
    simp only [ztg_, isT, Bool.and_eq_true, decide_eq_true_eq] at h
    rw [h.2.2] at he
    cases hz : readT gm.rules tree tree.length 0 0 [] with
    | none => rw [hz] at he; cases he
    | some z =>
      rw [hz] at he
      exact ⟨z.1, z.2, h.1.1, h.1.2, hz, by simpa using he.symm⟩
  · intro h p ws hw
    have h1 : ztg_ gm tree = true := by
      simp only [ztg_, isT, Bool.and_eq_true, decide_eq_true_eq]
      refine ⟨⟨hw.good, hw.le⟩, ?_, ?_⟩
      · have := hw.len
        rw [parts_cons] at this
        simp at this
        omega
      · rw [he, hw.read]
        simp [hw.fin]
    rw [h] at h1
    cases h1
end Go.Sh
namespace Go.Proofs.Ytegcjkhebecgbaa
open Go Go.Sh Go.RowKit

end Go.Proofs.Ytegcjkhebecgbaa

namespace Go.Sh
open Go
def wholeP (gm : Gram) (tree : List Int) : Option PT := if ztg_ gm tree = true then (readT gm.rules tree tree.length 0 0 []).map fun z => z.1 else none
theorem Whole.eq {gm : Gram} {tree : List Int} {p : PT} {ws : List Int} (h : Whole gm tree p ws) : wholeP gm tree = some p := by
  have ha : ztg_ gm tree = true := by
    cases e : ztg_ gm tree with
    | true => rfl
    | false => exact absurd h (asked_whole.2 e p ws)
  unfold wholeP
  rw [if_pos ha, h.read]
  rfl
end Go.Sh
namespace Go.Proofs.Ytegcjkhebecgbaa
open Go Go.Sh Go.RowKit


end Go.Proofs.Ytegcjkhebecgbaa

namespace Go.Sh
open Go
theorem AllPt.same {F : Nat → Prop} {w w' : World} {ps : List PT} {bs : List Nat} (h : AllPt F w ps bs) (hs : ∀ q, F q → w'.heap[q]? = w.heap[q]?) : AllPt F w' ps bs := ⟨h.1, fun i hi => PartAt.same hs _ _ (h.2 i hi)⟩
theorem AllPt.mono {F E : Nat → Prop} {w : World} {ps : List PT} {bs : List Nat} (h : AllPt F w ps bs) (he : ∀ q, F q → E q) : AllPt E w ps bs := ⟨h.1, fun i hi => PartAt.mono he _ _ (h.2 i hi)⟩
theorem good_symb {g : Gram} (hg : zv_ g = true) {q : Nat} (hq : q < g.rules.length) {i : Nat} (hi : i < (rul g.rules q).2.length) : -4 ≤ (rul g.rules q).2.getD i 0 ∧ (rul g.rules q).2.getD i 0 ≤ 5 ∧ -g.toks ≤ (rul g.rules q).2.getD i 0 ∧ (rul g.rules q).2.getD i 0 ≤ g.nons - 1 := by
  have hn := zed_ hg
  have ht := zve_ hg
  simp only [zv_, Bool.and_eq_true, List.all_eq_true] at hg
  have h1 := hg.2 q (List.mem_range.2 hq)
  simp only [zfd_, Bool.and_eq_true, List.all_eq_true] at h1
  have h2 := h1.1.2 _ (zeh_ hi)
  simp only [symB, inB, Bool.and_eq_true, decide_eq_true_eq] at h2
  omega
end Go.Sh
namespace Go.Proofs.Ytegcjkhebecgbaa
open Go Go.Sh Go.RowKit
theorem symbolOf_c {x : Int} {w : World} {k : Value → World → Prop} (hk : k (.int .i64 (IntKind.i64.wrap (-1 - x))) w) : CallK Try.prog 254 [.int .i64 x] k w := by
  refine enter254 ?_
  unfold S254
  simp only [go_sem, Nat.reduceEqDiff]
  exact hk
end Go.Proofs.Ytegcjkhebecgbaa

namespace Go.Sh
open Go
def zbd_ (T : Tab) : List Value := (List.range 726).map fun p => .bool (cellT T p)
theorem zxg_ (T : Tab) : (zbd_ T).length = 726 := by simp [zbd_]
theorem cellT_at {T : Tab} {x i j : Nat} (hi : i < 11) (hj : j < 11) : cellT T (x * 121 + i * 11 + j) = T x i j := by
  have e1 : (x * 121 + i * 11 + j) / 121 = x := by omega
  have e2 : (x * 121 + i * 11 + j) / 11 % 11 = i := by omega
  have e3 : (x * 121 + i * 11 + j) % 11 = j := by omega
  simp [cellT, e1, e2, e3]
theorem zxi_ {T : Tab} {v : Value} {x i j : Nat} (hx : x < 6) (hi : i < 11) (hj : j < 11) : (v :: zbd_ T)[x * 121 + i * 11 + j + 1]? = some (.bool (T x i j)) := by
  rw [List.getElem?_cons_succ]
  simp only [zbd_, List.getElem?_map]
  rw [List.getElem?_range (by omega)]
  simp only [Option.map_some, cellT_at hi hj]
theorem cellsT_put {T : Tab} {v : Value} {x i j : Nat} (hx : x < 6) (hi : i < 11) (hj : j < 11) : (v :: zbd_ T).set (x * 121 + i * 11 + j + 1) (.bool true) = v :: zbd_ (T.put x i j) := by
  rw [List.set_cons_succ]
  congr 1
  refine List.ext_getElem? fun p => ?_
  rw [List.getElem?_set]
  by_cases hp : x * 121 + i * 11 + j = p
  · subst hp
    rw [if_pos rfl, if_pos (by rw [zxg_]; omega)]
    simp only [zbd_, List.getElem?_map]
    rw [List.getElem?_range (by omega)]
    simp only [Option.map_some, cellT_at hi hj]
    simp [Tab.put]
  · rw [if_neg hp]
    simp only [zbd_, List.getElem?_map]
    by_cases hlt : p < 726
    · rw [List.getElem?_range hlt]
      simp only [Option.map_some, cellT, Tab.put]
      have : ¬ (p / 121 = x ∧ p / 11 % 11 = i ∧ p % 11 = j) := by omega
      rw [if_neg this]
    · rw [List.getElem?_eq_none (by simp; omega)]
      rfl
theorem zfr_ {l : List Value} {m : Nat} {v : Value} (h : m < l.length) : l.take m ++ [v] ++ l.drop (m + 1) = l.set m v := by
  rw [List.set_eq_take_append_cons_drop, if_pos h]
  simp
end Go.Sh
namespace Go.Proofs.Ytegcjkhebecgbaa
open Go Go.Sh Go.RowKit

theorem sequence_c {ws : List Int} (hl : ws.length ≤ 10) (hw : ∀ t ∈ ws, 0 ≤ t ∧ t ≤ 100) : ∀ (right : List Int) {w : World} {b : Nat} {X Y : Option Addr} {cx cy : Nat} {T : Tab} {i j : Nat} {k : Value → World → Prop}, Box w b (.slice X ws.length cx :: zbd_ T) 124 → Ints w X ws → Ints w Y right → right.length ≤ cy → (∀ x ∈ right, x < 6 ∧ -100 ≤ x) → i ≤ j → j ≤ ws.length → k (.bool (zwc_ T ws right i j)) w →
    CallK Try.prog 155 [ptrv b, .slice Y right.length cy, .int .i64 i, .int .i64 j] k w := by
  intro right
  induction right with
  | nil =>
    intro w b X Y cx cy T i j k hB hX hY hcy hr hi hj hk
    refine enter155 ?_
    unfold S155
    simp only [go_sem, List.length_nil]
    simp only [Int.natCast_zero, decide_true, go_sem, Nat.reduceEqDiff, Int.natCast_inj]
    exact hk
  | cons x right ih =>
    intro w b X Y cx cy T i j k hB hX hY hcy hr hi hj hk
    refine enter155 ?_
    unfold S155
    simp only [go_sem, List.length_cons]
    simp only [show ¬ (((right.length + 1 : Nat) : Int) = 0) from by omega, decide_false, go_sem, Nat.reduceEqDiff]
    have hx := hr x (List.mem_cons_self ..)
    have hr' : ∀ y ∈ right, y < 6 ∧ -100 ≤ y := fun y hy => hr y (List.mem_cons_of_mem _ hy)
    simp only [List.length_cons] at hcy
    have hY' : Ints w (sub Y 1 cy 1) right := by
      have := hY.sub (l := 1) (c := cy) (by simp) (by simp; omega) (right.length)
      simpa using this
    rw [ix27_0 (fun _ => hY.ptr (by simp)) (by omega), ld3 (hY.cell 0 (by simp))]
    simp only [List.getD_cons_zero, go_sem, Nat.reduceEqDiff]
    by_cases hneg : x < 0
    · simp only [hneg, decide_true, go_sem, Nat.reduceEqDiff]
      rw [zgk_ hneg] at hk
      by_cases hij : i < j
      case neg =>
        simp only [show ¬ ((i : Int) < j) from by omega, decide_false, go_sem, Nat.reduceEqDiff]
        simpa only [hij, decide_false, Bool.false_and] using hk
      simp only [show ((i : Int) < j) from by omega, decide_true, go_sem, Nat.reduceEqDiff]
      rw [decide_eq_true hij, Bool.true_and] at hk
      rw [zpe_ hB rfl, zcc_ hX.ptr (by omega), ld3 (hX.cell i (by omega))]
      refine symbolOf_c ?_
      have hwi := hw _ (zeh_ (show i < ws.length by omega))
      rw [zt_ (by omega) (by omega)]
      simp only [go_sem, Nat.reduceEqDiff]
      by_cases he : ws.getD i 0 = -1 - x
      case neg =>
        simp only [show ¬ (-1 - ws.getD i 0 = x) from by omega, decide_false, go_sem, Nat.reduceEqDiff]
        simpa only [he, decide_false, Bool.false_and] using hk
      simp only [show (-1 - ws.getD i 0 = x) from by omega, decide_true, go_sem, Nat.reduceEqDiff]
      rw [decide_eq_true he, Bool.true_and] at hk
      rw [sll27 (by decide) (by omega), zt_ (by omega) (by omega)]
      rw [show (1 : Int).toNat = 1 from rfl, Nat.add_sub_cancel]
      refine ih (i := i + 1) hB hX hY' (by omega) hr' (by omega) hj ?_
      exact hk
    · simp only [hneg, decide_false, go_sem, Nat.reduceEqDiff]
      rw [zhk_ hneg] at hk
      obtain ⟨x, rfl⟩ : ∃ x' : Nat, x = x' := ⟨x.toNat, by omega⟩
      rw [Int.toNat_natCast] at hk
      refine ztb_ (j + 1) i (fun m f w' => i ≤ m ∧ m ≤ j + 1 ∧ f 10 = .int .i64 m ∧ (∀ m', i ≤ m' → m' < m → (T x i m' && zwc_ T ws right m' j) = false) ∧ w' = w) ⟨Nat.le_refl _, by omega, rfl, fun m' h1 h2 => by omega, rfl⟩ ?_
      rintro m f w' N hag ⟨hm1, hm2, h10, hno, rfl⟩ hN
      have f0 : f 0 = ptrv b := hag 0 (by decide)
      have f1 : f 1 = .slice Y (right.length + 1) cy := hag 1 (by decide)
      have f2 : f 2 = .int .i64 i := hag 2 (by decide)
      have f3 : f 3 = .int .i64 j := hag 3 (by decide)
      have f9 : f 9 = .int .i64 (x : Nat) := hag 9 (by decide)
      simp only [f0, f1, f2, f3, f9, h10, go_sem, Nat.reduceEqDiff]
      by_cases hle : m ≤ j
      case neg =>
        simp only [show ¬ ((m : Int) ≤ j) from by omega, decide_false, go_sem, Nat.reduceEqDiff]
        rw [any_upto (fun m' h1 h2 => hno m' h1 (by omega))] at hk
        exact hk
      simp only [show ((m : Int) ≤ j) from by omega, decide_true, go_sem, Nat.reduceEqDiff]
      rw [ixa122 (by omega) (by omega), ixa121 (by omega) (by omega), ixa120 (by omega) (by omega)]
      simp only [Int.toNat_natCast, go_sem, Nat.reduceEqDiff]
      rw [ldB4 (off := 0 + 1 + x * 121 + i * 11 + m) hB (by rw [show 0 + 1 + x * 121 + i * 11 + m = x * 121 + i * 11 + m + 1 from by omega]; exact zxi_ (by omega) (by omega) (by omega))]
      cases hs : T x i m
      · simp only [go_sem, Nat.reduceEqDiff]
        rw [zt_ (by omega) (by omega)]
        exact hN _ _ (by omega) ⟨by omega, by omega, rfl, fun m' h1 h2 => by
          by_cases e : m' = m
          · rw [e, hs, Bool.false_and]
          · exact hno m' h1 (by omega), rfl⟩
      · simp only [go_sem, Nat.reduceEqDiff]
        rw [sll27 (by decide) (by omega)]
        rw [show (1 : Int).toNat = 1 from rfl, Nat.add_sub_cancel]
        refine ih hB hX hY' (by omega) hr' (by omega) hj ?_
        cases hf : zwc_ T ws right m j
        · simp only [go_sem, Nat.reduceEqDiff]
          rw [zt_ (by omega) (by omega)]
          exact hN _ _ (by omega) ⟨by omega, by omega, rfl, fun m' h1 h2 => by
            by_cases e : m' = m
            · rw [e, hf, Bool.and_false]
            · exact hno m' h1 (by omega), rfl⟩
        · simp only [go_sem, Nat.reduceEqDiff]
          rw [any_at hm1 hle (by rw [hs, hf]; rfl)] at hk
          exact hk
end Go.Proofs.Ytegcjkhebecgbaa

namespace Go.Sh
open Go
theorem zmi_ (v : Value) (n : Nat) : (madeCells #[v] (n * 1)).toList = List.replicate n v := by
  rw [Nat.mul_one]
  refine List.ext_getElem? fun i => ?_
  unfold madeCells
  by_cases h : i < n
  · simp [h, Nat.mod_one]
  · rw [List.getElem?_eq_none (by simp; omega), List.getElem?_eq_none (by simp; omega)]
theorem rowB_none (n x : Nat) : rowB noTab n x = List.replicate (n * n) (.bool false) := by
  refine List.ext_getElem? fun i => ?_
  by_cases h : i < n * n
  · simp [rowB, h, noTab]
  · rw [List.getElem?_eq_none (by rw [zcf_]; omega), List.getElem?_eq_none (by simp; omega)]
theorem set_td {α : Type} {xs ys : List α} {i : Nat} {a : α} (h : i < ys.length) (hl : xs.length = ys.length) (ha : xs[i]? = some a) : (xs.take i ++ ys.drop i).set i a = xs.take (i + 1) ++ ys.drop (i + 1) := by
  have hi : i < xs.length := by omega
  obtain rfl : xs[i] = a := by simpa [hi] using ha
  rw [List.take_succ_eq_append_getElem hi, List.set_append_right _ _ (by simp; omega)]
  rw [show i - (xs.take i).length = 0 from by simp; omega, List.drop_eq_getElem_cons h, List.set_cons_zero, List.append_assoc]
  rfl
def tabSt (rs : List RuleL) (ws : List Int) (s : Tab × Bool) : Prop := if s.2 = true then ∀ U, Span rs ws s.1 U → Span rs ws noTab U else Span rs ws noTab s.1
theorem zmm_ {rs : List RuleL} {ws : List Int} {T : Tab} (h : tabSt rs ws (T, true)) : tabSt rs ws (zef_ rs ws (T, false)) := by
  unfold tabSt at h ⊢
  rw [if_pos rfl] at h
  cases hc : (zef_ rs ws (T, false)).2
  · rw [if_neg (by decide)]
    exact h _ (.done hc)
  · rw [if_pos rfl]
    exact fun U hU => h U (.more hc hU)
theorem zah_ {g : Gram} (hg : zv_ g = true) {q : Nat} (hq : q < g.rules.length) : ∀ x ∈ (rul g.rules q).2, x < g.nons ∧ -100 ≤ x := fun x hx => by
  obtain ⟨i, hi, rfl⟩ := List.getElem_of_mem hx
  have := good_symb hg hq hi
  rw [List.getD_eq_getElem?_getD, List.getElem?_eq_getElem hi] at this
  simp only [Option.getD_some] at this
  omega
theorem zwe_ {g : Gram} (hg : zv_ g = true) {q : Nat} (hq : q < g.rules.length) : 0 ≤ (rul g.rules q).1 ∧ (rul g.rules q).1 ≤ g.nons - 1 := by
  simp only [zv_, Bool.and_eq_true, List.all_eq_true] at hg
  have h1 := hg.2 q (List.mem_range.2 hq)
  simp only [zfd_, Bool.and_eq_true, inB, decide_eq_true_eq] at h1
  exact h1.1.1.1
theorem zgi_ {g : Gram} (hg : zv_ g = true) : ∀ r ∈ g.rules, r.1.toNat < 6 := fun r hr => by
  obtain ⟨i, hi, rfl⟩ := List.getElem_of_mem hr
  have := zwe_ hg hi
  have := zed_ hg
  rw [zpc_ hi] at *
  omega
end Go.Sh
namespace Go.Proofs.Ytegcjkhebecgbaa
open Go Go.Sh Go.RowKit
theorem inf4' : Inf Try.prog 4 (.bool false) 1 1 := zmg_ (by kernel_rfl)

theorem l4Table_c {F : Nat → Prop} {w : World} {v : Value} {gm : Gram} {X : Option Addr} {cx n0 : Nat} {ws : List Int} (hv : GramV F w v gm) (hg : zv_ gm = true) (hX : Ints w X ws) (hn : n0 = ws.length) (hl : ws.length ≤ 10) {k : Value → World → Prop}
    (hk : ∀ w' U c nons, Gr w w' → gm.nons = (nons : Nat) → TabS w' U nons (ws.length + 1) (spanT gm.rules ws) → k (.slice U nons c) w') :
    CallK Try.prog 162 [v, .slice X n0 cx] k w := by
  subst hn
  obtain ⟨Y, cy, rfl, hc, hy⟩ := hv
  have hn6 := zed_ hg
  have hr16 := zyc_ hg
  have hleft6 := zgi_ hg
  obtain ⟨nons, hnn⟩ : ∃ n : Nat, gm.nons = n := ⟨gm.nons.toNat, by omega⟩
  refine enter162 ?_
  unfold S162
  have H := Apt.nil w
  refine boxH H fun b1 w1 H => ?_
  rw [hnn] at H
  simp only [go_sem, Nat.reduceEqDiff]
  rw [ldB3 (H.box 0 rfl) rfl]
  rw [zt_ (by omega) (by omega)]
  refine makeH H u134 inf136 (by omega) (by omega) fun b2 w2 H => ?_
  rw [show (Value.slice none 0 0).cells = #[.slice none 0 0] from rfl, zmi_] at H
  have H := H.nilVV 1 4 rfl
  simp only [List.nil_append, List.cons_append, List.set_cons_zero, List.set_cons_succ] at H
  simp only [go_sem, Nat.reduceEqDiff]
  generalize hN : ws.length + 1 = n at *
  have hNi : ((ws.length : Int) + 1) = (n : Int) := by omega
  rw [hNi]
  have hnn11 : n * n ≤ 11 * 11 := Nat.mul_le_mul (by omega) (by omega)
  have hrl : (zwd_ noTab nons n).length = nons := zjd_ _ _ _
  refine ztb_ nons 0 (fun i f w' => i ≤ nons ∧ f 21 = .int .i64 i ∧ ∃ (ps : Nat → Option Addr × Nat), Apt w w' [bx b1 [.int .i64 nons, .int .i64 gm.toks, .slice Y gm.rules.length cy] 26, vvi 136 4 (some ⟨b2, 0, none⟩) nons ((zwd_ noTab nons n).take i ++ (List.replicate nons []).drop i) ps])
    ⟨Nat.zero_le _, rfl, _, by rw [List.take_zero, List.drop_zero, List.nil_append]; exact H⟩ ?_
  rintro i f w3 N hag ⟨hi, h21, ps, H⟩ hN'
  have f20 : f 20 = .int .i64 nons := hag 20 (by decide)
  have f5 : f 5 = .int .i64 n := hag 5 (by decide)
  have f6 : f 6 = .slice (some ⟨b2, 0, none⟩) nons nons := hag 6 (by decide)
  have f2 : f 2 = ptrv b1 := hag 2 (by decide)
  have f1 : f 1 = .slice X ws.length cx := hag 1 (by decide)
  simp only [f20, f5, f6, h21, go_sem, Nat.reduceEqDiff]
  by_cases hlt : i < nons
  · simp only [show (i : Int) < nons from by omega, decide_true, go_sem, Nat.reduceEqDiff]
    rw [show (n : Int) * (n : Int) = ((n * n : Nat) : Int) from by push_cast; rfl, zt_ (by omega) (by omega)]
    refine makeH H (n := n * n) u136 inf4' (by omega) (by omega) fun b3 w4 H => ?_
    rw [show (Value.bool false).cells = #[.bool false] from rfl, zmi_, ← rowB_none n i] at H
    rw [ixn134 (fun _ => rfl) hlt]
    refine setRowVV H 1 2 i (by decide) rfl rfl (by rw [zcf_]) (by decide) sz136 (by simp; omega) fun w5 ps' H => ?_
    have H := H.erase 2
    rw [set_td (by simp; omega) (by simp [hrl]) (by simp [zwd_, hlt])] at H
    rw [zt_ (by omega) (by omega)]
    exact hN' _ _ hlt ⟨hlt, rfl, ps', H⟩
  have hin : i = nons := by omega
  simp only [show ¬ ((i : Int) < nons) from by omega, decide_false, go_sem, Nat.reduceEqDiff]
  rw [hin, List.drop_eq_nil_of_le (by simp), List.append_nil, List.take_of_length_le (by rw [hrl]; exact Nat.le_refl _)] at H
  clear hN' hin h21 hi hlt
  refine zjf_ (fun (s : Tab × Bool) f w' => tabSt gm.rules ws s ∧ f 8 = .bool s.2 ∧ ∃ (ps : Nat → Option Addr × Nat), Apt w w' [bx b1 [.int .i64 nons, .int .i64 gm.toks, .slice Y gm.rules.length cy] 26, vvi 136 4 (some ⟨b2, 0, none⟩) nons (zwd_ s.1 nons n) ps]) (fun s => if s.2 = true then openT s.1 + 1 else 0) (noTab, true)
    ⟨by unfold tabSt; rw [if_pos rfl]; exact fun U h => h, rfl, ps, H⟩ ?_
  rintro ⟨T, more⟩ f7 w6 N2 hag2 ⟨hst, h8, ps, H⟩ hN2
  have f2' : f7 2 = ptrv b1 := (hag2 2 (by decide)).trans f2
  have f6' : f7 6 = .slice (some ⟨b2, 0, none⟩) nons nons := (hag2 6 (by decide)).trans f6
  have f5' : f7 5 = .int .i64 n := (hag2 5 (by decide)).trans f5
  have f1' : f7 1 = .slice X ws.length cx := (hag2 1 (by decide)).trans f1
  simp only [h8, f2', go_sem, Nat.reduceEqDiff]
  cases more
  · simp only [go_sem, Nat.reduceEqDiff]
    rw [f6']
    have hsp : T = spanT gm.rules ws := by
      unfold tabSt at hst
      rw [if_neg Bool.false_ne_true] at hst
      exact hst.eq
    rw [← hsp] at hk
    exact hk _ _ nons _ H.gr hnn ((H.vv 1 rfl).tab (by omega))
  simp only [go_sem, Nat.reduceEqDiff]
  rw [zyb_ (H.box 0 rfl) rfl]
  simp only [go_sem, Nat.reduceEqDiff]
  refine ztb_ gm.rules.length 0 (fun q f w' => q ≤ gm.rules.length ∧ f 36 = .int .i64 q ∧ f 8 = .bool ((gm.rules.take q).foldl (ruleT ws) (T, false)).2 ∧ ∃ (ps : Nat → Option Addr × Nat), Apt w w' [bx b1 [.int .i64 nons, .int .i64 gm.toks, .slice Y gm.rules.length cy] 26, vvi 136 4 (some ⟨b2, 0, none⟩) nons (zwd_ ((gm.rules.take q).foldl (ruleT ws) (T, false)).1 nons n) ps])
    ⟨Nat.zero_le _, rfl, rfl, ps, H⟩ ?_
  rintro q g1 w7 N3 hag3 ⟨hq, h36, h8', ps, H⟩ hN3
  have e34 : g1 34 = .slice Y gm.rules.length cy := hag3 34 (by decide)
  have e35 : g1 35 = .int .i64 gm.rules.length := hag3 35 (by decide)
  have e5 : g1 5 = .int .i64 n := (hag3 5 (by decide)).trans f5'
  have e6 : g1 6 = .slice (some ⟨b2, 0, none⟩) nons nons := (hag3 6 (by decide)).trans f6'
  have e1 : g1 1 = .slice X ws.length cx := (hag3 1 (by decide)).trans f1'
  simp only [e34, e35, h36, go_sem, Nat.reduceEqDiff]
  by_cases hlq : q < gm.rules.length
  case neg =>
    simp only [show ¬ ((q : Int) < gm.rules.length) from by omega, decide_false, go_sem, Nat.reduceEqDiff]
    rw [List.take_of_length_le (by omega)] at h8' H
    have hinc := zrg_ hleft6 hl (T, false)
    refine hN2 (zef_ gm.rules ws (T, false)) _ _ ⟨zmm_ hst, h8', ps, H⟩ ?_
    rw [if_pos rfl]
    rcases hinc with he | ⟨h1, h2⟩
    · rw [he, if_neg Bool.false_ne_true]
      omega
    · rw [if_pos h1]
      dsimp only at h2 ⊢
      omega
  simp only [show ((q : Int) < gm.rules.length) from by omega, decide_true, go_sem, Nat.reduceEqDiff]
  obtain ⟨Z, cz, t1, t2, t3, t4⟩ := hy.row q hlq
  have hleft := zwe_ hg hlq
  have hright := zah_ hg hlq
  have hR4 := zid_ hg q hlq
  generalize hr : rul gm.rules q = r at *
  obtain ⟨xl, hxl⟩ : ∃ x : Nat, r.1 = x := ⟨r.1.toNat, by omega⟩
  rw [hxl] at t1 hleft
  rw [zic_ hy.ptr hlq, zfh_ zhc_ sz33 (cs := [.int .i64 xl, .slice Z r.2.length cz]) rfl (fun j hj => by
    match j, hj with
    | 0, _ => rw [zbc_, Nat.add_zero]; exact H.gr.cell t1
    | 1, _ => rw [zbc_]; exact H.gr.cell t2)]
  refine zkc_ H zxb_ fun b3 w8 H => ?_
  refine zub_ H 2 rfl sz33 rfl rfl rfl fun w9 H => ?_
  simp only [List.nil_append, List.cons_append, List.set_cons_zero, List.set_cons_succ] at H
  generalize hs0 : (gm.rules.take q).foldl (ruleT ws) (T, false) = s0 at *
  refine ztb_ n 0 (fun a f w' => a ≤ n ∧ f 11 = .int .i64 a ∧ f 8 = .bool ((List.range a).foldl (rowT ws r) s0).2 ∧ ∃ (ps : Nat → Option Addr × Nat), Apt w w' [bx b1 [.int .i64 nons, .int .i64 gm.toks, .slice Y gm.rules.length cy] 26, vvi 136 4 (some ⟨b2, 0, none⟩) nons (zwd_ ((List.range a).foldl (rowT ws r) s0).1 nons n) ps, bx b3 [.int .i64 xl, .slice Z r.2.length cz] 33])
    ⟨Nat.zero_le _, rfl, h8', ps, H⟩ ?_
  rintro a g2 w10 N4 hag4 ⟨ha, h11, h8a, ps, H⟩ hN4
  have k5 : g2 5 = .int .i64 n := (hag4 5 (by decide)).trans e5
  have k6 : g2 6 = .slice (some ⟨b2, 0, none⟩) nons nons := (hag4 6 (by decide)).trans e6
  have k1 : g2 1 = .slice X ws.length cx := (hag4 1 (by decide)).trans e1
  have k10 : g2 10 = ptrv b3 := hag4 10 (by decide)
  have k36 : g2 36 = .int .i64 q := (hag4 36 (by decide)).trans h36
  simp only [k5, h11, k36, go_sem, Nat.reduceEqDiff]
  by_cases hla : a < n
  case neg =>
    simp only [show ¬ ((a : Int) < n) from by omega, decide_false, go_sem, Nat.reduceEqDiff]
    rw [zt_ (by omega) (by omega)]
    have han : a = n := by omega
    rw [han] at h8a H
    have hstep : (gm.rules.take (q + 1)).foldl (ruleT ws) (T, false) = (List.range n).foldl (rowT ws r) s0 := by
      rw [zkm_ _ _ _ hlq, hs0, hr, ← hN]
      rfl
    refine hN3 _ _ hlq ⟨hlq, rfl, ?_, ps, ?_⟩
    · rw [hstep]
      exact h8a
    · rw [hstep]
      exact H.take 2
  simp only [show ((a : Int) < n) from by omega, decide_true, go_sem, Nat.reduceEqDiff]
  generalize hs1 : (List.range a).foldl (rowT ws r) s0 = s1 at *
  refine ztb_ n a (fun b f w' => a ≤ b ∧ b ≤ n ∧ f 12 = .int .i64 b ∧ f 8 = .bool ((List.range' a (b - a)).foldl (Sh.stepT ws r a) s1).2 ∧ ∃ (ps : Nat → Option Addr × Nat), Apt w w' [bx b1 [.int .i64 nons, .int .i64 gm.toks, .slice Y gm.rules.length cy] 26, vvi 136 4 (some ⟨b2, 0, none⟩) nons (zwd_ ((List.range' a (b - a)).foldl (Sh.stepT ws r a) s1).1 nons n) ps, bx b3 [.int .i64 xl, .slice Z r.2.length cz] 33])
    ⟨Nat.le_refl _, by omega, rfl, by rw [Nat.sub_self]; exact h8a, ps, by rw [Nat.sub_self]; exact H⟩ ?_
  rintro b g3 w11 N5 hag5 ⟨hb1, hb2, h12, h8b, ps, H⟩ hN5
  have m5 : g3 5 = .int .i64 n := (hag5 5 (by decide)).trans k5
  have m6 : g3 6 = .slice (some ⟨b2, 0, none⟩) nons nons := (hag5 6 (by decide)).trans k6
  have m1 : g3 1 = .slice X ws.length cx := (hag5 1 (by decide)).trans k1
  have m10 : g3 10 = ptrv b3 := (hag5 10 (by decide)).trans k10
  have m11 : g3 11 = .int .i64 a := (hag5 11 (by decide)).trans h11
  simp only [m5, m6, m1, m10, m11, h12, go_sem, Nat.reduceEqDiff]
  by_cases hlb : b < n
  case neg =>
    simp only [show ¬ ((b : Int) < n) from by omega, decide_false, go_sem, Nat.reduceEqDiff]
    rw [zt_ (by omega) (by omega)]
    have hbn : b = n := by omega
    rw [hbn] at h8b H
    have hstep : (List.range (a + 1)).foldl (rowT ws r) s0 = (List.range' a (n - a)).foldl (Sh.stepT ws r a) s1 := by
      rw [zpj_, hs1, ← hN]
      rfl
    refine hN4 _ _ hla ⟨hla, rfl, ?_, ps, ?_⟩
    · rw [hstep]
      exact h8b
    · rw [hstep]
      exact H
  simp only [show ((b : Int) < n) from by omega, decide_true, go_sem, Nat.reduceEqDiff]
  have hstep : (List.range' a (b + 1 - a)).foldl (Sh.stepT ws r a) s1 = Sh.stepT ws r a ((List.range' a (b - a)).foldl (Sh.stepT ws r a) s1) b := by
    rw [show b + 1 - a = b - a + 1 from by omega, zwi_, show a + (b - a) = b from by omega]
  generalize hs2 : (List.range' a (b - a)).foldl (Sh.stepT ws r a) s1 = s2 at *
  have hxn : xl < nons := by omega
  have hab := zwf_ (n := n) (show a < n by omega) hlb
  have hT := (H.vv 1 rfl).tab (by omega)
  have hxr : xl < (zwd_ s2.1 nons n).length := by rw [zjd_]; exact hxn
  have hcell := (H.vv 1 rfl).cell hxr
  have hown := (H.vv 1 rfl).own xl hxr
  rw [zmh_ hxn, zcf_] at hcell hown
  have hR0 : (ps xl).1 = some (ad (ps xl).1) := hown.ptr (by omega)
  have hab' : (a : Int) * (n : Int) = ((a * n : Nat) : Int) := by push_cast; rfl
  have hidx : IntKind.i64.wrap (IntKind.i64.wrap ((a : Int) * (n : Int)) + (b : Int)) = ((a * n + b : Nat) : Int) := by
    rw [hab', zt_ (n := ((a * n : Nat) : Int)) (by omega) (by omega), zt_ (by omega) (by omega)]
    rfl
  rw [hidx, ldB3 (H.box 2 rfl) rfl]
  refine rdi (ixn134 (fun _ => rfl) hxn) (rdi (ld136 hcell) (rdi (ixn136 (fun _ => hR0) hab) (rdi (ld4 (hown.src.cell _ _ (rowB_at hla hlb))) ?_)))
  simp only [go_sem, Nat.reduceEqDiff]
  have hstepT : Sh.stepT ws r a s2 b = if (!s2.1 xl a b && zwc_ s2.1 ws r.2 a b) = true then (s2.1.put xl a b, true) else s2 := by
    unfold Sh.stepT
    rw [hxl, Int.toNat_natCast]
  have stay : Sh.stepT ws r a s2 b = s2 → ∀ f', f' 12 = .int .i64 (b + 1 : Nat) → f' 8 = .bool s2.2 → N5 f' w11 := fun he f' q12 q8 => hN5 f' w11 hlb ⟨by omega, hlb, q12, by rw [hstep, he]; exact q8, ps, by rw [hstep, he]; exact H⟩
  cases hc0 : s2.1 xl a b
  case true =>
    simp only [Bool.not_true, go_sem, Nat.reduceEqDiff]
    rw [zt_ (n := (b : Int) + 1) (by omega) (by omega)]
    exact stay (by rw [hstepT, hc0]; rfl) _ rfl h8b
  simp only [Bool.not_false, go_sem, Nat.reduceEqDiff]
  rw [zpe_ (H.box 2 rfl) rfl]
  rw [← hN] at hT
  refine l4Fits_c hl r.2 hT (hX.gr H.gr) (t4.is.gr H.gr) t3 (fun x hx => by have := hright x hx; omega) hb1 (by omega) ?_
  cases hft : zwc_ s2.1 ws r.2 a b
  · simp only [go_sem, Nat.reduceEqDiff]
    rw [zt_ (n := (b : Int) + 1) (by omega) (by omega)]
    exact stay (by rw [hstepT, hc0, hft]; rfl) _ rfl h8b
  simp only [go_sem, Nat.reduceEqDiff]
  rw [ldB3 (H.box 2 rfl) rfl]
  refine rdi (ixn134 (fun _ => rfl) hxn) (rdi (ld136 hcell) (rdi (ixn136 (fun _ => hR0) hab) ?_))
  refine storeVV H 1 xl (m := a * n + b) rfl (by decide) sz4 rfl rfl hxr (by rw [zmh_ hxn, zcf_]; exact hab) fun w12 H => ?_
  rw [rowsB_put hxn hla hlb] at H
  rw [zt_ (n := (b : Int) + 1) (by omega) (by omega)]
  refine hN5 _ _ hlb ⟨by omega, hlb, rfl, ?_, ps, ?_⟩
  · rw [hstep, hstepT, hc0, hft]
    rfl
  · rw [hstep, hstepT, hc0, hft]
    exact H
theorem l4In_c {F : Nat → Prop} {w : World} {v : Value} {gm : Gram} {X : Option Addr} {cx n0 : Nat} {ws : List Int} (hv : GramV F w v gm) (hg : zv_ gm = true) (hX : Ints w X ws) (hn : n0 = ws.length) (hl : ws.length ≤ 10) {k : Value → World → Prop}
    (hk : ∀ w', Gr w w' → k (.bool (inL gm.rules ws)) w') : CallK Try.prog 153 [v, .int .i64 0, .slice X n0 cx] k w := by
  subst hn
  obtain ⟨Y, cy, rfl, hc, hy⟩ := hv
  have hn6 := zed_ hg
  refine enter153 ?_
  unfold S153
  have H := Apt.nil w
  refine boxH H fun b1 w1 H => ?_
  rw [zj_ zu_ sz26 rfl (H.box 0 rfl)]
  refine l4Table_c (gm := gm) ⟨Y, cy, rfl, hc, hy.gr H.gr⟩ hg (hX.gr H.gr) rfl hl fun w2 U c nons g2 hnn hT => ?_
  have hns : 0 < nons := by omega
  obtain ⟨R, cr, h1, h2, h3⟩ := hT.row 0 hns
  have := h3 0 ws.length (by omega) (by omega)
  rw [Nat.zero_mul, Nat.zero_add] at this
  rw [ix134_0 hT.ptr hns, ld136 h1]
  simp only [go_sem, Nat.reduceEqDiff]
  rw [ixn136 (fun _ => h2) (Nat.lt_of_lt_of_le (Nat.lt_succ_self _) (Nat.le_mul_of_pos_left _ (by omega))), ld4 this]
  exact hk _ (zd_ H.gr g2)
end Go.Proofs.Ytegcjkhebecgbaa

namespace Go.Sh
open Go
theorem zpm_ (n : Nat) (v : Value) : (List.range n).map (fun _ => v) = List.replicate n v := by
  rw [List.map_const', List.length_range]
theorem cellsT_none : zbd_ noTab = List.replicate 726 (.bool false) := zpm_ 726 (.bool false)
theorem fill_one {place : Nat → Option (Nat × Nat)} {cells : Array Value} {v : Value} (hp : place 0 = some (0, 1)) (hv : v.cells = #[v]) (h0 : 0 < cells.size) : Instr.fill place cells [(0, v)] = some (cells.setIfInBounds 0 v) := by
  simp only [Instr.fill, hp, hv]
  have e : (decide ((#[v] : Array Value).size ≠ 1) || decide (0 + (#[v] : Array Value).size > cells.size)) = false := by
    rw [Bool.or_eq_false_iff]
    exact ⟨by simp, decide_eq_false (by show ¬ (0 + 1 > cells.size); omega)⟩
  rw [if_neg (by rw [e]; exact Bool.false_ne_true)]
  simp
theorem set_head {a v : Value} {R : Array Value} : (#[a] ++ R).setIfInBounds 0 v = #[v] ++ R := by
  apply Array.ext'
  simp
theorem agg_pos (v : Value) (R : Array Value) : 0 < (Value.agg (#[v] ++ R)).cells.size := by
  show 0 < (#[v] ++ R).size
  simp
  omega
theorem agg_list (v : Value) (R : Array Value) : (Value.agg (#[v] ++ R)).cells.toList = v :: R.toList := by
  show (#[v] ++ R).toList = _
  simp
theorem rep_list (n : Nat) (v : Value) : (Array.replicate n v).toList = List.replicate n v := Array.toList_replicate
end Go.Sh
namespace Go.Proofs.Ytegcjkhebecgbaa
open Go Go.Sh Go.RowKit
theorem inf124' : Inf Try.prog 124 (.agg (#[.slice none 0 0] ++ Array.replicate 726 (.bool false))) 727 752 := zmg_ (by kernel_rfl)
theorem sz122' : szOf Try.prog 122 726 := zbe_ (by kernel_rfl)
theorem bd124 (X : Option Addr) (n c : Nat) : ∃ z : Value, (∀ (S : WS) (k : Value → Prop), Rd Try.prog S (zy_ 124 [(0, .slice X n c)]) k = k z) ∧ z.cells.toList = .slice X n c :: zbd_ noTab := by
  refine ⟨.agg (#[.slice X n c] ++ Array.replicate 726 (.bool false)), fun S k => ?_, ?_⟩
  · refine rd_buildN (ps := [(0, 1), (1, 726)]) Try.underlying124 inf124' ⟨⟨rfl, sz27⟩, ⟨rfl, sz122'⟩, trivial⟩ ((fill_one rfl rfl ?_).trans (congrArg some set_head))
    exact agg_pos _ _
  · rw [agg_list, cellsT_none]
    exact congrArg _ (rep_list _ _)

theorem spans_c {F : Nat → Prop} {w : World} {v : Value} {gm : Gram} {X : Option Addr} {cx n0 : Nat} {ws : List Int} (hv : GramV F w v gm) (hg : zv_ gm = true) (hX : Ints w X ws) (hn : n0 = ws.length) (hl : ws.length ≤ 10) (hw : ∀ t ∈ ws, 0 ≤ t ∧ t ≤ 100) {k : Value → World → Prop}
    (hk : ∀ w' b, Apt w w' [bx b (.slice X ws.length cx :: zbd_ (spanT gm.rules ws)) 124] → k (ptrv b) w') :
    CallK Try.prog 151 [v, .slice X n0 cx] k w := by
  subst hn
  obtain ⟨Y, cy, rfl, hc, hy⟩ := hv
  have hn6 := zed_ hg
  have hr16 := zyc_ hg
  have hleft6 := zgi_ hg
  refine enter151 ?_
  unfold S151
  have H := Apt.nil w
  refine boxH H fun b1 w1 H => ?_
  obtain ⟨z, hz1, hz2⟩ := bd124 X ws.length cx
  refine rdi (hz1 _ _) ?_
  refine boxH H fun b2 w2 H => ?_
  rw [hz2] at H
  simp only [List.nil_append, List.cons_append] at H
  refine zjf_ (fun (s : Tab × Bool) f w' => tabSt gm.rules ws s ∧ f 6 = .bool s.2 ∧ Apt w w' [bx b1 [.int .i64 gm.nons, .int .i64 gm.toks, .slice Y gm.rules.length cy] 26, bx b2 (.slice X ws.length cx :: zbd_ s.1) 124]) (fun s => if s.2 = true then openT s.1 + 1 else 0) (noTab, true)
    ⟨by unfold tabSt; rw [if_pos rfl]; exact fun U h => h, rfl, H⟩ ?_
  rintro ⟨T, more⟩ f7 w6 N2 hag2 ⟨hst, h8, H⟩ hN2
  have f2' : f7 2 = ptrv b1 := hag2 2 (by decide)
  have f5' : f7 5 = ptrv b2 := hag2 5 (by decide)
  have f1' : f7 1 = .slice X ws.length cx := hag2 1 (by decide)
  simp only [h8, f2', go_sem, Nat.reduceEqDiff]
  cases more
  · simp only [go_sem, Nat.reduceEqDiff]
    rw [f5']
    have hsp : T = spanT gm.rules ws := by
      unfold tabSt at hst
      rw [if_neg Bool.false_ne_true] at hst
      exact hst.eq
    rw [← hsp] at hk
    exact hk _ b2 (H.erase 0)
  simp only [go_sem, Nat.reduceEqDiff]
  rw [zyb_ (H.box 0 rfl) rfl]
  simp only [go_sem, Nat.reduceEqDiff]
  refine ztb_ gm.rules.length 0 (fun q f w' => q ≤ gm.rules.length ∧ f 18 = .int .i64 q ∧ f 6 = .bool ((gm.rules.take q).foldl (ruleT ws) (T, false)).2 ∧ Apt w w' [bx b1 [.int .i64 gm.nons, .int .i64 gm.toks, .slice Y gm.rules.length cy] 26, bx b2 (.slice X ws.length cx :: zbd_ ((gm.rules.take q).foldl (ruleT ws) (T, false)).1) 124])
    ⟨Nat.zero_le _, rfl, rfl, H⟩ ?_
  rintro q g1 w7 N3 hag3 ⟨hq, h36, h8', H⟩ hN3
  have e34 : g1 16 = .slice Y gm.rules.length cy := hag3 16 (by decide)
  have e35 : g1 17 = .int .i64 gm.rules.length := hag3 17 (by decide)
  have e5 : g1 5 = ptrv b2 := (hag3 5 (by decide)).trans f5'
  have e1 : g1 1 = .slice X ws.length cx := (hag3 1 (by decide)).trans f1'
  simp only [e34, e35, e1, h36, go_sem, Nat.reduceEqDiff]
  by_cases hlq : q < gm.rules.length
  case neg =>
    simp only [show ¬ ((q : Int) < gm.rules.length) from by omega, decide_false, go_sem, Nat.reduceEqDiff]
    rw [List.take_of_length_le (by omega)] at h8' H
    have hinc := zrg_ hleft6 hl (T, false)
    refine hN2 (zef_ gm.rules ws (T, false)) _ _ ⟨zmm_ hst, h8', H⟩ ?_
    rw [if_pos rfl]
    rcases hinc with he | ⟨h1, h2⟩
    · rw [he, if_neg Bool.false_ne_true]
      omega
    · rw [if_pos h1]
      dsimp only at h2 ⊢
      omega
  simp only [show ((q : Int) < gm.rules.length) from by omega, decide_true, go_sem, Nat.reduceEqDiff]
  obtain ⟨Z, cz, t1, t2, t3, t4⟩ := hy.row q hlq
  have hleft := zwe_ hg hlq
  have hright := zah_ hg hlq
  have hR4 := zid_ hg q hlq
  generalize hr : rul gm.rules q = r at *
  obtain ⟨xl, hxl⟩ : ∃ x : Nat, r.1 = x := ⟨r.1.toNat, by omega⟩
  rw [hxl] at t1 hleft
  rw [zic_ hy.ptr hlq, zfh_ zhc_ sz33 (cs := [.int .i64 xl, .slice Z r.2.length cz]) rfl (fun j hj => by
    match j, hj with
    | 0, _ => rw [zbc_, Nat.add_zero]; exact H.gr.cell t1
    | 1, _ => rw [zbc_]; exact H.gr.cell t2)]
  refine zkc_ H zxb_ fun b3 w8 H => ?_
  refine zub_ H 2 rfl sz33 rfl rfl rfl fun w9 H => ?_
  simp only [List.nil_append, List.cons_append, List.set_cons_zero, List.set_cons_succ] at H
  generalize hN : ws.length + 1 = n at *
  have hNi : ((ws.length : Int) + 1) = (n : Int) := by omega
  rw [hNi, zt_ (n := (n : Int)) (by omega) (by omega)]
  generalize hs0 : (gm.rules.take q).foldl (ruleT ws) (T, false) = s0 at *
  refine ztb_ n 0 (fun a f w' => a ≤ n ∧ f 25 = .int .i64 a ∧ f 6 = .bool ((List.range a).foldl (rowT ws r) s0).2 ∧ Apt w w' [bx b1 [.int .i64 gm.nons, .int .i64 gm.toks, .slice Y gm.rules.length cy] 26, bx b2 (.slice X ws.length cx :: zbd_ ((List.range a).foldl (rowT ws r) s0).1) 124, bx b3 [.int .i64 xl, .slice Z r.2.length cz] 33])
    ⟨Nat.zero_le _, rfl, h8', H⟩ ?_
  rintro a g2 w10 N4 hag4 ⟨ha, h11, h8a, H⟩ hN4
  have k24 : g2 24 = .int .i64 n := hag4 24 (by decide)
  have k5 : g2 5 = ptrv b2 := (hag4 5 (by decide)).trans e5
  have k1 : g2 1 = .slice X ws.length cx := (hag4 1 (by decide)).trans e1
  have k8 : g2 8 = ptrv b3 := hag4 8 (by decide)
  have k18 : g2 18 = .int .i64 q := (hag4 18 (by decide)).trans h36
  simp only [k24, h11, k18, go_sem, Nat.reduceEqDiff]
  by_cases hla : a < n
  case neg =>
    simp only [show ¬ ((a : Int) < n) from by omega, decide_false, go_sem, Nat.reduceEqDiff]
    rw [zt_ (by omega) (by omega)]
    have han : a = n := by omega
    rw [han] at h8a H
    have hstep : (gm.rules.take (q + 1)).foldl (ruleT ws) (T, false) = (List.range n).foldl (rowT ws r) s0 := by
      rw [zkm_ _ _ _ hlq, hs0, hr, ← hN]
      rfl
    refine hN3 _ _ hlq ⟨hlq, rfl, ?_, ?_⟩
    · rw [hstep]
      exact h8a
    · rw [hstep]
      exact H.take 2
  simp only [show ((a : Int) < n) from by omega, decide_true, go_sem, Nat.reduceEqDiff]
  generalize hs1 : (List.range a).foldl (rowT ws r) s0 = s1 at *
  refine ztb_ n a (fun b f w' => a ≤ b ∧ b ≤ n ∧ f 10 = .int .i64 b ∧ f 6 = .bool ((List.range' a (b - a)).foldl (Sh.stepT ws r a) s1).2 ∧ Apt w w' [bx b1 [.int .i64 gm.nons, .int .i64 gm.toks, .slice Y gm.rules.length cy] 26, bx b2 (.slice X ws.length cx :: zbd_ ((List.range' a (b - a)).foldl (Sh.stepT ws r a) s1).1) 124, bx b3 [.int .i64 xl, .slice Z r.2.length cz] 33])
    ⟨Nat.le_refl _, by omega, rfl, by rw [Nat.sub_self]; exact h8a, by rw [Nat.sub_self]; exact H⟩ ?_
  rintro b g3 w11 N5 hag5 ⟨hb1, hb2, h12, h8b, H⟩ hN5
  have m5 : g3 5 = ptrv b2 := (hag5 5 (by decide)).trans k5
  have m1 : g3 1 = .slice X ws.length cx := (hag5 1 (by decide)).trans k1
  have m8 : g3 8 = ptrv b3 := (hag5 8 (by decide)).trans k8
  have m9 : g3 9 = .int .i64 a := hag5 9 (by decide)
  have m25 : g3 25 = .int .i64 a := (hag5 25 (by decide)).trans h11
  simp only [m5, m1, m8, m9, m25, h12, go_sem, Nat.reduceEqDiff]
  by_cases hlb : b < n
  case neg =>
    simp only [show ¬ ((b : Int) ≤ ws.length) from by omega, decide_false, go_sem, Nat.reduceEqDiff]
    rw [zt_ (by omega) (by omega)]
    have hbn : b = n := by omega
    rw [hbn] at h8b H
    have hstep : (List.range (a + 1)).foldl (rowT ws r) s0 = (List.range' a (n - a)).foldl (Sh.stepT ws r a) s1 := by
      rw [zpj_, hs1, ← hN]
      rfl
    refine hN4 _ _ hla ⟨hla, rfl, ?_, ?_⟩
    · rw [hstep]
      exact h8b
    · rw [hstep]
      exact H
  simp only [show ((b : Int) ≤ ws.length) from by omega, decide_true, go_sem, Nat.reduceEqDiff]
  have hstep : (List.range' a (b + 1 - a)).foldl (Sh.stepT ws r a) s1 = Sh.stepT ws r a ((List.range' a (b - a)).foldl (Sh.stepT ws r a) s1) b := by
    rw [show b + 1 - a = b - a + 1 from by omega, zwi_, show a + (b - a) = b from by omega]
  generalize hs2 : (List.range' a (b - a)).foldl (Sh.stepT ws r a) s1 = s2 at *
  have hxn : xl < 6 := by omega
  have hstepT : Sh.stepT ws r a s2 b = if (!s2.1 xl a b && zwc_ s2.1 ws r.2 a b) = true then (s2.1.put xl a b, true) else s2 := by
    unfold Sh.stepT
    rw [hxl, Int.toNat_natCast]
  have H := H.drew
  have stay : Sh.stepT ws r a s2 b = s2 → ∀ f', f' 10 = .int .i64 (b + 1 : Nat) → f' 6 = .bool s2.2 → N5 f' w11.drew := fun he f' q12 q8 => hN5 f' w11.drew hlb ⟨by omega, hlb, q12, by rw [hstep, he]; exact q8, by rw [hstep, he]; exact H⟩
  rw [ldB3 (H.box 2 rfl) rfl]
  rw [ixa122 (by omega) (by omega), ixa121 (by omega) (by omega), ixa120 (by omega) (by omega)]
  simp only [Int.toNat_natCast, go_sem, Nat.reduceEqDiff]
  have hoff : 0 + 1 + xl * 121 + a * 11 + b = xl * 121 + a * 11 + b + 1 := by omega
  rw [hoff, ldB4 (H.box 1 rfl) (zxi_ hxn (by omega) (by omega))]
  simp only [go_sem, Nat.reduceEqDiff]
  cases hc0 : s2.1 xl a b
  case true =>
    simp only [Bool.not_true, go_sem, Nat.reduceEqDiff]
    rw [zt_ (n := (b : Int) + 1) (by omega) (by omega)]
    exact stay (by rw [hstepT, hc0]; rfl) _ rfl h8b
  simp only [Bool.not_false, go_sem, Nat.reduceEqDiff]
  rw [zpe_ (H.box 2 rfl) rfl]
  refine sequence_c hl hw r.2 (H.box 1 rfl) (hX.gr H.gr) (t4.is.gr H.gr) t3 (fun x hx => by have := hright x hx; omega) hb1 (by omega) ?_
  cases hft : zwc_ s2.1 ws r.2 a b
  · simp only [go_sem, Nat.reduceEqDiff]
    rw [zt_ (n := (b : Int) + 1) (by omega) (by omega)]
    exact stay (by rw [hstepT, hc0, hft]; rfl) _ rfl h8b
  simp only [go_sem, Nat.reduceEqDiff]
  have H := H.drew
  rw [ldB3 (H.box 2 rfl) rfl]
  rw [ixa122 (by omega) (by omega), ixa121 (by omega) (by omega), ixa120 (by omega) (by omega)]
  simp only [Int.toNat_natCast, go_sem, Nat.reduceEqDiff]
  rw [hoff]
  refine zub_ H 1 rfl sz4 rfl rfl (by rw [Nat.ble_eq, List.length_cons, zxg_]; omega) fun w12 H => ?_
  have hset : List.take (xl * 121 + a * 11 + b + 1) (.slice X ws.length cx :: zbd_ s2.1) ++ (Value.bool true).cells.toList ++ List.drop (xl * 121 + a * 11 + b + 1 + 1) (.slice X ws.length cx :: zbd_ s2.1) = .slice X ws.length cx :: zbd_ (s2.1.put xl a b) := by
    rw [show (Value.bool true).cells.toList = [.bool true] from rfl, zfr_ (by rw [List.length_cons, zxg_]; omega)]
    exact cellsT_put hxn (by omega) (by omega)
  rw [hset] at H
  rw [zt_ (n := (b : Int) + 1) (by omega) (by omega)]
  refine hN5 _ _ hlb ⟨by omega, hlb, rfl, ?_, ?_⟩
  · rw [hstep, hstepT, hc0, hft]
    rfl
  · rw [hstep, hstepT, hc0, hft]
    exact H
end Go.Proofs.Ytegcjkhebecgbaa

namespace Go.Sh
open Go
end Go.Sh
namespace Go.Proofs.Ytegcjkhebecgbaa
open Go Go.Sh Go.RowKit


end Go.Proofs.Ytegcjkhebecgbaa

namespace Go.Sh
open Go
def zxd_ (toks : Int) (ws : List Int) : Bool := decide (ws.length ≤ 10) && allB ws 0 (toks - 1)
end Go.Sh
namespace Go.Proofs.Ytegcjkhebecgbaa
open Go Go.Sh Go.RowKit

theorem l1Word_c {F : Nat → Prop} {w : World} {v : Value} {gm : Gram} {X : Option Addr} {n cx : Nat} {ws : List Int} (hv : GramV F w v gm) (hg : zv_ gm = true) (hX : Ints w X ws) (hn : n = ws.length) {k : Value → World → Prop} (hk : ∀ w', Gr w w' → k (.bool (zxd_ gm.toks ws)) w') :
    CallK Try.prog 240 [v, .slice X n cx] k w := by
  subst hn
  obtain ⟨Y, cy, rfl, hc, hy⟩ := hv
  have ht := zve_ hg
  refine enter240 ?_
  unfold S240
  have H := Apt.nil w
  refine boxH H fun b1 w1 H => ?_
  simp only [go_sem, Nat.reduceEqDiff]
  unfold zxd_ at hk
  by_cases hl : ws.length ≤ 10
  case neg =>
    simp only [show ¬ ((ws.length : Int) ≤ 10) from by omega, decide_false, go_sem, Nat.reduceEqDiff]
    simpa only [hl, decide_false, Bool.false_and] using hk _ H.gr
  simp only [show ((ws.length : Int) ≤ 10) from by omega, decide_true, go_sem, Nat.reduceEqDiff]
  rw [ldB3 (H.box 0 rfl) rfl]
  simp only [go_sem, Nat.reduceEqDiff]
  rw [zt_ (by omega) (by omega)]
  refine l1All_c (hX.gr H.gr) fun w2 g2 => ?_
  have H := H.step g2
  simpa only [hl, decide_true, Bool.true_and] using hk _ H.gr
theorem goodWord_c {F : Nat → Prop} {w : World} {v : Value} {gm : Gram} {X : Option Addr} {n cx : Nat} {ws : List Int} (hv : GramV F w v gm) (hX : Ints w X ws) (hn : n = ws.length) {k : Value → World → Prop} (hk : ∀ w', Gr w w' → k (.bool (zv_ gm && zxd_ gm.toks ws)) w') :
    CallK Try.prog 128 [v, .slice X n cx] k w := by
  subst hn
  obtain ⟨Y, cy, rfl, hc, hy⟩ := hv
  refine enter128 ?_
  unfold S128
  have H := Apt.nil w
  refine boxH H fun b1 w1 H => ?_
  rw [zj_ zu_ sz26 rfl (H.box 0 rfl)]
  refine zdd_ (gm := gm) ⟨Y, cy, rfl, hc, hy.gr H.gr⟩ fun w2 g2 => ?_
  have H := H.step g2
  cases hg : zv_ gm
  · simp only [go_sem, Nat.reduceEqDiff]
    simpa only [hg, Bool.false_and] using hk _ H.gr
  simp only [go_sem, Nat.reduceEqDiff]
  rw [zj_ zu_ sz26 rfl (H.box 0 rfl)]
  refine l1Word_c (gm := gm) ⟨Y, cy, rfl, hc, hy.gr H.gr⟩ hg (hX.gr H.gr) rfl fun w3 g3 => ?_
  have H := H.step g3
  simpa only [hg, Bool.true_and] using hk _ H.gr
theorem isWord1_c {x toks : Int} {w : World} {b t : Nat} (hB : Box w b [.int .i64 toks] t) (h1 : 1 ≤ toks) (h4 : toks ≤ 4) {k : Value → World → Prop} (hk : k (.bool (!inB x 0 (toks - 1))) w) : CallK Try.prog 251 [.int .i64 x, ptrv b] k w := by
  refine enter251 ?_
  unfold S251
  rw [ldB3 hB rfl]
  simp only [go_sem, Nat.reduceEqDiff]
  rw [zt_ (by omega) (by omega)]
  refine in_c ?_
  simp only [go_sem, Nat.reduceEqDiff]
  exact hk
theorem isWord_c {w : World} {X : Option Addr} {n cx : Nat} {toks : Int} {ws : List Int} (hX : Ints w X ws) (hn : n = ws.length) (h1 : 1 ≤ toks) (h4 : toks ≤ 4) {k : Value → World → Prop} (hk : ∀ w', Gr w w' → k (.bool (zxd_ toks ws)) w') :
    CallK Try.prog 150 [.int .i64 toks, .slice X n cx] k w := by
  subst hn
  refine enter150 ?_
  unfold S150
  have H := Apt.nil w
  refine boxH H fun b1 w1 H => ?_
  simp only [go_sem, Nat.reduceEqDiff]
  unfold zxd_ at hk
  by_cases hl : ws.length ≤ 10
  case neg =>
    simp only [show ¬ ((ws.length : Int) ≤ 10) from by omega, decide_false, go_sem, Nat.reduceEqDiff]
    simpa only [hl, decide_false, Bool.false_and] using hk _ H.gr
  simp only [show ((ws.length : Int) ≤ 10) from by omega, decide_true, go_sem, Nat.reduceEqDiff]
  have hb : Box w1 b1 [.int .i64 toks] 3 := H.box 0 rfl
  have hp : Pred 4 (.func (.func 251) [].toArray [ptrv b1].toArray) (fun x => !inB x 0 (toks - 1)) w1 := fun w3 g3 x k hk =>
    callVc (isWord1_c (hb.gr g3) h1 h4 (hk w3 (Gr.refl w3)))
  refine zai_ (hX.gr H.gr) hp fun w3 g3 => ?_
  have H := H.step g3
  simp only [go_sem, Nat.reduceEqDiff]
  have := hk _ H.gr
  simp only [hl, decide_true, Bool.true_and] at this
  rwa [show allB ws 0 (toks - 1) = !ws.any (fun x => !inB x 0 (toks - 1)) from by simp [allB, List.not_any_eq_all_not]] at this
end Go.Proofs.Ytegcjkhebecgbaa

namespace Go.Sh
open Go
theorem Apt.emptySS {w0 w : World} {L : List Thing} (H : Apt w0 w L) (i : Nat) {e1 e2 c : Nat} {X : Option Addr} (ps : Nat → Option Addr × Nat) (hi : L[i]? = some (rwi e1 1 X 0 c [])) : Apt w0 w (L.set i (Sh.lssi e1 e2 X c [] ps)) := by
  have hr := H.row i hi
  have o : OwnSS e1 e2 w w0.heap.size X c [] ps := ⟨⟨[], hr, fun j hj => by simp at hj⟩, fun j hj => by simp at hj, fun i j hi => by simp at hi⟩
  refine H.set hi (Gx.refl _ w) (fun q hq => ?_) (fun q hq => (o.foot hq).2) (zkh_ o)
  rcases hq with hq | ⟨l, hl, _⟩
  · exact .inl hq
  · simp at hl
end Go.Sh
namespace Go.Proofs.Ytegcjkhebecgbaa
open Go Go.Sh Go.RowKit

open Go Go.Sh

def pl24 : Plans := fun _ => ⟨false, [], .nil⟩
def S24 (v0 v1 : Value) (k : Value → World → Prop) (w : World) : Prop :=
 Do Try.prog (sBox 26 v0) (fun t1 w2 =>
 Rd Try.prog (WS.at w2) (zc_ 26 t1) fun t3 =>
 CallK Try.prog 127 [t3] (fun t4 w5 =>
 Rd Try.prog (WS.at w5) (sUn .not t4) fun t6 =>
 zb_ t6 false (fun k w' => k v1 w') (fun t7 w8 =>
 zb_ t6 false (fun k w' => CallK Try.prog 152 [t7, (.int .i64 0), (.int .i64 4)] k w') (fun t9 w10 =>
 zb_ t6 false (fun k w' => Rd Try.prog (WS.at w10) (sUn .not t9) fun v => k v w') (fun t11 w12 =>
 Rd Try.prog (WS.at w12) (zeb_ t6 (.bool true) t11) fun t13 =>
 zm_ t13
  (k (.tuple #[(.slice none 0 0), (.bool false)]) w12)
  (Do Try.prog (zh_ 35 1 [(0, (.slice none 0 0))]) (fun t14 w15 =>
  zrb_ [22, 23, 24, 9, 27, 28, 29, 30, 31, 32, 11, 33, 34, 35, 36, 37, 38, 39, 40, 6, 12, 41, 42, 43, 44, 47, 48, 49, 50, 51, 52, 53, 54, 9, 45, 46, 12, 55, 29, 56, 7, 25, 26, 8] (fun Q16 f17 w18 =>
   Rd Try.prog (WS.at w18) (sBin .leq 3 false (f17 8) (f17 1)) fun t19 =>
   zm_ t19
    (Rd Try.prog (WS.at w18) (ze_ .len #[35] 3 [false] [(f17 7)]) fun t20 =>
    zrb_ [30, 31, 32, 11, 33, 34, 35, 36, 37, 38, 39, 40, 6, 12, 41, 42, 43, 44, 47, 48, 49, 50, 51, 52, 53, 54, 9, 45, 46, 12, 55, 29] (fun Q21 f22 w23 =>
     Rd Try.prog (WS.at w23) (sBin .lss 3 false (f22 29) (f22 28)) fun t24 =>
     zm_ t24
      (Join (fun K25 =>
      Rd Try.prog (WS.at w23) (zf_ 35 (f22 27) (f22 29)) fun t28 =>
      Rd Try.prog (WS.at w23) (zc_ 27 t28) fun t29 =>
      Join (fun K30 =>
      Rd Try.prog (WS.at w23) (zc_ 26 (f22 2)) fun t33 =>
      CallK Try.prog 153 [t33, (.int .i64 0), t29] (fun t34 w35 =>
      zm_ t34
       (CallK Try.prog 158 [t29] (fun t36 w37 =>
       Do Try.prog (zh_ 35 1 [(0, t36)]) (fun t38 w39 =>
       Do Try.prog (ze_ .append #[35, 35] 35 [false, false] [(f22 6), t38]) (fun t40 w41 =>
       K30 (F.upd (F.upd (F.upd (F.upd (F.upd (F.upd (F.upd (F.upd (F.upd (F.upd (F.upd (F.upd (F.upd f22 30 t24) 31 t28) 32 t29) 11 t29) 33 t33) 34 t29) 35 t34) 36 (f22 6)) 37 t29) 38 t36) 39 t38) 40 t40) 6 t40) w41) w39) w37) w35)
       (K30 (F.upd (F.upd (F.upd (F.upd (F.upd (F.upd (F.upd f22 30 t24) 31 t28) 32 t29) 11 t29) 33 t33) 34 t29) 35 t34) w35)) w23) (fun f31 w32 =>
      zrb_ [41, 42, 43, 44, 47, 48, 49, 50, 51, 52, 53, 54, 9, 45, 46, 12] (fun Q42 f43 w44 =>
       Rd Try.prog (WS.at w44) (za_ 26 (f43 2) 1) fun t45 =>
       Rd Try.prog (WS.at w44) (zc_ 3 t45) fun t46 =>
       Rd Try.prog (WS.at w44) (sBin .lss 3 false (f43 12) t46) fun t47 =>
       zm_ t47
        (CallK Try.prog 158 [(f43 11)] (fun t48 w49 =>
        Do Try.prog (zh_ 27 1 [(0, (f43 12))]) (fun t50 w51 =>
        Do Try.prog (ze_ .append #[27, 27] 27 [false, false] [t48, t50]) (fun t52 w53 =>
        Do Try.prog (zh_ 35 1 [(0, t52)]) (fun t54 w55 =>
        Do Try.prog (ze_ .append #[35, 35] 35 [false, false] [(f43 9), t54]) (fun t56 w57 =>
        Rd Try.prog (WS.at w57) (sBin .add 3 true (f43 12) (.int .i64 1)) fun t58 =>
        Q42 .normal (F.upd (F.upd (F.upd (F.upd (F.upd (F.upd (F.upd (F.upd (F.upd (F.upd (F.upd (F.upd (F.upd (F.upd (F.upd (F.upd f43 41 (f43 12)) 42 t45) 43 t46) 44 t47) 47 (f43 9)) 48 (f43 11)) 49 t48) 50 (f43 12)) 51 t50) 52 t52) 53 t54) 54 t56) 9 t56) 45 (f43 12)) 46 t58) 12 t58) w57) w55) w53) w51) w49) w44)
        (Q42 (.exit 4) (F.upd (F.upd (F.upd (F.upd f43 41 (f43 12)) 42 t45) 43 t46) 44 t47) w44))
       (zx_ 4 (zx_ 3 (seqQ K25 Q21)))
       (F.upd f31 12 (.int .i64 0)) w32)) (fun f26 w27 =>
      Rd Try.prog (WS.at w27) (sBin .add 3 true (f26 29) (.int .i64 1)) fun t61 =>
      Q21 .normal (F.upd (F.upd f26 55 t61) 29 t61) w27))
      (Q21 (.exit 2) (F.upd f22 30 t24) w23))
     (zx_ 2 (seqQ (fun f62 w63 =>
    Rd Try.prog (WS.at w63) (sBin .add 3 true (f62 8) (.int .i64 1)) fun t64 =>
    Q16 .normal (F.upd (F.upd (F.upd (F.upd (F.upd f62 56 (f62 9)) 7 (f62 9)) 25 (f62 8)) 26 t64) 8 t64) w63) (zx_ 1 (seqQ (fun f65 w66 =>
    Rd Try.prog (WS.at w66) (sBin .add 3 true (f65 8) (.int .i64 1)) fun t67 =>
    Q16 .normal (F.upd (F.upd (F.upd f65 25 (f65 8)) 26 t67) 8 t67) w66) Q16))))
     (F.upd (F.upd (F.upd (F.upd (F.upd (F.upd (F.upd f17 22 (f17 8)) 23 (f17 1)) 24 t19) 9 (.slice none 0 0)) 27 (f17 7)) 28 t20) 29 (.int .i64 0)) w18)
    (Q16 (.exit 0) (F.upd (F.upd (F.upd f17 22 (f17 8)) 23 (f17 1)) 24 t19) w18))
   (zx_ 0 (seqQ (fun f68 w69 =>
  k (.tuple #[(f68 6), (.bool true)]) w69) (zr_ Try.prog [.tmp 4, .tmp 5] k)))
   (F.upd (F.upd (F.upd (F.upd (F.upd (F.upd (F.upd (F.upd (F.upd (F.upd (F.upd (F.upd (F.upd (F.upd (F.upd (zp_ [v0, v1]) 2 t1) 4 (.slice none 0 0)) 5 (.bool false)) 13 t3) 14 t4) 15 t6) 16 t6) 17 t7) 18 t9) 19 t11) 20 t13) 6 (.slice none 0 0)) 21 t14) 7 t14) 8 (.int .i64 0)) w15) w12)) w10) w8) w5) w2) w
theorem body24 : Try.f24.body = some (zg_ Try.f24) := by kernel_rfl
theorem same24 (v0 v1 : Value) (k : Value → World → Prop) (w : World) : wpF Try.prog pl24 (zg_ Try.f24) (zr_ Try.prog Try.f24.results.toList k) (zp_ [v0, v1]) w = S24 v0 v1 k w := by kernel_rfl
theorem enter24 {v0 v1 : Value} {k : Value → World → Prop} {w : World} (h : S24 v0 v1 k w) : CallK Try.prog 24 [v0, v1] k w :=
  call_of_wpF (pl := pl24) mixed Try.func24 body24 (by kernel_rfl) (of_decide_eq_true (by kernel_rfl)) (by kernel_rfl) (by kernel_rfl) (Eq.mpr (same24 v0 v1 k w) h)

end Go.Proofs.Ytegcjkhebecgbaa

namespace Go.Sh
open Go
def extW (toks : Nat) (w : List Int) : List (List Int) := (List.range toks).map fun (t : Nat) => w ++ [(t : Int)]
def zde_ (toks : Nat) : Nat → List (List Int)
  | 0 => [[]]
  | n + 1 => (zde_ toks n).flatMap (extW toks)
noncomputable def shortW (gm : Gram) (n : Nat) : List (List Int) := (List.range n).flatMap fun m => (zde_ gm.toks.toNat m).filter (inL gm.rules)
noncomputable def shortV (gm : Gram) (most : Int) : List (List Int) × Bool := if (zv_ gm && inB most 0 4) = true then (shortW gm (most.toNat + 1), true) else ([], false)
theorem zrj_ {α β : Type} {f : α → List β} {k : Nat} : ∀ {l : List α}, (∀ a ∈ l, (f a).length = k) → (l.flatMap f).length = l.length * k := by
  intro l
  induction l with
  | nil => intro _; simp
  | cons a l ih =>
    intro h
    rw [List.flatMap_cons, List.length_append, h a (List.mem_cons_self ..), ih fun b hb => h b (List.mem_cons_of_mem _ hb), List.length_cons, Nat.succ_mul]
    omega
theorem zgr_ (toks n : Nat) : (zde_ toks n).length = toks ^ n := by
  induction n with
  | zero => rfl
  | succ n ih =>
    rw [zde_, zrj_ (k := toks) (fun w _ => by simp [extW]), ih, Nat.pow_succ]
theorem zpp_ {toks n : Nat} (ht : toks ≤ 4) (hn : n ≤ 5) : (zde_ toks n).length ≤ 1024 := by
  rw [zgr_]
  have h1 : toks ^ n ≤ 4 ^ n := Nat.pow_le_pow_left ht n
  have h2 : 4 ^ n ≤ 4 ^ 5 := Nat.pow_le_pow_right (by decide) hn
  have : (4 : Nat) ^ 5 = 1024 := rfl
  omega
theorem zrm_ {toks : Nat} : ∀ {n : Nat} {w : List Int}, w ∈ zde_ toks n → w.length = n ∧ ∀ t ∈ w, 0 ≤ t ∧ t < toks := by
  intro n
  induction n with
  | zero =>
    intro w h
    simp only [zde_, List.mem_singleton] at h
    subst h
    exact ⟨rfl, fun t h => by simp at h⟩
  | succ n ih =>
    intro w h
    simp only [zde_, List.mem_flatMap, extW, List.mem_map, List.mem_range] at h
    obtain ⟨v, hv, t, ht, rfl⟩ := h
    obtain ⟨h1, h2⟩ := ih hv
    refine ⟨by simp [h1], fun x hx => ?_⟩
    rcases List.mem_append.1 hx with hx | hx
    · exact h2 x hx
    · have : x = t := by simpa using hx
      subst this
      omega
theorem rgt_mem {ls : List (List Int)} {i : Nat} (h : i < ls.length) : rgt ls i ∈ ls := by
  rw [rgt_eq h]
  exact List.getElem_mem h
theorem ztj_ (p : List Int → Bool) (ls : List (List Int)) (l : List Int) : (ls ++ [l]).filter p = ls.filter p ++ (if p l = true then [l] else []) := by
  rw [List.filter_append]
  congr 1
  cases h : p l <;> simp [h]
theorem zrp_ (p : List Int → Bool) (ls : List (List Int)) : (ls.filter p).length ≤ ls.length := List.length_filter_le _ _
theorem zuj_ (gm : Gram) (n : Nat) : shortW gm (n + 1) = shortW gm n ++ (zde_ gm.toks.toNat n).filter (inL gm.rules) := by
  unfold shortW
  rw [List.range_succ, List.flatMap_append]
  simp
theorem ztm_ {gm : Gram} (ht : gm.toks ≤ 4) : ∀ {n : Nat}, n ≤ 6 → (shortW gm n).length ≤ 1024 * n := by
  intro n
  induction n with
  | zero => intro _; simp [shortW]
  | succ n ih =>
    intro hn
    rw [zuj_, List.length_append]
    have h1 := ih (by omega)
    have h2 := zrp_ (inL gm.rules) (zde_ gm.toks.toNat n)
    have h3 := zpp_ (toks := gm.toks.toNat) (n := n) (by omega) (by omega)
    omega
theorem shortW_mem {gm : Gram} {n : Nat} {x : List Int} (h : x ∈ shortW gm n) : x.length < n ∧ ∀ t ∈ x, 0 ≤ t ∧ t < gm.toks.toNat := by
  unfold shortW at h
  rw [List.mem_flatMap] at h
  obtain ⟨m, hm, hx⟩ := h
  rw [List.mem_range] at hm
  have := zrm_ (List.mem_filter.1 hx).1
  exact ⟨by omega, this.2⟩
theorem zph_ (toks : Nat) (w : List Int) : extW (toks + 1) w = extW toks w ++ [w ++ [(toks : Int)]] := by
  unfold extW
  rw [List.range_succ, List.map_append]
  rfl
theorem zdg_ {α β : Type} (f : α → List β) (ls : List α) (l : α) : (ls ++ [l]).flatMap f = ls.flatMap f ++ f l := by
  rw [List.flatMap_append]
  simp
theorem zum_ {ls : List (List Int)} {k : Nat} (i : Nat) : ((ls.take i).flatMap (extW k)).length ≤ ls.length * k := by
  rw [zrj_ (k := k) (fun w _ => by simp [extW]), List.length_take]
  exact Nat.mul_le_mul_right _ (Nat.min_le_right _ _)
end Go.Sh
namespace Go.Proofs.Ytegcjkhebecgbaa
open Go Go.Sh Go.RowKit

theorem zik_ {F : Nat → Prop} {w : World} {v : Value} {gm : Gram} {most : Int} (hv : GramV F w v gm) {k : Value → World → Prop}
    (hk : ∀ w' U d ps, Gr w w' → OwnSS 27 3 w' w.heap.size U d (shortV gm most).1 ps → k (.tuple #[.slice U (shortV gm most).1.length d, .bool (shortV gm most).2]) w') :
    CallK Try.prog 24 [v, .int .i64 most] k w := by
  obtain ⟨Y, cy, rfl, hc, hy⟩ := hv
  refine enter24 ?_
  unfold S24
  have H := Apt.nil w
  refine boxH H fun b1 w1 H => ?_
  rw [zj_ zu_ sz26 rfl (H.box 0 rfl)]
  refine zdd_ (gm := gm) ⟨Y, cy, rfl, hc, hy.gr H.gr⟩ fun w2 g2 => ?_
  have H := H.step g2
  unfold shortV at hk
  cases hg : zv_ gm
  · simp only [Bool.not_false, go_sem, Nat.reduceEqDiff]
    rw [hg, Bool.false_and, if_neg Bool.false_ne_true] at hk
    exact hk _ none 0 (fun _ => (none, 0)) H.gr (OwnSS.nil _ _ _ _ _)
  simp only [Bool.not_true, go_sem, Nat.reduceEqDiff]
  refine zpg_ ?_
  rw [hg, Bool.true_and] at hk
  cases hm : inB most 0 4
  · simp only [Bool.not_false, go_sem, Nat.reduceEqDiff]
    rw [hm, if_neg Bool.false_ne_true] at hk
    exact hk _ none 0 (fun _ => (none, 0)) H.gr (OwnSS.nil _ _ _ _ _)
  rw [hm, if_pos rfl] at hk
  obtain ⟨most, rfl⟩ : ∃ m' : Nat, most = m' := by
    simp only [inB, Bool.and_eq_true, decide_eq_true_eq] at hm
    exact ⟨most.toNat, by omega⟩
  have hm4 : most ≤ 4 := by
    simp only [inB, Bool.and_eq_true, decide_eq_true_eq] at hm
    omega
  rw [Int.toNat_natCast] at hk
  dsimp only at hk
  have htk := zve_ hg
  obtain ⟨toks, htoks⟩ : ∃ t : Nat, gm.toks = t := ⟨gm.toks.toNat, by omega⟩
  have htn : gm.toks.toNat = toks := by omega
  simp only [Bool.not_true, go_sem, Nat.reduceEqDiff]
  refine buildH H u35 inf27 [.slice none 0 0] (by decide) (by decide) (by simp [Instr.fill, madeCells, Value.cells, rng1]) rfl fun b2 w3 H => ?_
  have H := (H.addNil 3 1).single (i := 1) (j := 2) (by decide) (e2 := 3) (ys := []) rfl rfl
  have H := ((H.addNil 27 1).emptySS 3 (e2 := 3) (fun _ => (none, 0)) rfl).erase 2
  simp only [List.nil_append, List.cons_append, List.set_cons_zero, List.set_cons_succ, List.eraseIdx_cons_zero, List.eraseIdx_cons_succ] at H
  refine ztb_ (most + 1) 0 (fun n f w' => n ≤ most + 1 ∧ f 8 = .int .i64 n ∧ ∃ (U V : Option Addr) (d e : Nat) (ps qs : Nat → Option Addr × Nat), f 7 = .slice U (zde_ toks n).length d ∧ f 6 = .slice V (shortW gm n).length e ∧
      Apt w w' [bx b1 [.int .i64 gm.nons, .int .i64 gm.toks, .slice Y gm.rules.length cy] 26, lss U d (zde_ toks n) ps, lss V e (shortW gm n) qs])
    ⟨Nat.zero_le _, rfl, _, none, _, 0, _, _, rfl, rfl, H⟩ ?_
  rintro n f w4 N hag ⟨hn, h8, U, V, d, e, ps, qs, h7, h6, H⟩ hN
  have f1 : f 1 = .int .i64 most := hag 1 (by decide)
  have f2 : f 2 = ptrv b1 := hag 2 (by decide)
  simp only [f1, h8, h7, h6, go_sem, Nat.reduceEqDiff]
  by_cases hle : n ≤ most
  case neg =>
    simp only [show ¬ ((n : Int) ≤ most) from by omega, decide_false, go_sem, Nat.reduceEqDiff]
    obtain rfl : n = most + 1 := by omega
    exact hk _ V e qs H.gr (H.lssi 2 rfl)
  simp only [show ((n : Int) ≤ most) from by omega, decide_true, go_sem, Nat.reduceEqDiff]
  have hwl := zpp_ (toks := toks) (n := n) (by omega) (by omega)
  have hwm := fun w => @zrm_ toks n w
  have hsl := ztm_ (gm := gm) htk.2 (n := n) (by omega)
  have hnext : zde_ toks (n + 1) = (zde_ toks n).flatMap (extW toks) := rfl
  have hshort := zuj_ gm n
  rw [htn] at hshort
  generalize zde_ toks n = ls at *
  generalize shortW gm n = so at *
  have H := (H.addNil 27 1).emptySS 3 (e2 := 3) (fun _ => (none, 0)) rfl
  simp only [List.nil_append, List.cons_append, List.set_cons_zero, List.set_cons_succ] at H
  refine ztb_ ls.length 0 (fun i f w' => i ≤ ls.length ∧ f 29 = .int .i64 i ∧ ∃ (V X : Option Addr) (e c : Nat) (qs rs : Nat → Option Addr × Nat), f 6 = .slice V (so ++ (ls.take i).filter (inL gm.rules)).length e ∧ f 9 = .slice X ((ls.take i).flatMap (extW toks)).length c ∧
      Apt w w' [bx b1 [.int .i64 gm.nons, .int .i64 gm.toks, .slice Y gm.rules.length cy] 26, lss U d ls ps, lss V e (so ++ (ls.take i).filter (inL gm.rules)) qs, lss X c ((ls.take i).flatMap (extW toks)) rs])
    ⟨Nat.zero_le _, rfl, V, none, e, 0, qs, _, by simp; exact h6, rfl, by simpa using H⟩ ?_
  rintro i g w5 N2 hag2 ⟨hi, h29, V, X, e, c, qs, rs, h6, h9, H⟩ hN2
  have g27 : g 27 = .slice U ls.length d := hag2 27 (by decide)
  have g28 : g 28 = .int .i64 ls.length := hag2 28 (by decide)
  have g2' : g 2 = ptrv b1 := (hag2 2 (by decide)).trans f2
  have g8 : g 8 = .int .i64 n := (hag2 8 (by decide)).trans h8
  simp only [g27, g28, g2', g8, h29, h6, h9, go_sem, Nat.reduceEqDiff]
  by_cases hlt : i < ls.length
  case neg =>
    simp only [show ¬ ((i : Int) < ls.length) from by omega, decide_false, go_sem, Nat.reduceEqDiff]
    rw [List.take_of_length_le (by omega)] at H h9 h6 ⊢
    rw [zt_ (by omega) (by omega)]
    refine hN _ _ (by omega) ⟨by omega, rfl, X, V, c, e, rs, qs, ?_, ?_, ?_⟩
    · rw [hnext]
      exact rfl
    · rw [hshort]
      exact h6
    · rw [hnext, hshort]
      exact ((H.erase 1).pick (L' := [_, _, _]) (fun i => [0, 2, 1].getD i 0) (fun i a ha => by
        match i, ha with
        | 0, ha => exact ha
        | 1, ha => exact ha
        | 2, ha => exact ha
        | i + 3, ha => simp at ha) (fun i j hi hj e => by
        simp only [List.length_cons, List.length_nil] at hi hj
        match i, j, hi, hj, e with
        | 0, 0, _, _, _ | 1, 1, _, _, _ | 2, 2, _, _, _ => rfl
        | 0, 1, _, _, e | 0, 2, _, _, e | 1, 0, _, _, e | 1, 2, _, _, e | 2, 0, _, _, e | 2, 1, _, _, e => exact absurd e (by decide)
        | i + 3, _, h, _, _ => omega
        | _, j + 3, _, h, _ => omega))
  simp only [show ((i : Int) < ls.length) from by omega, decide_true, go_sem, Nat.reduceEqDiff]
  have o := H.lssi 1 rfl
  have hm2 := hwm _ (rgt_mem hlt)
  have hwi := (o.own i hlt).ints
  have hfl := zrp_ (inL gm.rules) (ls.take i)
  rw [List.length_take] at hfl
  have hflat := zum_ (ls := ls) (k := toks) i
  have hmul : ls.length * toks ≤ 1024 * 4 := Nat.mul_le_mul hwl (by omega)
  have hel : ∀ t, (extW t (rgt ls i)).length = t := fun t => by simp [extW]
  refine rdi (ixn35 (fun h => o.ptr h) hlt) ?_
  refine rdi (ld27 (o.cell hlt)) ?_
  refine rdi (zj_ zu_ sz26 rfl (H.box 0 rfl)) ?_
  refine l4In_c (gm := gm) ⟨Y, cy, rfl, hc, hy.gr H.gr⟩ hg hwi rfl (by omega) fun w6 g6 => ?_
  have H := H.step g6
  have o := H.lssi 1 rfl
  have hwi := (o.own i hlt).ints
  cases hin : inL gm.rules (rgt ls i)
  · simp only [go_sem, Nat.reduceEqDiff]
    have hso : so ++ (ls.take (i + 1)).filter (inL gm.rules) = so ++ (ls.take i).filter (inL gm.rules) := by
      rw [zfe_ hlt, ztj_, hin, if_neg Bool.false_ne_true, List.append_nil]
    rw [← hso] at H
    refine ztb_ toks 0 (fun t f w' => t ≤ toks ∧ f 12 = .int .i64 t ∧ ∃ (X : Option Addr) (c : Nat) (rs : Nat → Option Addr × Nat), f 9 = .slice X ((ls.take i).flatMap (extW toks) ++ extW t (rgt ls i)).length c ∧
        Apt w w' [bx b1 [.int .i64 gm.nons, .int .i64 gm.toks, .slice Y gm.rules.length cy] 26, lss U d ls ps, lss V e (so ++ (ls.take (i + 1)).filter (inL gm.rules)) qs, lss X c ((ls.take i).flatMap (extW toks) ++ extW t (rgt ls i)) rs])
      ⟨Nat.zero_le _, rfl, X, c, rs, by simp only [extW, List.range_zero, List.map_nil, List.append_nil]; exact h9, by simpa only [extW, List.range_zero, List.map_nil, List.append_nil] using H⟩ ?_
    rintro t r w7 N3 hag3 ⟨ht, r12, X, c, rs, r9, H⟩ hN3
    have r2 : r 2 = ptrv b1 := (hag3 2 (by decide)).trans g2'
    have r11 : r 11 = .slice (ps i).1 (rgt ls i).length (ps i).2 := hag3 11 (by decide)
    have r6 : r 6 = .slice V (so ++ (ls.take (i + 1)).filter (inL gm.rules)).length e := by
      rw [hso]
      exact (hag3 6 (by decide)).trans h6
    have r29 : r 29 = .int .i64 i := (hag3 29 (by decide)).trans h29
    simp only [r2, r11, r12, r9, go_sem, Nat.reduceEqDiff]
    rw [ldB3 (H.box 0 rfl) rfl]
    simp only [go_sem, Nat.reduceEqDiff]
    by_cases hlt2 : t < toks
    case neg =>
      simp only [show ¬ ((t : Int) < gm.toks) from by omega, decide_false, r29, go_sem, Nat.reduceEqDiff]
      rw [zt_ (by omega) (by omega)]
      obtain rfl : t = toks := by omega
      refine hN2 _ _ hlt ⟨by omega, rfl, V, X, e, c, qs, rs, r6, ?_, ?_⟩
      · rw [zfe_ hlt, zdg_]
        exact r9
      · rw [show (ls.take (i + 1)).flatMap (extW t) = (ls.take i).flatMap (extW t) ++ extW t (rgt ls i) from by rw [zfe_ hlt, zdg_]]
        exact H
    simp only [show ((t : Int) < gm.toks) from by omega, decide_true, go_sem, Nat.reduceEqDiff]
    have o := H.lssi 1 rfl
    have hwi := (o.own i hlt).ints
    refine zyh_ hwi rfl (by omega) fun X1 d1 w8 g8 o1 => ?_
    have H := H.addRow g8 o1
    simp only [List.nil_append, List.cons_append] at H
    refine pushH H 4 rfl rfl (by omega) fun t1 X2 d2 w9 H => ?_
    simp only [List.set_cons_zero, List.set_cons_succ] at H
    refine pushSSH H 3 4 (by decide) rfl rfl rfl rfl (by rw [List.length_append, hel]; omega) fun t2 X3 c3 w10 rs3 H => ?_
    have H := H.erase 4
    simp only [List.set_cons_zero, List.set_cons_succ, List.eraseIdx_cons_zero, List.eraseIdx_cons_succ] at H
    rw [zt_ (by omega) (by omega)]
    refine hN3 _ _ hlt2 ⟨by omega, rfl, X3, c3, rs3, ?_, ?_⟩
    · rw [zph_, ← List.append_assoc]
      rfl
    · rw [zph_, ← List.append_assoc]
      exact H
  · simp only [go_sem, Nat.reduceEqDiff]
    have hso : so ++ (ls.take (i + 1)).filter (inL gm.rules) = so ++ (ls.take i).filter (inL gm.rules) ++ [rgt ls i] := by
      rw [zfe_ hlt, ztj_, hin, if_pos rfl, List.append_assoc]
    refine zyh_ hwi rfl (by omega) fun X1 d1 w7 g7 o1 => ?_
    have H := H.addRow g7 o1
    simp only [List.nil_append, List.cons_append] at H
    refine pushSSH H 2 4 (by decide) rfl rfl rfl rfl (by rw [List.length_append]; omega) fun t V' e' w8 qs' H => ?_
    have H := H.erase 4
    simp only [List.set_cons_zero, List.set_cons_succ, List.eraseIdx_cons_zero, List.eraseIdx_cons_succ] at H
    rw [← hso] at H
    refine ztb_ toks 0 (fun t f w' => t ≤ toks ∧ f 12 = .int .i64 t ∧ ∃ (X : Option Addr) (c : Nat) (rs : Nat → Option Addr × Nat), f 9 = .slice X ((ls.take i).flatMap (extW toks) ++ extW t (rgt ls i)).length c ∧
        Apt w w' [bx b1 [.int .i64 gm.nons, .int .i64 gm.toks, .slice Y gm.rules.length cy] 26, lss U d ls ps, lss V' e' (so ++ (ls.take (i + 1)).filter (inL gm.rules)) qs', lss X c ((ls.take i).flatMap (extW toks) ++ extW t (rgt ls i)) rs])
      ⟨Nat.zero_le _, rfl, X, c, rs, by simp only [extW, List.range_zero, List.map_nil, List.append_nil]; exact h9, by simpa only [extW, List.range_zero, List.map_nil, List.append_nil] using H⟩ ?_
    rintro t r w7 N3 hag3 ⟨ht, r12, X, c, rs, r9, H⟩ hN3
    have r2 : r 2 = ptrv b1 := (hag3 2 (by decide)).trans g2'
    have r11 : r 11 = .slice (ps i).1 (rgt ls i).length (ps i).2 := hag3 11 (by decide)
    have r6 : r 6 = .slice V' (so ++ (ls.take (i + 1)).filter (inL gm.rules)).length e' := by
      rw [hso]
      exact hag3 6 (by decide)
    have r29 : r 29 = .int .i64 i := (hag3 29 (by decide)).trans h29
    simp only [r2, r11, r12, r9, go_sem, Nat.reduceEqDiff]
    rw [ldB3 (H.box 0 rfl) rfl]
    simp only [go_sem, Nat.reduceEqDiff]
    by_cases hlt2 : t < toks
    case neg =>
      simp only [show ¬ ((t : Int) < gm.toks) from by omega, decide_false, r29, go_sem, Nat.reduceEqDiff]
      rw [zt_ (by omega) (by omega)]
      obtain rfl : t = toks := by omega
      refine hN2 _ _ hlt ⟨by omega, rfl, V', X, e', c, qs', rs, r6, ?_, ?_⟩
      · rw [zfe_ hlt, zdg_]
        exact r9
      · rw [show (ls.take (i + 1)).flatMap (extW t) = (ls.take i).flatMap (extW t) ++ extW t (rgt ls i) from by rw [zfe_ hlt, zdg_]]
        exact H
    simp only [show ((t : Int) < gm.toks) from by omega, decide_true, go_sem, Nat.reduceEqDiff]
    have o := H.lssi 1 rfl
    have hwi := (o.own i hlt).ints
    refine zyh_ hwi rfl (by omega) fun X1 d1 w8 g8 o1 => ?_
    have H := H.addRow g8 o1
    simp only [List.nil_append, List.cons_append] at H
    refine pushH H 4 rfl rfl (by omega) fun t1 X2 d2 w9 H => ?_
    simp only [List.set_cons_zero, List.set_cons_succ] at H
    refine pushSSH H 3 4 (by decide) rfl rfl rfl rfl (by rw [List.length_append, hel]; omega) fun t2 X3 c3 w10 rs3 H => ?_
    have H := H.erase 4
    simp only [List.set_cons_zero, List.set_cons_succ, List.eraseIdx_cons_zero, List.eraseIdx_cons_succ] at H
    rw [zt_ (by omega) (by omega)]
    refine hN3 _ _ hlt2 ⟨by omega, rfl, X3, c3, rs3, ?_, ?_⟩
    · rw [zph_, ← List.append_assoc]
      rfl
    · rw [zph_, ← List.append_assoc]
      exact H
end Go.Proofs.Ytegcjkhebecgbaa

namespace Go.Sh
open Go
end Go.Sh
namespace Go.Proofs.Ytegcjkhebecgbaa
open Go Go.Sh Go.RowKit

theorem l1Most_c {x y : Int} {w : World} {k : Value → World → Prop} (hk : k (.int .i64 (if x < y then y else x)) w) : CallK Try.prog 159 [.int .i64 x, .int .i64 y] k w := by
  refine enter159 ?_
  unfold S159
  simp only [go_sem, Nat.reduceEqDiff]
  by_cases h : y < x
  · simp only [h, decide_true, go_sem, Nat.reduceEqDiff]
    rwa [if_neg (by omega)] at hk
  · simp only [h, decide_false, go_sem, Nat.reduceEqDiff]
    by_cases h2 : x < y
    · rwa [if_pos h2] at hk
    · rw [if_neg h2] at hk
      have : x = y := by omega
      rwa [this] at hk
section
variable {w0 w : World} {L E : List Thing} {bc N : Nat} {C : Option Addr} {cap : Nat} {bs : List Int} {k : Value → World → Prop}
theorem leftH (H : Apt w0 w L) (i : Nat) {ft : Nat → Prop} {X : Option Addr} {c : Nat} {r : RuleL} {rs : List RuleL} {v : Int} (hi : L[i]? = some (gth ft X c (r :: rs))) (h : ∀ w', Apt w0 w' (L.set i (gth ft X c ((v, r.2) :: rs))) → k undef w') : Do Try.prog (zi_ 3 (.pointer (some ((ad X).add 0))) (.int .i64 v)) k w := by
  obtain ⟨cells, hrow, hrc⟩ := H.gow i hi
  refine zuc_ sz3 rfl rfl hrow (by rw [List.length_cons]; omega) fun w' hg hs hr => ?_
  cases hrc with
  | @cons _ _ Y d cells h1 h2 h3 =>
    refine h w' (H.set hi (it' := gth ft X c ((v, r.2) :: rs)) (gx_of hg fun q hq => .inl hq) (fun q hq => .inl hq) (fun q hq => Nat.lt_of_lt_of_le ((H.ok i _ hi).hi q hq) hg.size) (zvf_ (B := 0) ⟨_, hr, ?_⟩))
    refine .cons (r := (v, r.2)) h1 ?_ ?_
    · have hf : IntsF (fun q => (ft q ∧ blk X ≠ some q) ∧ q < w.heap.size) w Y r.2 := ltF h2
      exact (hf.same' fun q hq => hg.block q hq.2 fun e => hq.1.2 e.symm).mono fun q hq => hq.1
    · exact (h3.lt.same fun q hq => hg.block q hq.2 fun e => hq.1.2 e.symm).mono fun q hq => hq.1
set_option maxHeartbeats 3200000 in
theorem any_c (H : Apt w0 w (cur bc (.slice C bs.length cap) N :: E)) (hC : Byts w0 C bs) (hN : N ≤ 1000000) (hk : ∀ w' gm ft X c, Drawn 101 gm → Apt w0 w' (cur bc (.slice C bs.length cap) (N + 600) :: gth ft X c gm.rules :: E) → k (.agg #[.int .i64 gm.nons, .int .i64 gm.toks, .slice X gm.rules.length c]) w') :
    CallK Try.prog 145 [ptrv bc] k w := by
  refine enter145 ?_
  unfold S145
  refine zkc_ H zdc_ fun b1 w1 H => ?_
  have H := H.insert 1
  simp only [List.take_succ_cons, List.take_zero, List.drop_succ_cons, List.drop_zero, List.nil_append, List.cons_append] at H
  refine grammar_c H hC hN fun w2 gm ft X c hd H => ?_
  refine zkc_ H zdc_ fun b5 w3 H => ?_
  have H := H.insert 2
  simp only [List.take_succ_cons, List.take_zero, List.drop_succ_cons, List.drop_zero, List.nil_append, List.cons_append] at H
  refine zub_ H 2 rfl sz26 rfl rfl rfl fun w4 H => ?_
  simp only [List.set_cons_zero, List.set_cons_succ, List.take_zero, List.drop_succ_cons, List.drop_zero, List.nil_append, List.append_nil, Value.cells] at H
  refine zmd_ (fun f w' => f 2 = ptrv b1 ∧ f 3 = ptrv b5 ∧ ∃ gm ft X c, Drawn 101 gm ∧ Apt w0 w' (cur bc (.slice C bs.length cap) (N + 600) :: gth ft X c gm.rules :: bx b5 [.int .i64 gm.nons, .int .i64 gm.toks, .slice X gm.rules.length c] 26 :: bx b1 [.int .i64 0, .int .i64 0, .slice none 0 0] 26 :: E)) (fun K hK => ?_) ?_
  case refine_2 =>
    clear H
    rintro f w5 ⟨f2, f3, gm, ft, X, c, hd, H⟩
    simp only [f2, f3]
    rw [zj_ zu_ sz26 rfl (H.box 2 rfl)]
    refine zub_ H 3 rfl sz26 rfl rfl rfl fun w9 H => ?_
    simp only [List.set_cons_zero, List.set_cons_succ] at H
    rw [zcb_, zj_ zu_ sz26 rfl (H.box 3 rfl)]
    have H := (H.erase 3).erase 2
    simp only [List.eraseIdx_cons_zero, List.eraseIdx_cons_succ] at H
    exact hk w9 gm ft X c hd H
  refine zvc_ H 0 rfl hC (by omega) (by omega) fun w5 t _ ht H => ?_
  simp only [List.set_cons_zero] at H
  have ht := ht (by omega)
  have amongs : ∀ (x y z : Int), (0 ≤ x ∧ x ≤ 1000) → (0 ≤ y ∧ y ≤ 1000) → (0 ≤ z ∧ z ≤ 1000) → ∀ (kk : Value → Value → World → Prop), (∀ v : Int, 0 ≤ v ∧ v ≤ 1000 → ∀ u w', Apt w0 w' (cur bc (.slice C bs.length cap) (N + 504) :: gth ft X c gm.rules :: bx b5 [.int .i64 gm.nons, .int .i64 gm.toks, .slice X gm.rules.length c] 26 :: bx b1 [.int .i64 0, .int .i64 0, .slice none 0 0] 26 :: E) → kk u (.int .i64 v) w') → Do Try.prog (zh_ 27 3 [(0, .int .i64 x), (1, .int .i64 y), (2, .int .i64 z)]) (fun t14 w15 => CallK Try.prog 156 [ptrv bc, t14] (fun t16 w17 => kk t14 t16 w17) w15) w5 := fun x y z hx hy hz kk hkk => by
    refine buildH H u27 inf3 (ints [x, y, z]) (by decide) (by decide) (by simp [Instr.fill, madeCells, Value.cells, rng3, ints]) rfl fun b7 w6 H => ?_
    have H := H.insert 1
    simp only [List.take_succ_cons, List.take_zero, List.drop_succ_cons, List.drop_zero, List.nil_append, List.cons_append] at H
    refine among_c (xs := [x, y, z]) H 0 rfl hC (by omega) (fun w' H => Apt.ints H 1 (xs := [x, y, z]) rfl) rfl (by simp) (by simp) fun w7 j hj H => ?_
    have H := H.erase 1
    simp only [List.set_cons_zero, List.eraseIdx_cons_zero, List.eraseIdx_cons_succ] at H
    refine hkk _ ?_ _ _ H
    have hj : j = 0 ∨ j = 1 ∨ j = 2 := by simp at hj; omega
    rcases hj with rfl | rfl | rfl
    · exact hx
    · exact hy
    · exact hz
  simp only [zq18, zq19, zq20, zq21, zq22, zq23, zq24, zq25, zq26, zq27, zq28, zq4, zq3, zq1, zq2, zq0, zq29, zq30, zq14, zq15, zq16, zq17, zq13, zq10, zq12, zq11, zq7, zq5, zq6, zq9, zq8, zq31, zq32, ite_T, ite_F, zq33, zq34, zq35, Nat.reduceEqDiff, len22, len24, fa26_0, fa26_1, fa26_2, len27, fa33_0, fa33_1, len35, fa114_0, fa114_1, fa114_2, fa124_0, fa124_1, len134]
  by_cases h0 : t = 0
  · subst h0
    simp only [show (((0 : Nat) : Int) = 0) from rfl, decide_true, zq18, zq19, zq20, zq21, zq22, zq23, zq24, zq25, zq26, zq27, zq28, zq4, zq3, zq1, zq2, zq0, zq29, zq30, zq14, zq15, zq16, zq17, zq13, zq10, zq12, zq11, zq7, zq5, zq6, zq9, zq8, zq31, zq32, ite_T, ite_F, zq33, zq34, zq35, Nat.reduceEqDiff, len22, len24, fa26_0, fa26_1, fa26_2, len27, fa33_0, fa33_1, len35, fa114_0, fa114_1, fa114_2, fa124_0, fa124_1, len134]
    refine amongs 0 6 7 (by omega) (by omega) (by omega) _ fun v hv u w7 H => ?_
    refine zub_ H 2 rfl sz3 rfl rfl rfl fun w8 H => ?_
    simp only [List.set_cons_zero, List.set_cons_succ, List.take_succ_cons, List.take_zero, List.drop_succ_cons, List.drop_zero, List.nil_append, List.cons_append, Value.cells] at H
    exact hK _ _ ⟨rfl, rfl, ⟨v, gm.toks, gm.rules⟩, ft, X, c, ⟨hv, hd.toks, hd.some, by have := hd.few; show List.length gm.rules ≤ 101; omega, hd.rights⟩, zpd_ (m := N + 600) H (by omega)⟩
  simp only [show ¬ ((t : Int) = 0) from by omega, decide_false, zq18, zq19, zq20, zq21, zq22, zq23, zq24, zq25, zq26, zq27, zq28, zq4, zq3, zq1, zq2, zq0, zq29, zq30, zq14, zq15, zq16, zq17, zq13, zq10, zq12, zq11, zq7, zq5, zq6, zq9, zq8, zq31, zq32, ite_T, ite_F, zq33, zq34, zq35, Nat.reduceEqDiff, len22, len24, fa26_0, fa26_1, fa26_2, len27, fa33_0, fa33_1, len35, fa114_0, fa114_1, fa114_2, fa124_0, fa124_1, len134]
  by_cases h1 : t = 1
  · subst h1
    simp only [show (((1 : Nat) : Int) = 1) from rfl, decide_true, zq18, zq19, zq20, zq21, zq22, zq23, zq24, zq25, zq26, zq27, zq28, zq4, zq3, zq1, zq2, zq0, zq29, zq30, zq14, zq15, zq16, zq17, zq13, zq10, zq12, zq11, zq7, zq5, zq6, zq9, zq8, zq31, zq32, ite_T, ite_F, zq33, zq34, zq35, Nat.reduceEqDiff, len22, len24, fa26_0, fa26_1, fa26_2, len27, fa33_0, fa33_1, len35, fa114_0, fa114_1, fa114_2, fa124_0, fa124_1, len134]
    refine amongs 0 4 5 (by omega) (by omega) (by omega) _ fun v hv u w7 H => ?_
    refine zub_ H 2 rfl sz3 rfl rfl rfl fun w8 H => ?_
    simp only [List.set_cons_zero, List.set_cons_succ, List.take_succ_cons, List.take_zero, List.drop_succ_cons, List.drop_zero, List.nil_append, List.cons_append, Value.cells] at H
    exact hK _ _ ⟨rfl, rfl, ⟨gm.nons, v, gm.rules⟩, ft, X, c, ⟨hd.nons, hv, hd.some, by have := hd.few; show List.length gm.rules ≤ 101; omega, hd.rights⟩, zpd_ (m := N + 600) H (by omega)⟩
  simp only [show ¬ ((t : Int) = 1) from by omega, decide_false, zq18, zq19, zq20, zq21, zq22, zq23, zq24, zq25, zq26, zq27, zq28, zq4, zq3, zq1, zq2, zq0, zq29, zq30, zq14, zq15, zq16, zq17, zq13, zq10, zq12, zq11, zq7, zq5, zq6, zq9, zq8, zq31, zq32, ite_T, ite_F, zq33, zq34, zq35, Nat.reduceEqDiff, len22, len24, fa26_0, fa26_1, fa26_2, len27, fa33_0, fa33_1, len35, fa114_0, fa114_1, fa114_2, fa124_0, fa124_1, len134]
  obtain ⟨nn, tt, rules⟩ := gm
  cases rules with
  | nil => exact absurd hd.some (by simp)
  | cons r rs =>
  by_cases h2 : t = 2
  · subst h2
    simp only [show (((2 : Nat) : Int) = 2) from rfl, decide_true, zq18, zq19, zq20, zq21, zq22, zq23, zq24, zq25, zq26, zq27, zq28, zq4, zq3, zq1, zq2, zq0, zq29, zq30, zq14, zq15, zq16, zq17, zq13, zq10, zq12, zq11, zq7, zq5, zq6, zq9, zq8, zq31, zq32, ite_T, ite_F, zq33, zq34, zq35, Nat.reduceEqDiff, len22, len24, fa26_0, fa26_1, fa26_2, len27, fa33_0, fa33_1, len35, fa114_0, fa114_1, fa114_2, fa124_0, fa124_1, len134]
    have H := H.drew
    obtain ⟨cells, hrow, hrc⟩ := H.gow 1 rfl
    refine ⟨fun w' => Gr w5.drew w', Gr.refl _, ?_⟩
    refine rdi (rdG one24 (H.box 2 rfl) rfl) (rdi (rdG one24 (H.box 2 rfl) rfl) ?_)
    refine rdi (ix24_0 (fun _ => hrow.ptr (by simp)) (by simp)) ?_
    have hsrc := hrow.src
    obtain ⟨Y, d, a1, a2, a3, a4⟩ := hrc.cell 0 (by simp)
    rw [zci_ zhc_ sz33 (cs := [.int .i64 r.1, .slice Y r.2.length d]) rfl (fun w' hw j hj => by
      match j, hj with
      | 0, _ => rw [zbc_]; exact hw.cell (hsrc.cell _ _ a1)
      | 1, _ => rw [zbc_]; exact hw.cell (hsrc.cell _ _ a2))]
    refine zab_ u24 zxb_ (cells := [.int .i64 r.1, .slice Y r.2.length d]) (by decide) (by decide) (by simp [Instr.fill, madeCells, Value.cells, rng1, rng2]) rfl fun b6 w6 hb5 hb6 g6 _ r6 => ?_
    refine ⟨g6, ?_⟩
    have H := H.step g6
    obtain ⟨cells, hrow, hrc⟩ := H.gow 1 rfl
    refine zcg_ u24 zxb_ rfl (by decide) hrow (Row.src (r6 _ (Nat.le_refl _))) rfl (by intro v hv; simp at hv; rcases hv with rfl | rfl <;> rfl) (by have := hd.few; simp only [List.length_cons] at this ⊢; omega) (by have := hd.few; simp only [List.length_cons] at this ⊢; omega) (Nat.zero_le _) fun X' c' w' hr' hg hmv => ?_
    have hnew : ∀ q, q < w6.heap.size → blk X ≠ some q → blk X' ≠ some q := fun q hq hn e => by
      rcases hmv with h1 | h1
      · exact hn (h1 ▸ e)
      · have := h1 q e
        omega
    have hrc2 : RuleCells (fun q => ft q ∧ blk X' ≠ some q) w' ((r :: rs) ++ [r]) (cells ++ [.int .i64 r.1, .slice Y r.2.length d]) := by
      refine RuleCells.append ((hrc.lt.same fun q hq => hg.block q hq.2 fun e => hq.1.2 e.symm).mono fun q hq => ⟨hq.1.1, hnew q hq.2 hq.1.2⟩) (.cons a3 ?_ .nil)
      exact ((ltF (a4.gr g6)).same' fun q hq => hg.block q hq.2 fun e => hq.1.2 e.symm).mono fun q hq => ⟨hq.1.1, hnew q hq.2 hq.1.2⟩
    have hlen : (r :: rs).length + 1 = ((r :: rs) ++ [r]).length := by simp
    rw [hlen] at hr' ⊢
    have H := H.set (i := 1) rfl (it' := gth ft X' c' ((r :: rs) ++ [r])) (gx_of hg fun q hq => .inl hq) (fun q hq => by
      rcases hq with hq | hq
      · rcases hmv with e | e
        · exact .inl (.inl (e ▸ hq))
        · exact .inr (e q hq)
      · exact .inl (.inr hq)) (fun q hq => by
      rcases hq with hq | hq
      · exact (hr'.ge hq).2
      · exact Nat.lt_of_lt_of_le ((H.ok 1 _ rfl).hi q (.inr hq)) hg.size) (zvf_ ⟨_, hr', hrc2⟩)
    simp only [List.set_cons_zero, List.set_cons_succ] at H
    simp only [zq18, zq19, zq20, zq21, zq22, zq23, zq24, zq25, zq26, zq27, zq28, zq4, zq3, zq1, zq2, zq0, zq29, zq30, zq14, zq15, zq16, zq17, zq13, zq10, zq12, zq11, zq7, zq5, zq6, zq9, zq8, zq31, zq32, ite_T, ite_F, zq33, zq34, zq35, Nat.reduceEqDiff, len22, len24, fa26_0, fa26_1, fa26_2, len27, fa33_0, fa33_1, len35, fa114_0, fa114_1, fa114_2, fa124_0, fa124_1, len134]
    refine zub_ H 2 rfl sz24 rfl rfl rfl fun w8 H => ?_
    simp only [List.set_cons_zero, List.set_cons_succ, List.take_succ_cons, List.take_zero, List.drop_succ_cons, List.drop_zero, List.nil_append, List.cons_append, Value.cells] at H
    exact hK _ _ ⟨rfl, rfl, ⟨nn, tt, (r :: rs) ++ [r]⟩, ft, X', c', ⟨hd.nons, hd.toks, by simp, by have := hd.few; simp only [List.length_append, List.length_cons, List.length_nil] at this ⊢; omega, fun q hq => hd.rights q (by simp only [List.mem_append, List.mem_singleton] at hq; rcases hq with hq | hq; exact hq; rw [hq]; exact List.mem_cons_self ..)⟩, zpd_ (m := N + 600) H (by omega)⟩
  simp only [show ¬ ((t : Int) = 2) from by omega, decide_false, zq18, zq19, zq20, zq21, zq22, zq23, zq24, zq25, zq26, zq27, zq28, zq4, zq3, zq1, zq2, zq0, zq29, zq30, zq14, zq15, zq16, zq17, zq13, zq10, zq12, zq11, zq7, zq5, zq6, zq9, zq8, zq31, zq32, ite_T, ite_F, zq33, zq34, zq35, Nat.reduceEqDiff, len22, len24, fa26_0, fa26_1, fa26_2, len27, fa33_0, fa33_1, len35, fa114_0, fa114_1, fa114_2, fa124_0, fa124_1, len134]
  by_cases h3 : t = 3
  · subst h3
    simp only [show (((3 : Nat) : Int) = 3) from rfl, decide_true, zq18, zq19, zq20, zq21, zq22, zq23, zq24, zq25, zq26, zq27, zq28, zq4, zq3, zq1, zq2, zq0, zq29, zq30, zq14, zq15, zq16, zq17, zq13, zq10, zq12, zq11, zq7, zq5, zq6, zq9, zq8, zq31, zq32, ite_T, ite_F, zq33, zq34, zq35, Nat.reduceEqDiff, len22, len24, fa26_0, fa26_1, fa26_2, len27, fa33_0, fa33_1, len35, fa114_0, fa114_1, fa114_2, fa124_0, fa124_1, len134]
    have H := H.drew
    refine ⟨fun w' => Box w' b5 [.int .i64 nn, .int .i64 tt, .slice X (r :: rs).length c] 26, H.box 2 rfl, ?_⟩
    refine rdi (ldS24 (a := ⟨b5, 0 + 2, none⟩) fun w' hw' => (hw'.cell (0 + 2)).trans rfl) ?_
    refine zvc_ H 0 rfl hC (by omega) (by omega) fun w6 y _ hy H => ?_
    simp only [List.set_cons_zero, zq18, zq19, zq20, zq21, zq22, zq23, zq24, zq25, zq26, zq27, zq28, zq4, zq3, zq1, zq2, zq0, zq29, zq30, zq14, zq15, zq16, zq17, zq13, zq10, zq12, zq11, zq7, zq5, zq6, zq9, zq8, zq31, zq32, ite_T, ite_F, zq33, zq34, zq35, Nat.reduceEqDiff, len22, len24, fa26_0, fa26_1, fa26_2, len27, fa33_0, fa33_1, len35, fa114_0, fa114_1, fa114_2, fa124_0, fa124_1, len134] at H ⊢
    refine ⟨H.box 2 rfl, ?_⟩
    obtain ⟨cells, hrow, hrc⟩ := H.gow 1 rfl
    refine rdi (ix24_0 (fun _ => hrow.ptr (by simp)) (by simp)) ?_
    simp only [zq18, zq19, zq20, zq21, zq22, zq23, zq24, zq25, zq26, zq27, zq28, zq4, zq3, zq1, zq2, zq0, zq29, zq30, zq14, zq15, zq16, zq17, zq13, zq10, zq12, zq11, zq7, zq5, zq6, zq9, zq8, zq31, zq32, ite_T, ite_F, zq33, zq34, zq35, Nat.reduceEqDiff, len22, len24, fa26_0, fa26_1, fa26_2, len27, fa33_0, fa33_1, len35, fa114_0, fa114_1, fa114_2, fa124_0, fa124_1, len134]
    generalize IntKind.i64.wrap ((y : Int) - 1) = v
    refine leftH H 1 rfl fun w8 H => ?_
    simp only [List.set_cons_zero, List.set_cons_succ] at H
    exact hK _ _ ⟨rfl, rfl, ⟨nn, tt, (v, r.2) :: rs⟩, ft, X, c, ⟨hd.nons, hd.toks, by simp, by have := hd.few; simp only [List.length_cons] at this ⊢; omega, fun q hq => by rcases List.mem_cons.1 hq with hq | hq; rw [hq]; exact hd.rights r (List.mem_cons_self ..); exact hd.rights q (List.mem_cons_of_mem _ hq)⟩, zpd_ (m := N + 600) H (by omega)⟩
  simp only [show ¬ ((t : Int) = 3) from by omega, decide_false, zq18, zq19, zq20, zq21, zq22, zq23, zq24, zq25, zq26, zq27, zq28, zq4, zq3, zq1, zq2, zq0, zq29, zq30, zq14, zq15, zq16, zq17, zq13, zq10, zq12, zq11, zq7, zq5, zq6, zq9, zq8, zq31, zq32, ite_T, ite_F, zq33, zq34, zq35, Nat.reduceEqDiff, len22, len24, fa26_0, fa26_1, fa26_2, len27, fa33_0, fa33_1, len35, fa114_0, fa114_1, fa114_2, fa124_0, fa124_1, len134]
  exact hK _ _ ⟨rfl, rfl, ⟨nn, tt, r :: rs⟩, ft, X, c, ⟨hd.nons, hd.toks, hd.some, by have := hd.few; simp only [List.length_cons] at this ⊢; omega, hd.rights⟩, zpd_ (m := N + 600) H (by omega)⟩
set_option maxHeartbeats 1600000 in
theorem word_c (H : Apt w0 w (cur bc (.slice C bs.length cap) N :: E)) (hC : Byts w0 C bs) (hN : N ≤ 10000000) {nons toks : Int} {g : Value} {most : Int} (hm : 0 ≤ most ∧ most ≤ 10) (ht : 0 ≤ toks ∧ toks ≤ 1000) (hk : ∀ w' Z d ws, ws.length ≤ 10 → Apt w0 w' (cur bc (.slice C bs.length cap) (N + 100) :: ows Z d ws :: E) → k (.slice Z ws.length d) w') :
    CallK Try.prog 218 [ptrv bc, .agg #[.int .i64 nons, .int .i64 toks, g], .int .i64 most] k w := by
  refine enter218 ?_
  unfold S218
  refine boxH H fun b1 w1 H => ?_
  have H := H.insert 1
  simp only [List.take_succ_cons, List.take_zero, List.drop_succ_cons, List.drop_zero, List.nil_append, List.cons_append] at H
  simp only [zq18, zq19, zq20, zq21, zq22, zq23, zq24, zq25, zq26, zq27, zq28, zq4, zq3, zq1, zq2, zq0, zq29, zq30, zq14, zq15, zq16, zq17, zq13, zq10, zq12, zq11, zq7, zq5, zq6, zq9, zq8, zq31, zq32, ite_T, ite_F, zq33, zq34, zq35, Nat.reduceEqDiff, len22, len24, fa26_0, fa26_1, fa26_2, len27, fa33_0, fa33_1, len35, fa114_0, fa114_1, fa114_2, fa124_0, fa124_1, len134]
  rw [zt_ (by omega) (by omega)]
  refine zvc_ H 0 rfl hC (by omega) (by omega) fun w2 n0 h1 h2 H => ?_
  simp only [List.set_cons_zero] at H
  have hn0 : n0 ≤ 10 := by
    by_cases h : most + 1 ≤ 1
    · have := h1 h; omega
    · have := h2 (by omega); omega
  have H := (H.addOwn (Gr.refl _) (show Own 3 w2 w2.heap.size none 0 [] from Row.nil _ _ _ _)).insert 1
  simp only [List.take_succ_cons, List.take_zero, List.drop_succ_cons, List.drop_zero, List.nil_append, List.cons_append] at H
  refine zjf_ (fun o f w' => o ≤ n0 ∧ f 8 = .int .i64 (o : Int) ∧ ∃ N2 Z d, ∃ xs : List Int, f 7 = .slice Z xs.length d ∧ N2 ≤ N + 2 + (n0 - o) * 2 ∧ xs.length ≤ n0 - o ∧ Apt w0 w' (cur bc (.slice C bs.length cap) N2 :: ows Z d xs :: bx b1 (Value.agg #[.int .i64 nons, .int .i64 toks, g]).cells.toList 26 :: E)) (fun o => o) n0
    ⟨Nat.le_refl _, rfl, _, none, 0, [], rfl, by omega, by simp, H⟩ ?_
  clear H
  rintro o f w3 NN hag ⟨ho, f8, N2, Z, d, xs, f7, hN2, hxs, H⟩ hN'
  have f0 : f 0 = ptrv bc := hag 0 (by decide)
  have f4 : f 4 = ptrv b1 := hag 4 (by decide)
  simp only [f0, f4, f7, f8, zq18, zq19, zq20, zq21, zq22, zq23, zq24, zq25, zq26, zq27, zq28, zq4, zq3, zq1, zq2, zq0, zq29, zq30, zq14, zq15, zq16, zq17, zq13, zq10, zq12, zq11, zq7, zq5, zq6, zq9, zq8, zq31, zq32, ite_T, ite_F, zq33, zq34, zq35, Nat.reduceEqDiff, len22, len24, fa26_0, fa26_1, fa26_2, len27, fa33_0, fa33_1, len35, fa114_0, fa114_1, fa114_2, fa124_0, fa124_1, len134]
  by_cases ho0 : 0 < o
  case neg =>
    simp only [show ¬ ((0 : Int) < (o : Int)) from by omega, decide_false, zq18, zq19, zq20, zq21, zq22, zq23, zq24, zq25, zq26, zq27, zq28, zq4, zq3, zq1, zq2, zq0, zq29, zq30, zq14, zq15, zq16, zq17, zq13, zq10, zq12, zq11, zq7, zq5, zq6, zq9, zq8, zq31, zq32, ite_T, ite_F, zq33, zq34, zq35, Nat.reduceEqDiff, len22, len24, fa26_0, fa26_1, fa26_2, len27, fa33_0, fa33_1, len35, fa114_0, fa114_1, fa114_2, fa124_0, fa124_1, len134]
    have fin : ∀ w' N2 Z d ws, N2 ≤ N + 100 → List.length ws ≤ 10 → Apt w0 w' (cur bc (.slice C bs.length cap) N2 :: ows Z d ws :: bx b1 (Value.agg #[.int .i64 nons, .int .i64 toks, g]).cells.toList 26 :: E) → k (.slice Z ws.length d) w' := fun w' N2 Z d ws hn hl H => by
      have H := H.erase 2
      simp only [List.eraseIdx_cons_zero, List.eraseIdx_cons_succ] at H
      exact hk w' Z d ws hl (zpd_ H hn)
    refine zmd_ (fun f w' => ∃ N2 Z d, ∃ ws : List Int, f 7 = .slice Z ws.length d ∧ N2 ≤ N + 100 ∧ ws.length ≤ 10 ∧ Apt w0 w' (cur bc (.slice C bs.length cap) N2 :: ows Z d ws :: bx b1 (Value.agg #[.int .i64 nons, .int .i64 toks, g]).cells.toList 26 :: E)) (fun K hK => ?_) ?_
    case refine_2 =>
      rintro f w' ⟨N2, Z, d, ws, f7, h1, h2, H⟩
      rw [f7]
      exact fin w' N2 Z d ws h1 h2 H
    by_cases hx0 : xs.length = 0
    · simp only [show ¬ ((0 : Int) < (xs.length : Int)) from by omega, decide_false, zq18, zq19, zq20, zq21, zq22, zq23, zq24, zq25, zq26, zq27, zq28, zq4, zq3, zq1, zq2, zq0, zq29, zq30, zq14, zq15, zq16, zq17, zq13, zq10, zq12, zq11, zq7, zq5, zq6, zq9, zq8, zq31, zq32, ite_T, ite_F, zq33, zq34, zq35, Nat.reduceEqDiff, len22, len24, fa26_0, fa26_1, fa26_2, len27, fa33_0, fa33_1, len35, fa114_0, fa114_1, fa114_2, fa124_0, fa124_1, len134]
      exact hK _ _ ⟨N2, Z, d, xs, f7, by omega, by omega, H⟩
    simp only [show ((0 : Int) < (xs.length : Int)) from by omega, decide_true, zq18, zq19, zq20, zq21, zq22, zq23, zq24, zq25, zq26, zq27, zq28, zq4, zq3, zq1, zq2, zq0, zq29, zq30, zq14, zq15, zq16, zq17, zq13, zq10, zq12, zq11, zq7, zq5, zq6, zq9, zq8, zq31, zq32, ite_T, ite_F, zq33, zq34, zq35, Nat.reduceEqDiff, len22, len24, fa26_0, fa26_1, fa26_2, len27, fa33_0, fa33_1, len35, fa114_0, fa114_1, fa114_2, fa124_0, fa124_1, len134]
    refine one_c H 0 rfl hC (by omega) (by omega) fun w4 b H => ?_
    simp only [List.set_cons_zero] at H
    cases b
    · simp only [zq18, zq19, zq20, zq21, zq22, zq23, zq24, zq25, zq26, zq27, zq28, zq4, zq3, zq1, zq2, zq0, zq29, zq30, zq14, zq15, zq16, zq17, zq13, zq10, zq12, zq11, zq7, zq5, zq6, zq9, zq8, zq31, zq32, ite_T, ite_F, zq33, zq34, zq35, Nat.reduceEqDiff, len22, len24, fa26_0, fa26_1, fa26_2, len27, fa33_0, fa33_1, len35, fa114_0, fa114_1, fa114_2, fa124_0, fa124_1, len134]
      exact hK _ _ ⟨_, Z, d, xs, f7, by omega, by omega, H⟩
    simp only [zq18, zq19, zq20, zq21, zq22, zq23, zq24, zq25, zq26, zq27, zq28, zq4, zq3, zq1, zq2, zq0, zq29, zq30, zq14, zq15, zq16, zq17, zq13, zq10, zq12, zq11, zq7, zq5, zq6, zq9, zq8, zq31, zq32, ite_T, ite_F, zq33, zq34, zq35, Nat.reduceEqDiff, len22, len24, fa26_0, fa26_1, fa26_2, len27, fa33_0, fa33_1, len35, fa114_0, fa114_1, fa114_2, fa124_0, fa124_1, len134]
    refine buildH H u27 inf3 (ints [-1, 4]) (by decide) (by decide) (by simp [Instr.fill, madeCells, Value.cells, rng2, ints]) rfl fun b7 w6 H => ?_
    have H := H.insert 1
    simp only [List.take_succ_cons, List.take_zero, List.drop_succ_cons, List.drop_zero, List.nil_append, List.cons_append] at H
    refine among_c (xs := [-1, 4]) H 0 rfl hC (by omega) (fun w' H => Apt.ints H 1 (xs := [-1, 4]) rfl) rfl (by simp) (by simp) fun w7 j hj H => ?_
    have H := H.erase 1
    simp only [List.set_cons_zero, List.eraseIdx_cons_zero, List.eraseIdx_cons_succ] at H
    have hrow := H.own 1 rfl
    refine rdi (ix27_0 (fun _ => hrow.ptr (by omega)) (by omega)) ?_
    generalize ([-1, 4] : List Int).getD j 0 = y
    refine zuc_ sz3 rfl rfl hrow (by omega) fun w8 hg hs hr => ?_
    have hl : (xs.set 0 y).length = xs.length := List.length_set
    have hr2 : Own 3 w8 w0.heap.size Z d (xs.set 0 y) := by
      show Row w8 w0.heap.size 3 1 Z (xs.set 0 y).length d (ints (xs.set 0 y))
      rw [hl, show ints (xs.set 0 y) = (ints xs).set 0 (.int .i64 y) from by simp [ints]]
      exact hr
    have H := H.set (i := 1) rfl (it' := ows Z d (xs.set 0 y)) (gx_of hg fun q hq => hq) (fun q hq => .inl hq) (fun q hq => (Row.ge hr2 hq).2) (zdi_ hr2)
    simp only [List.set_cons_zero, List.set_cons_succ] at H
    exact hK _ _ ⟨_, Z, d, xs.set 0 y, by rw [hl]; exact f7, by omega, by omega, H⟩
  simp only [show ((0 : Int) < (o : Int)) from by omega, decide_true, zq18, zq19, zq20, zq21, zq22, zq23, zq24, zq25, zq26, zq27, zq28, zq4, zq3, zq1, zq2, zq0, zq29, zq30, zq14, zq15, zq16, zq17, zq13, zq10, zq12, zq11, zq7, zq5, zq6, zq9, zq8, zq31, zq32, ite_T, ite_F, zq33, zq34, zq35, Nat.reduceEqDiff, len22, len24, fa26_0, fa26_1, fa26_2, len27, fa33_0, fa33_1, len35, fa114_0, fa114_1, fa114_2, fa124_0, fa124_1, len134]
  rw [ldB3 (H.box 2 rfl) rfl]
  refine l1Most_c ?_
  refine zvc_ H 0 rfl hC (by omega) (by split <;> omega) fun w4 y _ _ H => ?_
  simp only [List.set_cons_zero] at H
  refine pushH H 1 rfl rfl (by omega) fun t1 Z2 d2 w5 H => ?_
  simp only [List.set_cons_zero, List.set_cons_succ, zq18, zq19, zq20, zq21, zq22, zq23, zq24, zq25, zq26, zq27, zq28, zq4, zq3, zq1, zq2, zq0, zq29, zq30, zq14, zq15, zq16, zq17, zq13, zq10, zq12, zq11, zq7, zq5, zq6, zq9, zq8, zq31, zq32, ite_T, ite_F, zq33, zq34, zq35, Nat.reduceEqDiff, len22, len24, fa26_0, fa26_1, fa26_2, len27, fa33_0, fa33_1, len35, fa114_0, fa114_1, fa114_2, fa124_0, fa124_1, len134] at H ⊢
  rw [zt_ (by omega) (by omega), show (o : Int) - 1 = ((o - 1 : Nat) : Int) from by omega]
  exact hN' (o - 1) _ _ ⟨by omega, rfl, _, Z2, d2, xs ++ [(y : Int)], rfl, by omega, by rw [List.length_append, List.length_singleton]; omega, H⟩ (by omega)
set_option maxHeartbeats 1600000 in
theorem wordIn_c (H : Apt w0 w (cur bc (.slice C bs.length cap) N :: E)) (hC : Byts w0 C bs) (hN : N ≤ 1000000) {gm : Gram} {Y : Option Addr} {cy : Nat} (hc : gm.rules.length ≤ cy) (hy : RulesF (fun _ => True) w Y gm.rules) (ht : 0 ≤ gm.toks ∧ gm.toks ≤ 1000) (hk : ∀ w' Z d ws, ws.length ≤ 20 → Apt w0 w' (cur bc (.slice C bs.length cap) (N + 200) :: ows Z d ws :: E) → k (.slice Z ws.length d) w') :
    CallK Try.prog 147 [ptrv bc, .agg #[.int .i64 gm.nons, .int .i64 gm.toks, .slice Y gm.rules.length cy]] k w := by
  refine enter147 ?_
  unfold S147
  refine zwb_ fun b1 w1 g1 hb1 hB1 => ?_
  have H := (H.addBox g1 hb1 hB1).insert 1
  simp only [List.take_succ_cons, List.take_zero, List.drop_succ_cons, List.drop_zero, List.nil_append, List.cons_append] at H
  rw [zj_ zu_ sz26 rfl (H.box 1 rfl)]
  refine zik_ (gm := gm) (most := 3) ⟨Y, cy, rfl, hc, hy.gr g1⟩ fun w2 U d ps g2 o2 => ?_
  have H := (H.addLss g2 o2).insert 1
  simp only [List.take_succ_cons, List.take_zero, List.drop_succ_cons, List.drop_zero, List.nil_append, List.cons_append] at H
  have hsv : ∀ x ∈ (shortV gm 3).1, x.length ≤ 4 := fun x hx => by
    unfold shortV at hx
    split at hx
    · have := (shortW_mem hx).1
      simp at this
      omega
    · simp at hx
  have hsl : (shortV gm 3).1.length ≤ 10000 := by
    unfold shortV
    split
    · rename_i hh
      simp only [Bool.and_eq_true] at hh
      have := ztm_ (gm := gm) (n := (3 : Int).toNat + 1) (by have := (zve_ hh.1).2; omega) (by decide)
      simp at this ⊢
      omega
    · simp
  generalize hSW : (shortV gm 3).1 = SW at *
  generalize (shortV gm 3).2 = okb at *
  have sec : ∀ {w' : World} {N' : Nat}, N' ≤ N + 100 → Apt w0 w' (cur bc (.slice C bs.length cap) N' :: lss U d SW ps :: bx b1 (Value.agg #[.int .i64 gm.nons, .int .i64 gm.toks, .slice Y gm.rules.length cy]).cells.toList 26 :: E) → Rd Try.prog (WS.at w') (zc_ 26 (ptrv b1)) fun t34 => CallK Try.prog 218 [ptrv bc, t34, .int .i64 5] (fun t35 w36 => k t35 w36) w' := fun {w' N'} hn H => by
    rw [zj_ zu_ sz26 rfl (H.box 2 rfl)]
    have H := (H.erase 2).erase 1
    simp only [List.eraseIdx_cons_zero, List.eraseIdx_cons_succ] at H
    refine word_c H hC (by omega) (by omega) ht fun w3 Z d ws hl H => ?_
    exact hk w3 Z d ws (by omega) (zpd_ H (by omega))
  simp only [zq18, zq19, zq20, zq21, zq22, zq23, zq24, zq25, zq26, zq27, zq28, zq4, zq3, zq1, zq2, zq0, zq29, zq30, zq14, zq15, zq16, zq17, zq13, zq10, zq12, zq11, zq7, zq5, zq6, zq9, zq8, zq31, zq32, ite_T, ite_F, zq33, zq34, zq35, Nat.reduceEqDiff, len22, len24, fa26_0, fa26_1, fa26_2, len27, fa33_0, fa33_1, len35, fa114_0, fa114_1, fa114_2, fa124_0, fa124_1, len134]
  cases okb
  · simp only [zq18, zq19, zq20, zq21, zq22, zq23, zq24, zq25, zq26, zq27, zq28, zq4, zq3, zq1, zq2, zq0, zq29, zq30, zq14, zq15, zq16, zq17, zq13, zq10, zq12, zq11, zq7, zq5, zq6, zq9, zq8, zq31, zq32, ite_T, ite_F, zq33, zq34, zq35, Nat.reduceEqDiff, len22, len24, fa26_0, fa26_1, fa26_2, len27, fa33_0, fa33_1, len35, fa114_0, fa114_1, fa114_2, fa124_0, fa124_1, len134]
    exact sec (by omega) H
  simp only [zq18, zq19, zq20, zq21, zq22, zq23, zq24, zq25, zq26, zq27, zq28, zq4, zq3, zq1, zq2, zq0, zq29, zq30, zq14, zq15, zq16, zq17, zq13, zq10, zq12, zq11, zq7, zq5, zq6, zq9, zq8, zq31, zq32, ite_T, ite_F, zq33, zq34, zq35, Nat.reduceEqDiff, len22, len24, fa26_0, fa26_1, fa26_2, len27, fa33_0, fa33_1, len35, fa114_0, fa114_1, fa114_2, fa124_0, fa124_1, len134]
  by_cases hl0 : SW.length = 0
  · simp only [show ¬ ((0 : Int) < (SW.length : Int)) from by omega, decide_false, zq18, zq19, zq20, zq21, zq22, zq23, zq24, zq25, zq26, zq27, zq28, zq4, zq3, zq1, zq2, zq0, zq29, zq30, zq14, zq15, zq16, zq17, zq13, zq10, zq12, zq11, zq7, zq5, zq6, zq9, zq8, zq31, zq32, ite_T, ite_F, zq33, zq34, zq35, Nat.reduceEqDiff, len22, len24, fa26_0, fa26_1, fa26_2, len27, fa33_0, fa33_1, len35, fa114_0, fa114_1, fa114_2, fa124_0, fa124_1, len134]
    exact sec (by omega) H
  simp only [show ((0 : Int) < (SW.length : Int)) from by omega, decide_true, zq18, zq19, zq20, zq21, zq22, zq23, zq24, zq25, zq26, zq27, zq28, zq4, zq3, zq1, zq2, zq0, zq29, zq30, zq14, zq15, zq16, zq17, zq13, zq10, zq12, zq11, zq7, zq5, zq6, zq9, zq8, zq31, zq32, ite_T, ite_F, zq33, zq34, zq35, Nat.reduceEqDiff, len22, len24, fa26_0, fa26_1, fa26_2, len27, fa33_0, fa33_1, len35, fa114_0, fa114_1, fa114_2, fa124_0, fa124_1, len134]
  refine one_c H 0 rfl hC (by omega) (by omega) fun w4 b H => ?_
  simp only [List.set_cons_zero] at H
  cases b
  · simp only [zq18, zq19, zq20, zq21, zq22, zq23, zq24, zq25, zq26, zq27, zq28, zq4, zq3, zq1, zq2, zq0, zq29, zq30, zq14, zq15, zq16, zq17, zq13, zq10, zq12, zq11, zq7, zq5, zq6, zq9, zq8, zq31, zq32, ite_T, ite_F, zq33, zq34, zq35, Nat.reduceEqDiff, len22, len24, fa26_0, fa26_1, fa26_2, len27, fa33_0, fa33_1, len35, fa114_0, fa114_1, fa114_2, fa124_0, fa124_1, len134]
    exact sec (by omega) H
  simp only [zq18, zq19, zq20, zq21, zq22, zq23, zq24, zq25, zq26, zq27, zq28, zq4, zq3, zq1, zq2, zq0, zq29, zq30, zq14, zq15, zq16, zq17, zq13, zq10, zq12, zq11, zq7, zq5, zq6, zq9, zq8, zq31, zq32, ite_T, ite_F, zq33, zq34, zq35, Nat.reduceEqDiff, len22, len24, fa26_0, fa26_1, fa26_2, len27, fa33_0, fa33_1, len35, fa114_0, fa114_1, fa114_2, fa124_0, fa124_1, len134]
  refine zvc_ H 0 rfl hC (by omega) (by omega) fun w5 j h1 h2 H => ?_
  simp only [List.set_cons_zero] at H
  have hj : j < SW.length := by
    by_cases h : (SW.length : Int) ≤ 1
    · have := h1 h; omega
    · have := h2 (by omega); omega
  have hr := (H.lssi 1 rfl).read
  obtain ⟨Z, cz, t1, t2, t3⟩ := hr.row j hj
  have hx4 := hsv _ (rgt_mem hj)
  refine rdi (ixn35 hr.ptr hj) (rdi (ld27 t1) ?_)
  refine zyh_ t3 rfl (by omega) fun X1 d1 w6 g6 o6 => ?_
  have H := (H.addOwn g6 o6).insert 1
  simp only [List.take_succ_cons, List.take_zero, List.drop_succ_cons, List.drop_zero, List.nil_append, List.cons_append] at H
  refine zmd_ (fun f w' => ∃ N2 Z d, ∃ ws : List Int, f 7 = .slice Z ws.length d ∧ N2 ≤ N + 200 ∧ ws.length ≤ 20 ∧ Apt w0 w' (cur bc (.slice C bs.length cap) N2 :: ows Z d ws :: E)) (fun K hK => ?_) ?_
  case refine_2 =>
    rintro f w' ⟨N2, Z, d, ws, f7, h1, h2, H⟩
    rw [f7]
    exact hk w' Z d ws h2 (zpd_ H h1)
  refine one_c H 0 rfl hC (by omega) (by omega) fun w7 b H => ?_
  simp only [List.set_cons_zero] at H
  have H := (H.erase 3).erase 2
  simp only [List.eraseIdx_cons_zero, List.eraseIdx_cons_succ] at H
  cases b
  · simp only [zq18, zq19, zq20, zq21, zq22, zq23, zq24, zq25, zq26, zq27, zq28, zq4, zq3, zq1, zq2, zq0, zq29, zq30, zq14, zq15, zq16, zq17, zq13, zq10, zq12, zq11, zq7, zq5, zq6, zq9, zq8, zq31, zq32, ite_T, ite_F, zq33, zq34, zq35, Nat.reduceEqDiff, len22, len24, fa26_0, fa26_1, fa26_2, len27, fa33_0, fa33_1, len35, fa114_0, fa114_1, fa114_2, fa124_0, fa124_1, len134]
    exact hK _ _ ⟨_, X1, d1, rgt SW j, rfl, by omega, by omega, H⟩
  simp only [zq18, zq19, zq20, zq21, zq22, zq23, zq24, zq25, zq26, zq27, zq28, zq4, zq3, zq1, zq2, zq0, zq29, zq30, zq14, zq15, zq16, zq17, zq13, zq10, zq12, zq11, zq7, zq5, zq6, zq9, zq8, zq31, zq32, ite_T, ite_F, zq33, zq34, zq35, Nat.reduceEqDiff, len22, len24, fa26_0, fa26_1, fa26_2, len27, fa33_0, fa33_1, len35, fa114_0, fa114_1, fa114_2, fa124_0, fa124_1, len134]
  refine apH H 1 rfl (H.ints 1 rfl) rfl rfl (by omega) fun X2 d2 w8 H => ?_
  simp only [List.set_cons_zero, List.set_cons_succ] at H
  exact hK _ _ ⟨_, X2, d2, rgt SW j ++ rgt SW j, rfl, by omega, by rw [List.length_append]; omega, H⟩
end
open Go Go.Sh

def pl15 : Plans := fun _ => ⟨false, [], .nil⟩
def S15 (v0 v1 : Value) (k : Value → World → Prop) (w : World) : Prop :=
 Rd Try.prog (WS.at w) (ze_ .len #[22] 3 [false] [v0]) fun t1 =>
 Rd Try.prog (WS.at w) (sBin .gtr 3 true t1 (.int .i64 1048576)) fun t2 =>
 zb_ t2 false (fun k w' => k v1 w') (fun t3 w4 =>
 zb_ t2 false (fun k w' => Rd Try.prog (WS.at w4) (ze_ .len #[22] 3 [false] [t3]) fun v => k v w') (fun t5 w6 =>
 zb_ t2 false (fun k w' => k v0 w') (fun t7 w8 =>
 zb_ t2 false (fun k w' => Rd Try.prog (WS.at w8) (ze_ .len #[22] 3 [false] [t7]) fun v => k v w') (fun t9 w10 =>
 zb_ t2 false (fun k w' => Rd Try.prog (WS.at w10) (sBin .sub 3 true (.int .i64 1048576) t9) fun v => k v w') (fun t11 w12 =>
 zb_ t2 false (fun k w' => Rd Try.prog (WS.at w12) (sBin .gtr 3 false t5 t11) fun v => k v w') (fun t13 w14 =>
 Rd Try.prog (WS.at w14) (zeb_ t2 (.bool true) t13) fun t15 =>
 k t15 w14) w12) w10) w8) w6) w4) w
theorem body15 : Try.f15.body = some (zg_ Try.f15) := by kernel_rfl
theorem same15 (v0 v1 : Value) (k : Value → World → Prop) (w : World) : wpF Try.prog pl15 (zg_ Try.f15) (zr_ Try.prog Try.f15.results.toList k) (zp_ [v0, v1]) w = S15 v0 v1 k w := by kernel_rfl
theorem enter15 {v0 v1 : Value} {k : Value → World → Prop} {w : World} (h : S15 v0 v1 k w) : CallK Try.prog 15 [v0, v1] k w :=
  call_of_wpF (pl := pl15) mixed Try.func15 body15 (by kernel_rfl) (of_decide_eq_true (by kernel_rfl)) (by kernel_rfl) (by kernel_rfl) (Eq.mpr (same15 v0 v1 k w) h)

def pl26 : Plans := fun _ => ⟨false, [], .nil⟩
def S26 (v0 v1 : Value) (k : Value → World → Prop) (w : World) : Prop :=
 Do Try.prog (sBox 26 v0) (fun t1 w2 =>
 Rd Try.prog (WS.at w2) (zc_ 26 t1) fun t3 =>
 CallK Try.prog 148 [t3] (fun t4 w5 =>
 Rd Try.prog (WS.at w5) (sUn .not t4) fun t6 =>
 zb_ t6 false (fun k w' => Rd Try.prog (WS.at w5) (za_ 26 t1 1) fun v => k v w') (fun t7 w8 =>
 zb_ t6 false (fun k w' => Rd Try.prog (WS.at w8) (zc_ 3 t7) fun v => k v w') (fun t9 w10 =>
 zb_ t6 false (fun k w' => k v1 w') (fun t11 w12 =>
 zb_ t6 false (fun k w' => CallK Try.prog 150 [t9, t11] k w') (fun t13 w14 =>
 zb_ t6 false (fun k w' => Rd Try.prog (WS.at w14) (sUn .not t13) fun v => k v w') (fun t15 w16 =>
 Rd Try.prog (WS.at w16) (zeb_ t6 (.bool true) t15) fun t17 =>
 zm_ t17
  (k (.tuple #[(.bool false), (.bool false)]) w16)
  (Rd Try.prog (WS.at w16) (zc_ 26 t1) fun t18 =>
  CallK Try.prog 151 [t18, v1] (fun t19 w20 =>
  Rd Try.prog (WS.at w20) (ze_ .len #[27] 3 [false] [v1]) fun t21 =>
  Rd Try.prog (WS.at w20) (zvb_ t19) fun t22 =>
  Rd Try.prog (WS.at w20) (za_ 124 t22 1) fun t23 =>
  Rd Try.prog (WS.at w20) (zf_ 122 t23 (.int .i64 0)) fun t24 =>
  Rd Try.prog (WS.at w20) (zf_ 121 t24 (.int .i64 0)) fun t25 =>
  Rd Try.prog (WS.at w20) (zf_ 120 t25 t21) fun t26 =>
  Rd Try.prog (WS.at w20) (zc_ 4 t26) fun t27 =>
  k (.tuple #[t27, (.bool true)]) w20) w16)) w14) w12) w10) w8) w5) w2) w
theorem body26 : Try.f26.body = some (zg_ Try.f26) := by kernel_rfl
theorem same26 (v0 v1 : Value) (k : Value → World → Prop) (w : World) : wpF Try.prog pl26 (zg_ Try.f26) (zr_ Try.prog Try.f26.results.toList k) (zp_ [v0, v1]) w = S26 v0 v1 k w := by kernel_rfl
theorem enter26 {v0 v1 : Value} {k : Value → World → Prop} {w : World} (h : S26 v0 v1 k w) : CallK Try.prog 26 [v0, v1] k w :=
  call_of_wpF (pl := pl26) mixed Try.func26 body26 (by kernel_rfl) (of_decide_eq_true (by kernel_rfl)) (by kernel_rfl) (by kernel_rfl) (Eq.mpr (same26 v0 v1 k w) h)

def pl34 : Plans := fun i => match i with
  | 6 => ⟨false, [], .step 0 .any (.step 1 .any (.step 2 .any (.step 3 .held (.step 4 .any (.step 5 .any (.step 6 .any (.step 7 .held (.step 8 .any (.nil)))))))))⟩
  | _ => ⟨false, [], .nil⟩
def S34 (v0 v1 : Value) (k : Value → World → Prop) (w : World) : Prop :=
 Rd Try.prog (WS.at w) (ze_ .len #[27] 3 [false] [v0]) fun t1 =>
 Rd Try.prog (WS.at w) (ze_ .len #[27] 3 [false] [v1]) fun t2 =>
 Rd Try.prog (WS.at w) (sBin .neq 3 false t1 t2) fun t3 =>
 zm_ t3
  (k (.bool false) w)
  (Rd Try.prog (WS.at w) (ze_ .len #[27] 3 [false] [v0]) fun t4 =>
  zrb_ [14, 15, 5, 16, 17, 18, 19, 20, 21, 22, 23, 24, 4, 25, 13] (fun Q5 f6 w7 =>
   Rd Try.prog (WS.at w7) (sBin .lss 3 false (f6 13) (f6 12)) fun t8 =>
   zm_ t8
    (Rd Try.prog WS.any (zf_ 27 (f6 0) (f6 13)) fun t9 =>
    Rd Try.prog (WS.at w7.drew) (zc_ 3 t9) fun t10 =>
    Rd Try.prog WS.any (zf_ 27 (f6 1) (f6 13)) fun t11 =>
    Rd Try.prog (WS.at w7.drew) (zc_ 3 t11) fun t12 =>
    Rd Try.prog WS.any (sBin .neq 3 false t10 t12) fun t13 =>
    zm_ t13
     (Q5 .ret (F.upd (F.upd (F.upd (F.upd (F.upd (F.upd (F.upd (F.upd (F.upd (F.upd (F.upd (F.upd (F.upd f6 14 t8) 15 (f6 13)) 5 (f6 13)) 16 (f6 0)) 17 (f6 13)) 18 t9) 19 t10) 20 (f6 1)) 21 (f6 13)) 22 t11) 23 t12) 24 t13) 4 (.bool false)) w7.drew)
     (Rd Try.prog (WS.at w7.drew) (sBin .add 3 true (f6 13) (.int .i64 1)) fun t14 =>
     Q5 .normal (F.upd (F.upd (F.upd (F.upd (F.upd (F.upd (F.upd (F.upd (F.upd (F.upd (F.upd (F.upd (F.upd (F.upd f6 14 t8) 15 (f6 13)) 5 (f6 13)) 16 (f6 0)) 17 (f6 13)) 18 t9) 19 t10) 20 (f6 1)) 21 (f6 13)) 22 t11) 23 t12) 24 t13) 25 t14) 13 t14) w7.drew))
    (Q5 (.exit 0) (F.upd f6 14 t8) w7))
   (zx_ 0 (seqQ (fun f15 w16 =>
  k (.bool true) w16) (zr_ Try.prog [.tmp 4] k)))
   (F.upd (F.upd (F.upd (F.upd (F.upd (F.upd (F.upd (F.upd (F.upd (zp_ [v0, v1]) 4 (.bool false)) 6 v0) 7 t1) 8 v1) 9 t2) 10 t3) 11 v0) 12 t4) 13 (.int .i64 0)) w)
theorem body34 : Try.f34.body = some (zg_ Try.f34) := by kernel_rfl
theorem same34 (v0 v1 : Value) (k : Value → World → Prop) (w : World) : wpF Try.prog pl34 (zg_ Try.f34) (zr_ Try.prog Try.f34.results.toList k) (zp_ [v0, v1]) w = S34 v0 v1 k w := by kernel_rfl
theorem enter34 {v0 v1 : Value} {k : Value → World → Prop} {w : World} (h : S34 v0 v1 k w) : CallK Try.prog 34 [v0, v1] k w :=
  call_of_wpF (pl := pl34) mixed Try.func34 body34 (by kernel_rfl) (of_decide_eq_true (by kernel_rfl)) (by kernel_rfl) (by kernel_rfl) (Eq.mpr (same34 v0 v1 k w) h)

def pl43 : Plans := fun i => match i with
  | 3 => ⟨true, [4], .step 0 .held (.step 1 .any (.step 2 .held (.step 3 .one (.step 4 .last (.step 5 .any (.nil))))))⟩
  | _ => ⟨false, [], .nil⟩
def S43 (v0 : Value) (k : Value → World → Prop) (w : World) : Prop :=
 Do Try.prog (zw_ 26) (fun t1 w2 =>
 Rd Try.prog (WS.at w2) (zy_ 114 [(0, v0)]) fun t3 =>
 Do Try.prog (sBox 114 t3) (fun t4 w5 =>
 CallK Try.prog 145 [t4] (fun t6 w7 =>
 Do Try.prog (zw_ 26) (fun t8 w9 =>
 Do Try.prog (zi_ 26 t8 t6) (fun _ w10 =>
 ∃ U11 : World → Prop, ∃ h12 : U11 w10.drew,
 Rd Try.prog ⟨U11, w10.drew, h12⟩ (zc_ 26 t8) fun t13 =>
 Rd Try.prog ⟨U11, w10.drew, h12⟩ (zc_ 26 t8) fun t14 =>
 CallK Try.prog 147 [t4, t14] (fun t15 w16 =>
 U11 w16 ∧ Do Try.prog (zi_ 26 t1 t13) (fun _ w17 =>
 Rd Try.prog (WS.at w17) (zib_ 26 t1) fun t18 => k (.tuple #[t18, t15]) w17) w16) w10.drew) w9) w7) w5) w2) w
theorem body43 : Try.f43.body = some (zg_ Try.f43) := by kernel_rfl
theorem same43 (v0 : Value) (k : Value → World → Prop) (w : World) : wpF Try.prog pl43 (zg_ Try.f43) (zr_ Try.prog Try.f43.results.toList k) (zp_ [v0]) w = S43 v0 k w := by kernel_rfl
theorem enter43 {v0 : Value} {k : Value → World → Prop} {w : World} (h : S43 v0 k w) : CallK Try.prog 43 [v0] k w :=
  call_of_wpF (pl := pl43) mixed Try.func43 body43 (by kernel_rfl) (of_decide_eq_true (by kernel_rfl)) (by kernel_rfl) (by kernel_rfl) (Eq.mpr (same43 v0 k w) h)


def pl41 : Plans := fun _ => ⟨false, [], .nil⟩
def S41 (v0 v1 : Value) (k : Value → World → Prop) (w : World) : Prop :=
 Do Try.prog (sBox 26 v0) (fun t1 w2 =>
 Do Try.prog (sBox 26 v1) (fun t3 w4 =>
 Rd Try.prog (WS.at w4) (za_ 26 t1 0) fun t5 =>
 Rd Try.prog (WS.at w4) (zc_ 3 t5) fun t6 =>
 Rd Try.prog (WS.at w4) (za_ 26 t3 0) fun t7 =>
 Rd Try.prog (WS.at w4) (zc_ 3 t7) fun t8 =>
 Rd Try.prog (WS.at w4) (sBin .eql 3 false t6 t8) fun t9 =>
 zb_ t9 true (fun k w' => Rd Try.prog (WS.at w4) (za_ 26 t1 1) fun v => k v w') (fun t10 w11 =>
 zb_ t9 true (fun k w' => Rd Try.prog (WS.at w11) (zc_ 3 t10) fun v => k v w') (fun t12 w13 =>
 zb_ t9 true (fun k w' => Rd Try.prog (WS.at w13) (za_ 26 t3 1) fun v => k v w') (fun t14 w15 =>
 zb_ t9 true (fun k w' => Rd Try.prog (WS.at w15) (zc_ 3 t14) fun v => k v w') (fun t16 w17 =>
 zb_ t9 true (fun k w' => Rd Try.prog (WS.at w17) (sBin .eql 3 false t12 t16) fun v => k v w') (fun t18 w19 =>
 Rd Try.prog (WS.at w19) (zeb_ t9 t18 (.bool false)) fun t20 =>
 zb_ t20 true (fun k w' => Rd Try.prog (WS.at w19) (za_ 26 t1 2) fun v => k v w') (fun t21 w22 =>
 zb_ t20 true (fun k w' => Rd Try.prog (WS.at w22) (zc_ 24 t21) fun v => k v w') (fun t23 w24 =>
 zb_ t20 true (fun k w' => Rd Try.prog (WS.at w24) (za_ 26 t3 2) fun v => k v w') (fun t25 w26 =>
 zb_ t20 true (fun k w' => Rd Try.prog (WS.at w26) (zc_ 24 t25) fun v => k v w') (fun t27 w28 =>
 zb_ t20 true (fun k w' => CallK Try.prog 172 [t23, t27] k w') (fun t29 w30 =>
 Rd Try.prog (WS.at w30) (zeb_ t20 t29 (.bool false)) fun t31 =>
 k t31 w30) w28) w26) w24) w22) w19) w17) w15) w13) w11) w4) w2) w
theorem body41 : Try.f41.body = some (zg_ Try.f41) := by kernel_rfl
theorem same41 (v0 v1 : Value) (k : Value → World → Prop) (w : World) : wpF Try.prog pl41 (zg_ Try.f41) (zr_ Try.prog Try.f41.results.toList k) (zp_ [v0, v1]) w = S41 v0 v1 k w := by kernel_rfl
theorem enter41 {v0 v1 : Value} {k : Value → World → Prop} {w : World} (h : S41 v0 v1 k w) : CallK Try.prog 41 [v0, v1] k w :=
  call_of_wpF (pl := pl41) mixed Try.func41 body41 (by kernel_rfl) (of_decide_eq_true (by kernel_rfl)) (by kernel_rfl) (by kernel_rfl) (Eq.mpr (same41 v0 v1 k w) h)

def pl172 : Plans := fun i => match i with
  | 6 => ⟨false, [22], .step 0 .any (.step 1 .any (.step 2 .any (.step 3 .any (.step 4 .held (.step 5 .any (.step 6 .any (.step 7 .any (.step 8 .any (.step 9 .held (.step 10 .any (.step 11 .any (.step 12 .any (.step 13 .any (.step 14 .any (.step 15 .any (.step 16 .held (.step 17 .any (.step 18 .any (.step 19 .any (.step 20 .any (.step 21 .held (.step 22 .last (.step 23 .any (.step 24 .any (.nil)))))))))))))))))))))))))⟩
  | _ => ⟨false, [], .nil⟩
def S172 (v0 v1 : Value) (k : Value → World → Prop) (w : World) : Prop :=
 Rd Try.prog (WS.at w) (ze_ .len #[24] 3 [false] [v0]) fun t1 =>
 Rd Try.prog (WS.at w) (ze_ .len #[24] 3 [false] [v1]) fun t2 =>
 Rd Try.prog (WS.at w) (sBin .neq 3 false t1 t2) fun t3 =>
 zm_ t3
  (k (.bool false) w)
  (Rd Try.prog (WS.at w) (ze_ .len #[24] 3 [false] [v0]) fun t4 =>
  zrb_ [14, 15, 5, 16, 17, 18, 19, 20, 21, 22, 23, 24, 25, 26, 27, 28, 29, 30, 31, 32, 33, 34, 35, 36, 37, 38, 39, 40, 4, 41, 13] (fun Q5 f6 w7 =>
   Rd Try.prog (WS.at w7) (sBin .lss 3 false (f6 13) (f6 12)) fun t8 =>
   zm_ t8
    (Rd Try.prog WS.any (zf_ 24 (f6 0) (f6 13)) fun t9 =>
    Rd Try.prog WS.any (za_ 33 t9 0) fun t10 =>
    Rd Try.prog (WS.at w7.drew) (zc_ 3 t10) fun t11 =>
    Rd Try.prog WS.any (zf_ 24 (f6 1) (f6 13)) fun t12 =>
    Rd Try.prog WS.any (za_ 33 t12 0) fun t13 =>
    Rd Try.prog (WS.at w7.drew) (zc_ 3 t13) fun t14 =>
    Rd Try.prog WS.any (sBin .neq 3 false t11 t14) fun t15 =>
    zb_ t15 false (fun k w' => k (f6 0) w') (fun t16 w17 =>
    zb_ t15 false (fun k w' => k (f6 13) w') (fun t18 w19 =>
    zb_ t15 false (fun k w' => Rd Try.prog WS.any (zf_ 24 t16 t18) fun v => k v w') (fun t20 w21 =>
    zb_ t15 false (fun k w' => Rd Try.prog WS.any (za_ 33 t20 1) fun v => k v w') (fun t22 w23 =>
    zb_ t15 false (fun k w' => Rd Try.prog (WS.at w7.drew) (zc_ 27 t22) fun v => k v w') (fun t24 w25 =>
    zb_ t15 false (fun k w' => k (f6 1) w') (fun t26 w27 =>
    zb_ t15 false (fun k w' => k (f6 13) w') (fun t28 w29 =>
    zb_ t15 false (fun k w' => Rd Try.prog WS.any (zf_ 24 t26 t28) fun v => k v w') (fun t30 w31 =>
    zb_ t15 false (fun k w' => Rd Try.prog WS.any (za_ 33 t30 1) fun v => k v w') (fun t32 w33 =>
    zb_ t15 false (fun k w' => Rd Try.prog (WS.at w7.drew) (zc_ 27 t32) fun v => k v w') (fun t34 w35 =>
    zb_ t15 false (fun k w' => CallK Try.prog 34 [t24, t34] k w') (fun t36 w37 =>
    zb_ t15 false (fun k w' => Rd Try.prog WS.any (sUn .not t36) fun v => k v w') (fun t38 w39 =>
    Rd Try.prog WS.any (zeb_ t15 (.bool true) t38) fun t40 =>
    zm_ t40
     (Q5 .ret (F.upd (F.upd (F.upd (F.upd (F.upd (F.upd (F.upd (F.upd (F.upd (F.upd (F.upd (F.upd (F.upd (F.upd (F.upd (F.upd (F.upd (F.upd (F.upd (F.upd (F.upd (F.upd (F.upd (F.upd (F.upd (F.upd (F.upd (F.upd (F.upd f6 14 t8) 15 (f6 13)) 5 (f6 13)) 16 (f6 0)) 17 (f6 13)) 18 t9) 19 t10) 20 t11) 21 (f6 1)) 22 (f6 13)) 23 t12) 24 t13) 25 t14) 26 t15) 27 t15) 28 t16) 29 t18) 30 t20) 31 t22) 32 t24) 33 t26) 34 t28) 35 t30) 36 t32) 37 t34) 38 t36) 39 t38) 40 t40) 4 (.bool false)) w39)
     (Rd Try.prog (WS.at w39) (sBin .add 3 true (f6 13) (.int .i64 1)) fun t41 =>
     Q5 .normal (F.upd (F.upd (F.upd (F.upd (F.upd (F.upd (F.upd (F.upd (F.upd (F.upd (F.upd (F.upd (F.upd (F.upd (F.upd (F.upd (F.upd (F.upd (F.upd (F.upd (F.upd (F.upd (F.upd (F.upd (F.upd (F.upd (F.upd (F.upd (F.upd (F.upd f6 14 t8) 15 (f6 13)) 5 (f6 13)) 16 (f6 0)) 17 (f6 13)) 18 t9) 19 t10) 20 t11) 21 (f6 1)) 22 (f6 13)) 23 t12) 24 t13) 25 t14) 26 t15) 27 t15) 28 t16) 29 t18) 30 t20) 31 t22) 32 t24) 33 t26) 34 t28) 35 t30) 36 t32) 37 t34) 38 t36) 39 t38) 40 t40) 41 t41) 13 t41) w39)) w37) w35) w33) w31) w29) w27) w25) w23) w21) w19) w17) w7.drew)
    (Q5 (.exit 0) (F.upd f6 14 t8) w7))
   (zx_ 0 (seqQ (fun f42 w43 =>
  k (.bool true) w43) (zr_ Try.prog [.tmp 4] k)))
   (F.upd (F.upd (F.upd (F.upd (F.upd (F.upd (F.upd (F.upd (F.upd (zp_ [v0, v1]) 4 (.bool false)) 6 v0) 7 t1) 8 v1) 9 t2) 10 t3) 11 v0) 12 t4) 13 (.int .i64 0)) w)
theorem body172 : Try.f172.body = some (zg_ Try.f172) := by kernel_rfl
theorem same172 (v0 v1 : Value) (k : Value → World → Prop) (w : World) : wpF Try.prog pl172 (zg_ Try.f172) (zr_ Try.prog Try.f172.results.toList k) (zp_ [v0, v1]) w = S172 v0 v1 k w := by kernel_rfl
theorem enter172 {v0 v1 : Value} {k : Value → World → Prop} {w : World} (h : S172 v0 v1 k w) : CallK Try.prog 172 [v0, v1] k w :=
  call_of_wpF (pl := pl172) mixed Try.func172 body172 (by kernel_rfl) (of_decide_eq_true (by kernel_rfl)) (by kernel_rfl) (by kernel_rfl) (Eq.mpr (same172 v0 v1 k w) h)

def pl42 : Plans := fun _ => ⟨false, [], .nil⟩
def S42 (v0 : Value) (k : Value → World → Prop) (w : World) : Prop :=
 Do Try.prog (sBox 26 v0) (fun t1 w2 =>
 Rd Try.prog (WS.at w2) (zc_ 26 t1) fun t3 =>
 CallK Try.prog 148 [t3] (fun t4 w5 =>
 k t4 w5) w2) w
theorem body42 : Try.f42.body = some (zg_ Try.f42) := by kernel_rfl
theorem same42 (v0 : Value) (k : Value → World → Prop) (w : World) : wpF Try.prog pl42 (zg_ Try.f42) (zr_ Try.prog Try.f42.results.toList k) (zp_ [v0]) w = S42 v0 k w := by kernel_rfl
theorem enter42 {v0 : Value} {k : Value → World → Prop} {w : World} (h : S42 v0 k w) : CallK Try.prog 42 [v0] k w :=
  call_of_wpF (pl := pl42) mixed Try.func42 body42 (by kernel_rfl) (of_decide_eq_true (by kernel_rfl)) (by kernel_rfl) (by kernel_rfl) (Eq.mpr (same42 v0 k w) h)

def pl44 : Plans := fun _ => ⟨false, [], .nil⟩
def S44 (v0 v1 : Value) (k : Value → World → Prop) (w : World) : Prop :=
 Do Try.prog (sBox 26 v0) (fun t1 w2 =>
 Rd Try.prog (WS.at w2) (zc_ 26 t1) fun t3 =>
 CallK Try.prog 148 [t3] (fun t4 w5 =>
 zb_ t4 true (fun k w' => Rd Try.prog (WS.at w5) (za_ 26 t1 1) fun v => k v w') (fun t6 w7 =>
 zb_ t4 true (fun k w' => Rd Try.prog (WS.at w7) (zc_ 3 t6) fun v => k v w') (fun t8 w9 =>
 zb_ t4 true (fun k w' => k v1 w') (fun t10 w11 =>
 zb_ t4 true (fun k w' => CallK Try.prog 150 [t8, t10] k w') (fun t12 w13 =>
 Rd Try.prog (WS.at w13) (zeb_ t4 t12 (.bool false)) fun t14 =>
 k t14 w13) w11) w9) w7) w5) w2) w
theorem body44 : Try.f44.body = some (zg_ Try.f44) := by kernel_rfl
theorem same44 (v0 v1 : Value) (k : Value → World → Prop) (w : World) : wpF Try.prog pl44 (zg_ Try.f44) (zr_ Try.prog Try.f44.results.toList k) (zp_ [v0, v1]) w = S44 v0 v1 k w := by kernel_rfl
theorem enter44 {v0 v1 : Value} {k : Value → World → Prop} {w : World} (h : S44 v0 v1 k w) : CallK Try.prog 44 [v0, v1] k w :=
  call_of_wpF (pl := pl44) mixed Try.func44 body44 (by kernel_rfl) (of_decide_eq_true (by kernel_rfl)) (by kernel_rfl) (by kernel_rfl) (Eq.mpr (same44 v0 v1 k w) h)

end Go.Proofs.Ytegcjkhebecgbaa

namespace Go.Sh
open Go
def Kn (w : World) (L : List (World → Prop)) : Prop := ∀ (i : Nat) (P : World → Prop), L[i]? = some P → ∀ w', Gr w w' → P w'
section
variable {w w' : World} {L : List (World → Prop)} {P : World → Prop}
theorem Kn.step (H : Kn w L) (g : Gr w w') : Kn w' L := fun i P hi w'' g' => H i P hi w'' (zd_ g g')
theorem Kn.drew (H : Kn w L) : Kn w.drew L := H.step (zfc_ w)
theorem Kn.get (H : Kn w L) (i : Nat) (hi : L[i]? = some P) : P w := H i P hi w (Gr.refl w)
theorem Kn.nil (w : World) : Kn w [fun w' => Gr w w'] := fun i P hi w' g => by
  match i, hi with
  | 0, hi => obtain rfl := Option.some.inj hi; exact g
  | i + 1, hi => simp at hi
theorem Kn.add (H : Kn w L) (h : ∀ w', Gr w w' → P w') : Kn w (L ++ [P]) := fun i Q hi w' g => by
  rw [List.getElem?_append] at hi
  split at hi
  · exact H i Q hi w' g
  · rename_i hn
    match hk : i - L.length, hi with
    | 0, hi => simp at hi; subst hi; exact h w' g
    | k + 1, hi => simp at hi
end
abbrev kI (X : Option Addr) (xs : List Int) (c : Nat) : World → Prop := fun w => Ints w X xs ∧ xs.length ≤ c
abbrev kG (Y : Option Addr) (cy : Nat) (rs : List RuleL) : World → Prop := fun w => rs.length ≤ cy ∧ RulesF (fun _ => True) w Y rs
abbrev kB (b : Nat) (cs : List Value) (t : TypeId) : World → Prop := fun w => Box w b cs t
section
variable {w w' : World} {L : List (World → Prop)}
theorem Kn.addI (H : Kn w L) {X : Option Addr} {xs : List Int} {c : Nat} (h : Ints w X xs) (hc : xs.length ≤ c) : Kn w (L ++ [kI X xs c]) := H.add fun w' g => ⟨h.gr g, hc⟩
theorem Kn.addG (H : Kn w L) {Y : Option Addr} {cy : Nat} {rs : List RuleL} (hc : rs.length ≤ cy) (h : RulesF (fun _ => True) w Y rs) : Kn w (L ++ [kG Y cy rs]) := H.add fun w' g => ⟨hc, h.gr g⟩
theorem Kn.addB (H : Kn w L) {b : Nat} {cs : List Value} {t : TypeId} (h : Box w b cs t) : Kn w (L ++ [kB b cs t]) := H.add fun w' g => h.gr g
theorem gvK {Y : Option Addr} {cy : Nat} {gm : Gram} (h : kG Y cy gm.rules w) : GramV (fun _ => True) w (.agg #[.int .i64 gm.nons, .int .i64 gm.toks, .slice Y gm.rules.length cy]) gm := ⟨Y, cy, rfl, h.1, h.2⟩
end
theorem do_new {P : Program} {k : Value → World → Prop} {w : World} {L : List (World → Prop)} {t sz by' : Nat} {z : Value} {cs : List Value} (H : Kn w L) (I : Inf P t z sz by') (hs : szOf P t sz) (hz : z.cells.size = sz) (hl : cs.length = sz) (h1 : cs.all Value.oneCell' = true) (hv : (Value.agg cs.toArray).cells = cs.toArray)
    (h : ∀ b w', Kn w' (L ++ [kB b cs t]) → k (.pointer (some ⟨b, 0, none⟩)) w') : Do P (zw_ t) (fun p w1 => Do P (zi_ t p (.agg cs.toArray)) (fun _ w2 => k p w2) w1) w := by
  refine zmb_ I fun b w1 g1 hb B1 => ?_
  refine zfb_ (n := sz) hs (by rw [hv]; simpa using hl) (fun u hu => ?_) B1 (by simp [hz]) fun w2 g2 _ B2 => ?_
  · rw [hv] at hu
    exact List.all_eq_true.1 h1 u (by simpa using hu)
  · have g : Gr w w2 := zaf_ g1 g2 fun q hq => by
      obtain rfl := Option.some.inj hq
      exact hb
    refine h b w2 ((H.step g).addB ?_)
    have e : List.take 0 z.cells.toList ++ (Value.agg cs.toArray).cells.toList ++ List.drop (0 + sz) z.cells.toList = cs := by
      rw [hv, List.drop_eq_nil_of_le (by simp [hz])]
      simp
    rw [← e]
    exact B2
end Go.Sh
namespace Go.Proofs.Ytegcjkhebecgbaa
open Go Go.Sh Go.RowKit
theorem big_c {w : World} {X Y : Option Addr} {n m c d : Nat} (hn : n ≤ 9223372036854775807) (hm : m ≤ 9223372036854775807) {k : Value → World → Prop} (hk : ∀ b, k (.bool b) w) :
    CallK Try.prog 15 [.slice X n c, .slice Y m d] k w := by
  refine enter15 ?_
  unfold S15
  simp only [zq18, zq19, zq20, zq21, zq22, zq23, zq24, zq25, zq26, zq27, zq28, zq4, zq3, zq1, zq2, zq0, zq29, zq30, zq14, zq15, zq16, zq17, zq13, zq10, zq12, zq11, zq7, zq5, zq6, zq9, zq8, zq31, zq32, ite_T, ite_F, zq33, zq34, zq35, Nat.reduceEqDiff, len22, len24, fa26_0, fa26_1, fa26_2, len27, fa33_0, fa33_1, len35, fa114_0, fa114_1, fa114_2, fa124_0, fa124_1, len134]
  by_cases h : (1048576 : Int) < n
  · simp only [h, decide_true, zq18, zq19, zq20, zq21, zq22, zq23, zq24, zq25, zq26, zq27, zq28, zq4, zq3, zq1, zq2, zq0, zq29, zq30, zq14, zq15, zq16, zq17, zq13, zq10, zq12, zq11, zq7, zq5, zq6, zq9, zq8, zq31, zq32, ite_T, ite_F, zq33, zq34, zq35, Nat.reduceEqDiff, len22, len24, fa26_0, fa26_1, fa26_2, len27, fa33_0, fa33_1, len35, fa114_0, fa114_1, fa114_2, fa124_0, fa124_1, len134]
    exact hk _
  · simp only [h, decide_false, zq18, zq19, zq20, zq21, zq22, zq23, zq24, zq25, zq26, zq27, zq28, zq4, zq3, zq1, zq2, zq0, zq29, zq30, zq14, zq15, zq16, zq17, zq13, zq10, zq12, zq11, zq7, zq5, zq6, zq9, zq8, zq31, zq32, ite_T, ite_F, zq33, zq34, zq35, Nat.reduceEqDiff, len22, len24, fa26_0, fa26_1, fa26_2, len27, fa33_0, fa33_1, len35, fa114_0, fa114_1, fa114_2, fa124_0, fa124_1, len134]
    exact hk _
theorem zvm_ {w : World} {X Y : Option Addr} {c d : Nat} {xs ys : List Int} (hx : Ints w X xs) (hy : Ints w Y ys) {k : Value → World → Prop} (hk : ∀ w', Gr w w' → k (.bool (decide (xs = ys))) w') :
    CallK Try.prog 34 [.slice X xs.length c, .slice Y ys.length d] k w := by
  refine enter34 ?_
  unfold S34
  simp only [zq18, zq19, zq20, zq21, zq22, zq23, zq24, zq25, zq26, zq27, zq28, zq4, zq3, zq1, zq2, zq0, zq29, zq30, zq14, zq15, zq16, zq17, zq13, zq10, zq12, zq11, zq7, zq5, zq6, zq9, zq8, zq31, zq32, ite_T, ite_F, zq33, zq34, zq35, Nat.reduceEqDiff, len22, len24, fa26_0, fa26_1, fa26_2, len27, fa33_0, fa33_1, len35, fa114_0, fa114_1, fa114_2, fa124_0, fa124_1, len134]
  by_cases hl : xs.length = ys.length
  · simp only [Int.ofNat_inj, hl, decide_true, Bool.not_true, zq18, zq19, zq20, zq21, zq22, zq23, zq24, zq25, zq26, zq27, zq28, zq4, zq3, zq1, zq2, zq0, zq29, zq30, zq14, zq15, zq16, zq17, zq13, zq10, zq12, zq11, zq7, zq5, zq6, zq9, zq8, zq31, zq32, ite_T, ite_F, zq33, zq34, zq35, Nat.reduceEqDiff, len22, len24, fa26_0, fa26_1, fa26_2, len27, fa33_0, fa33_1, len35, fa114_0, fa114_1, fa114_2, fa124_0, fa124_1, len134]
    rw [← hl]
    refine ztb_ xs.length 0 (fun i f w' => i ≤ xs.length ∧ f 13 = .int .i64 i ∧ Gr w w' ∧ xs.take i = ys.take i) ⟨Nat.zero_le _, rfl, Gr.refl w, rfl⟩ ?_
    rintro i f w1 N hag ⟨hi, h13, hg, hpre⟩ hN
    have h0 : f 0 = .slice X xs.length c := hag 0 (by decide)
    have h1 : f 1 = .slice Y xs.length d := hag 1 (by decide)
    have h12 : f 12 = .int .i64 xs.length := hag 12 (by decide)
    simp only [h0, h1, h12, h13, zq18, zq19, zq20, zq21, zq22, zq23, zq24, zq25, zq26, zq27, zq28, zq4, zq3, zq1, zq2, zq0, zq29, zq30, zq14, zq15, zq16, zq17, zq13, zq10, zq12, zq11, zq7, zq5, zq6, zq9, zq8, zq31, zq32, ite_T, ite_F, zq33, zq34, zq35, Nat.reduceEqDiff, len22, len24, fa26_0, fa26_1, fa26_2, len27, fa33_0, fa33_1, len35, fa114_0, fa114_1, fa114_2, fa124_0, fa124_1, len134]
    by_cases hlt : i < xs.length
    · have hlt' : (i : Int) < xs.length := by omega
      have := hx.le
      simp only [hlt', decide_true, zq18, zq19, zq20, zq21, zq22, zq23, zq24, zq25, zq26, zq27, zq28, zq4, zq3, zq1, zq2, zq0, zq29, zq30, zq14, zq15, zq16, zq17, zq13, zq10, zq12, zq11, zq7, zq5, zq6, zq9, zq8, zq31, zq32, ite_T, ite_F, zq33, zq34, zq35, Nat.reduceEqDiff, len22, len24, fa26_0, fa26_1, fa26_2, len27, fa33_0, fa33_1, len35, fa114_0, fa114_1, fa114_2, fa124_0, fa124_1, len134]
      rw [zcc_ hx.ptr hlt, ld3 ((hx.gr (zd_ hg (zfc_ w1))).cell i hlt), zcc_ (hl ▸ hy.ptr) hlt, ld3 ((hy.gr (zd_ hg (zfc_ w1))).cell i (by omega))]
      simp only [zq18, zq19, zq20, zq21, zq22, zq23, zq24, zq25, zq26, zq27, zq28, zq4, zq3, zq1, zq2, zq0, zq29, zq30, zq14, zq15, zq16, zq17, zq13, zq10, zq12, zq11, zq7, zq5, zq6, zq9, zq8, zq31, zq32, ite_T, ite_F, zq33, zq34, zq35, Nat.reduceEqDiff, len22, len24, fa26_0, fa26_1, fa26_2, len27, fa33_0, fa33_1, len35, fa114_0, fa114_1, fa114_2, fa124_0, fa124_1, len134]
      by_cases he : xs.getD i 0 = ys.getD i 0
      · simp only [he, decide_true, Bool.not_true, zq18, zq19, zq20, zq21, zq22, zq23, zq24, zq25, zq26, zq27, zq28, zq4, zq3, zq1, zq2, zq0, zq29, zq30, zq14, zq15, zq16, zq17, zq13, zq10, zq12, zq11, zq7, zq5, zq6, zq9, zq8, zq31, zq32, ite_T, ite_F, zq33, zq34, zq35, Nat.reduceEqDiff, len22, len24, fa26_0, fa26_1, fa26_2, len27, fa33_0, fa33_1, len35, fa114_0, fa114_1, fa114_2, fa124_0, fa124_1, len134]
        rw [zt_ (by omega) (by omega)]
        refine hN _ _ hlt ⟨by omega, rfl, zd_ hg (zfc_ w1), ?_⟩
        rw [zhf_ hlt, zhf_ (by omega), hpre, he]
      · simp only [he, decide_false, Bool.not_false, zq18, zq19, zq20, zq21, zq22, zq23, zq24, zq25, zq26, zq27, zq28, zq4, zq3, zq1, zq2, zq0, zq29, zq30, zq14, zq15, zq16, zq17, zq13, zq10, zq12, zq11, zq7, zq5, zq6, zq9, zq8, zq31, zq32, ite_T, ite_F, zq33, zq34, zq35, Nat.reduceEqDiff, len22, len24, fa26_0, fa26_1, fa26_2, len27, fa33_0, fa33_1, len35, fa114_0, fa114_1, fa114_2, fa124_0, fa124_1, len134]
        have := hk _ (zd_ hg (zfc_ w1))
        rwa [decide_eq_false (fun e => he (by rw [e]))] at this
    · simp only [show ¬ (i : Int) < xs.length from by omega, decide_false, zq18, zq19, zq20, zq21, zq22, zq23, zq24, zq25, zq26, zq27, zq28, zq4, zq3, zq1, zq2, zq0, zq29, zq30, zq14, zq15, zq16, zq17, zq13, zq10, zq12, zq11, zq7, zq5, zq6, zq9, zq8, zq31, zq32, ite_T, ite_F, zq33, zq34, zq35, Nat.reduceEqDiff, len22, len24, fa26_0, fa26_1, fa26_2, len27, fa33_0, fa33_1, len35, fa114_0, fa114_1, fa114_2, fa124_0, fa124_1, len134]
      have := hk _ hg
      rwa [decide_eq_true] at this
      rwa [List.take_of_length_le (by omega), List.take_of_length_le (by omega)] at hpre
  · simp only [Int.ofNat_inj, hl, decide_false, Bool.not_false, zq18, zq19, zq20, zq21, zq22, zq23, zq24, zq25, zq26, zq27, zq28, zq4, zq3, zq1, zq2, zq0, zq29, zq30, zq14, zq15, zq16, zq17, zq13, zq10, zq12, zq11, zq7, zq5, zq6, zq9, zq8, zq31, zq32, ite_T, ite_F, zq33, zq34, zq35, Nat.reduceEqDiff, len22, len24, fa26_0, fa26_1, fa26_2, len27, fa33_0, fa33_1, len35, fa114_0, fa114_1, fa114_2, fa124_0, fa124_1, len134]
    have := hk _ (Gr.refl w)
    rwa [decide_eq_false (fun e => hl (by rw [e]))] at this
end Go.Proofs.Ytegcjkhebecgbaa

namespace Go.Sh
open Go
def wordG (gm : Gram) (ws : List Int) : Bool := zv_ gm && zxd_ gm.toks ws
noncomputable def inLV (gm : Gram) (ws : List Int) : Bool × Bool := if wordG gm ws = true then (inL gm.rules ws, true) else (false, false)
theorem wordB_of {toks : Int} {ws : List Int} (h : zxd_ toks ws = true) : ws.length ≤ 10 ∧ ∀ t ∈ ws, 0 ≤ t ∧ t ≤ toks - 1 := by
  simp only [zxd_, allB, inB, Bool.and_eq_true, decide_eq_true_eq, List.all_eq_true] at h
  exact h
end Go.Sh
namespace Go.Proofs.Ytegcjkhebecgbaa
open Go Go.Sh Go.RowKit
section
variable {w : World} {X Z Y : Option Addr} {cx cz cy : Nat} {gm : Gram} {ws xs : List Int} {k : Value → World → Prop}
abbrev grv (gm : Gram) (Y : Option Addr) (cy : Nat) : Value := .agg #[.int .i64 gm.nons, .int .i64 gm.toks, .slice Y gm.rules.length cy]
set_option maxHeartbeats 1600000 in
theorem zjk_ (hG : kG Y cy gm.rules w) (hX : kI X ws cx w) (hk : ∀ w', Gr w w' → k (.tuple #[.bool (inLV gm ws).1, .bool (inLV gm ws).2]) w') :
    CallK Try.prog 26 [grv gm Y cy, .slice X ws.length cx] k w := by
  refine enter26 ?_
  unfold S26
  have H := ((Kn.nil w).addG hG.1 hG.2).addI hX.1 hX.2
  refine zwb_ fun b1 w1 g1 hb B1 => ?_
  have H := (H.step g1).addB B1
  rw [zj_ zu_ sz26 rfl (H.get 3 rfl)]
  refine zae_ (gvK (H.get 1 rfl)) fun w2 g => ?_
  have H := H.step g
  unfold inLV wordG at hk
  cases hg : zv_ gm
  · simp only [Bool.not_false, zq18, zq19, zq20, zq21, zq22, zq23, zq24, zq25, zq26, zq27, zq28, zq4, zq3, zq1, zq2, zq0, zq29, zq30, zq14, zq15, zq16, zq17, zq13, zq10, zq12, zq11, zq7, zq5, zq6, zq9, zq8, zq31, zq32, ite_T, ite_F, zq33, zq34, zq35, Nat.reduceEqDiff, len22, len24, fa26_0, fa26_1, fa26_2, len27, fa33_0, fa33_1, len35, fa114_0, fa114_1, fa114_2, fa124_0, fa124_1, len134]
    rw [hg, Bool.false_and, if_neg Bool.false_ne_true] at hk
    exact hk _ (H.get 0 rfl)
  rw [hg, Bool.true_and] at hk
  have hn := zed_ hg
  have ht := zve_ hg
  simp only [Bool.not_true, zq18, zq19, zq20, zq21, zq22, zq23, zq24, zq25, zq26, zq27, zq28, zq4, zq3, zq1, zq2, zq0, zq29, zq30, zq14, zq15, zq16, zq17, zq13, zq10, zq12, zq11, zq7, zq5, zq6, zq9, zq8, zq31, zq32, ite_T, ite_F, zq33, zq34, zq35, Nat.reduceEqDiff, len22, len24, fa26_0, fa26_1, fa26_2, len27, fa33_0, fa33_1, len35, fa114_0, fa114_1, fa114_2, fa124_0, fa124_1, len134]
  rw [ldB3 (H.get 3 rfl) rfl]
  refine isWord_c (H.get 2 rfl).1 rfl (by omega) (by omega) fun w3 g => ?_
  have H := H.step g
  cases hw : zxd_ gm.toks ws
  · simp only [Bool.not_false, zq18, zq19, zq20, zq21, zq22, zq23, zq24, zq25, zq26, zq27, zq28, zq4, zq3, zq1, zq2, zq0, zq29, zq30, zq14, zq15, zq16, zq17, zq13, zq10, zq12, zq11, zq7, zq5, zq6, zq9, zq8, zq31, zq32, ite_T, ite_F, zq33, zq34, zq35, Nat.reduceEqDiff, len22, len24, fa26_0, fa26_1, fa26_2, len27, fa33_0, fa33_1, len35, fa114_0, fa114_1, fa114_2, fa124_0, fa124_1, len134]
    rw [hw, if_neg Bool.false_ne_true] at hk
    exact hk _ (H.get 0 rfl)
  rw [hw, if_pos rfl] at hk
  simp only [Bool.not_true, zq18, zq19, zq20, zq21, zq22, zq23, zq24, zq25, zq26, zq27, zq28, zq4, zq3, zq1, zq2, zq0, zq29, zq30, zq14, zq15, zq16, zq17, zq13, zq10, zq12, zq11, zq7, zq5, zq6, zq9, zq8, zq31, zq32, ite_T, ite_F, zq33, zq34, zq35, Nat.reduceEqDiff, len22, len24, fa26_0, fa26_1, fa26_2, len27, fa33_0, fa33_1, len35, fa114_0, fa114_1, fa114_2, fa124_0, fa124_1, len134]
  have hW := wordB_of hw
  rw [zj_ zu_ sz26 rfl (H.get 3 rfl)]
  refine spans_c (gvK (H.get 1 rfl)) hg (H.get 2 rfl).1 rfl hW.1 (fun t ht' => by have := hW.2 t ht'; omega) fun w4 bT HT => ?_
  have H := H.step HT.gr
  simp only [zq18, zq19, zq20, zq21, zq22, zq23, zq24, zq25, zq26, zq27, zq28, zq4, zq3, zq1, zq2, zq0, zq29, zq30, zq14, zq15, zq16, zq17, zq13, zq10, zq12, zq11, zq7, zq5, zq6, zq9, zq8, zq31, zq32, ite_T, ite_F, zq33, zq34, zq35, Nat.reduceEqDiff, len22, len24, fa26_0, fa26_1, fa26_2, len27, fa33_0, fa33_1, len35, fa114_0, fa114_1, fa114_2, fa124_0, fa124_1, len134]
  refine rdi (ixa122 (by decide) (by decide)) ?_
  refine rdi (ixa121 (by decide) (by decide)) ?_
  refine rdi (ixa120 (by omega) (by omega)) ?_
  simp only [Int.toNat_natCast, zq18, zq19, zq20, zq21, zq22, zq23, zq24, zq25, zq26, zq27, zq28, zq4, zq3, zq1, zq2, zq0, zq29, zq30, zq14, zq15, zq16, zq17, zq13, zq10, zq12, zq11, zq7, zq5, zq6, zq9, zq8, zq31, zq32, ite_T, ite_F, zq33, zq34, zq35, Nat.reduceEqDiff, len22, len24, fa26_0, fa26_1, fa26_2, len27, fa33_0, fa33_1, len35, fa114_0, fa114_1, fa114_2, fa124_0, fa124_1, len134]
  have hoff : 0 + (0 + 1) + Int.toNat 0 * 121 + Int.toNat 0 * 11 + ws.length = 0 * 121 + 0 * 11 + ws.length + 1 := by
    rw [show Int.toNat 0 = 0 from rfl]
    omega
  rw [hoff]
  refine rdi (ldB4 (HT.box 0 rfl) (zxi_ (by decide) (by decide) (by omega))) ?_
  exact hk _ (H.get 0 rfl)
end
theorem inf114' : Inf Try.prog 114 (.agg #[.slice none 0 0, .int .i64 0, .int .u64 0]) 3 40 := zmg_ (by kernel_rfl)
theorem bd114 {S : WS} {k : Value → Prop} {ps : List (Nat × Value)} {cells : Array Value} (hf : Instr.fill (#[(0, 1), (1, 1), (2, 1)][·]?) #[.slice none 0 0, .int .i64 0, .int .u64 0] ps = some cells) : Rd Try.prog S (zy_ 114 ps) k = k (.agg cells) :=
  zgp_ Try.underlying114 inf114' sz22 sz3 sz112 hf
abbrev zg : List Value := [.int .i64 0, .int .i64 0, .slice none 0 0]
section
variable {w0 w : World} {E : List Thing} {C : Option Addr} {cap : Nat} {bs : List Int} {k : Value → World → Prop}
theorem draw0 {K : Value → Value → Value → World → Prop} (h : ∀ b1 b4 w', Apt w w' [cur b4 (.slice C bs.length cap) 0, bx b1 zg 26] → K (ptrv b1) (.agg #[.slice C bs.length cap, .int .i64 0, .int .u64 0]) (ptrv b4) w') :
    Do Try.prog (zw_ 26) (fun t1 w2 => Rd Try.prog (WS.at w2) (zy_ 114 [(0, .slice C bs.length cap)]) fun t3 => Do Try.prog (sBox 114 t3) (fun t4 w5 => K t1 t3 t4 w5) w2) w := by
  have H := Apt.nil w
  refine zkc_ H zdc_ fun b1 w1 H => ?_
  refine rdi (bd114 (cells := #[.slice C bs.length cap, .int .i64 0, .int .u64 0]) rfl) ?_
  refine boxH H fun b4 w2 H => ?_
  simp only [List.nil_append, List.cons_append] at H
  have H := H.shutCur (N := 0) (tc := TC) (bc := b4) (cv := .slice C bs.length cap) (a := 0) (s := 0) 1 rfl (by omega) (by omega)
  simp only [List.set_cons_succ, List.set_cons_zero] at H
  exact h b1 b4 w2 (H.perm (List.Perm.swap _ _ _))
theorem zad_ {S : WS} {k : Value → Prop} {b e : Nat} {cs : List Value} (hl : cs.length = 3) (h : ∀ w', S.S w' → Box w' b cs e) : Rd Try.prog S (zc_ 26 (ptrv b)) k = k (.agg cs.toArray) := by
  refine zci_ zu_ sz26 (cs := cs) hl fun w' hw j hj => ?_
  rw [show (⟨b, 0, none⟩ : Addr).add j = ⟨b, 0 + j, none⟩ from zq34 b 0 j, Nat.zero_add, (h w' hw).cell j]
  exact List.getElem?_eq_getElem hj
theorem gowK {ft : Nat → Prop} {Y : Option Addr} {cy : Nat} {rs : List RuleL} (h : OwnG 33 ft w 0 Y cy rs) : kG Y cy rs w := by
  have h1 := h.read
  obtain ⟨cells, hr, _⟩ := h
  exact ⟨hr.cap.1, h1⟩
set_option maxHeartbeats 1600000 in
theorem zkk_ (hC : Byts w C bs) (hk : ∀ w' gm ft Y cy X cx ws, Drawn 101 gm → Apt w w' [ows X cx ws, gth ft Y cy gm.rules] → k (.tuple #[grv gm Y cy, .slice X (List.length ws) cx]) w') :
    CallK Try.prog 43 [.slice C bs.length cap] k w := by
  refine enter43 ?_
  unfold S43
  refine draw0 fun b1 b4 w1 H => ?_
  refine any_c H hC (by omega) fun w2 gm ft Y cy hd H => ?_
  refine zkc_ H zdc_ fun b8 w3 H => ?_
  refine zub_ H 3 rfl sz26 rfl rfl rfl fun w4 H => ?_
  simp only [List.cons_append, List.nil_append, List.set_cons_zero, List.set_cons_succ] at H
  have H := H.drew
  refine ⟨fun w' => Box w' b8 [.int .i64 gm.nons, .int .i64 gm.toks, .slice Y gm.rules.length cy] 26, H.box 3 rfl, ?_⟩
  refine rdi (zad_ rfl fun w' h => h) (rdi (zad_ rfl fun w' h => h) ?_)
  have hG := gowK (H.gow 1 rfl)
  refine wordIn_c H hC (by omega) hG.1 hG.2 hd.toks fun w7 Z d ws _ H => ?_
  refine ⟨H.box 4 rfl, ?_⟩
  refine zub_ H 3 rfl sz26 rfl rfl rfl fun w8 H => ?_
  simp only [List.cons_append, List.nil_append, List.set_cons_zero, List.set_cons_succ] at H
  rw [zcb_, zj_ zu_ sz26 rfl (H.box 3 rfl)]
  have H := ((H.erase 0).erase 3).erase 2
  simp only [List.eraseIdx_cons_zero, List.eraseIdx_cons_succ] at H
  exact hk w8 gm ft Y cy Z d ws hd H
end
abbrev kC (C : Option Addr) (bs : List Int) : World → Prop := fun w => Byts w C bs
section
variable {S : WS} {k : Value → Prop}
theorem bneq {c x y : Bool} : Rd Try.prog S (sBin .neq 4 c (.bool x) (.bool y)) k = k (.bool (!(x == y))) := bin_neq_bool Try.underlying4
theorem beql {c x y : Bool} : Rd Try.prog S (sBin .eql 4 c (.bool x) (.bool y)) k = k (.bool (x == y)) := bin_eql_bool Try.underlying4
end
section
variable {w w' : World} {L : List (World → Prop)}
theorem knC (H : Kn w L) {C : Option Addr} {bs : List Int} (h : Byts w C bs) : Kn w (L ++ [kC C bs]) := H.add fun w' g => h.gr g
theorem newG {k : Value → World → Prop} (H : Kn w L) {gm : Gram} {Y : Option Addr} {cy : Nat} (h : ∀ b w', Kn w' (L ++ [kB b [.int .i64 gm.nons, .int .i64 gm.toks, .slice Y gm.rules.length cy] 26]) → k (ptrv b) w') :
    Do Try.prog (zw_ 26) (fun p w1 => Do Try.prog (zi_ 26 p (grv gm Y cy)) (fun _ w2 => k p w2) w1) w :=
  do_new (cs := [.int .i64 gm.nons, .int .i64 gm.toks, .slice Y gm.rules.length cy]) H zdc_ sz26 rfl rfl rfl rfl h
end
open Go Go.Sh

def pl244 : Plans := fun _ => ⟨false, [], .nil⟩
def S244 (v0 v1 : Value) (k : Value → World → Prop) (w : World) : Prop :=
 Rd Try.prog (WS.at w) (ze_ .len #[27] 3 [false] [v0]) fun t1 =>
 zrb_ [10, 11, 12, 6, 13, 14, 15, 4, 16, 9] (fun Q2 f3 w4 =>
  Rd Try.prog (WS.at w4) (sBin .lss 3 false (f3 9) (f3 8)) fun t5 =>
  zm_ t5
   (Rd Try.prog (WS.at w4) (zf_ 27 (f3 7) (f3 9)) fun t6 =>
   Rd Try.prog (WS.at w4) (zc_ 3 t6) fun t7 =>
   Rd Try.prog (WS.at w4) (sBin .eql 3 false t7 (f3 1)) fun t8 =>
   zm_ t8
    (Q2 .ret (F.upd (F.upd (F.upd (F.upd (F.upd (F.upd (F.upd (F.upd f3 10 t5) 11 t6) 12 t7) 6 t7) 13 t7) 14 (f3 1)) 15 t8) 4 (.bool true)) w4)
    (Rd Try.prog (WS.at w4) (sBin .add 3 true (f3 9) (.int .i64 1)) fun t9 =>
    Q2 .normal (F.upd (F.upd (F.upd (F.upd (F.upd (F.upd (F.upd (F.upd (F.upd f3 10 t5) 11 t6) 12 t7) 6 t7) 13 t7) 14 (f3 1)) 15 t8) 16 t9) 9 t9) w4))
   (Q2 (.exit 0) (F.upd f3 10 t5) w4))
  (zx_ 0 (seqQ (fun f10 w11 =>
 k (.bool false) w11) (zr_ Try.prog [.tmp 4] k)))
  (F.upd (F.upd (F.upd (F.upd (zp_ [v0, v1]) 4 (.bool false)) 7 v0) 8 t1) 9 (.int .i64 0)) w
theorem body244 : Try.f244.body = some (zg_ Try.f244) := by kernel_rfl
theorem same244 (v0 v1 : Value) (k : Value → World → Prop) (w : World) : wpF Try.prog pl244 (zg_ Try.f244) (zr_ Try.prog Try.f244.results.toList k) (zp_ [v0, v1]) w = S244 v0 v1 k w := by kernel_rfl
theorem enter244 {v0 v1 : Value} {k : Value → World → Prop} {w : World} (h : S244 v0 v1 k w) : CallK Try.prog 244 [v0, v1] k w :=
  call_of_wpF (pl := pl244) mixed Try.func244 body244 (by kernel_rfl) (of_decide_eq_true (by kernel_rfl)) (by kernel_rfl) (by kernel_rfl) (Eq.mpr (same244 v0 v1 k w) h)

def pl173 : Plans := fun _ => ⟨false, [], .nil⟩
def S173 (v0 : Value) (k : Value → World → Prop) (w : World) : Prop :=
 Do Try.prog (zw_ 26) (fun t1 w2 =>
 Rd Try.prog (WS.at w2) (zy_ 114 [(0, v0)]) fun t3 =>
 Do Try.prog (sBox 114 t3) (fun t4 w5 =>
 CallK Try.prog 145 [t4] (fun t6 w7 =>
 Do Try.prog (zi_ 26 t1 t6) (fun _ w8 =>
 Rd Try.prog (WS.at w8) (zib_ 26 t1) fun t9 => k t9 w8) w7) w5) w2) w
theorem body173 : Try.f173.body = some (zg_ Try.f173) := by kernel_rfl
theorem same173 (v0 : Value) (k : Value → World → Prop) (w : World) : wpF Try.prog pl173 (zg_ Try.f173) (zr_ Try.prog Try.f173.results.toList k) (zp_ [v0]) w = S173 v0 k w := by kernel_rfl
theorem enter173 {v0 : Value} {k : Value → World → Prop} {w : World} (h : S173 v0 k w) : CallK Try.prog 173 [v0] k w :=
  call_of_wpF (pl := pl173) mixed Try.func173 body173 (by kernel_rfl) (of_decide_eq_true (by kernel_rfl)) (by kernel_rfl) (by kernel_rfl) (Eq.mpr (same173 v0 k w) h)

def pl136 : Plans := fun _ => ⟨false, [], .nil⟩
def S136 (v0 : Value) (k : Value → World → Prop) (w : World) : Prop :=
 Do Try.prog (zw_ 26) (fun t1 w2 =>
 CallK Try.prog 173 [v0] (fun t3 w4 =>
 Do Try.prog (zi_ 26 t1 t3) (fun _ w5 =>
 Rd Try.prog (WS.at w5) (zib_ 26 t1) fun t6 => k t6 w5) w4) w2) w
theorem body136 : Try.f136.body = some (zg_ Try.f136) := by kernel_rfl
theorem same136 (v0 : Value) (k : Value → World → Prop) (w : World) : wpF Try.prog pl136 (zg_ Try.f136) (zr_ Try.prog Try.f136.results.toList k) (zp_ [v0]) w = S136 v0 k w := by kernel_rfl
theorem enter136 {v0 : Value} {k : Value → World → Prop} {w : World} (h : S136 v0 k w) : CallK Try.prog 136 [v0] k w :=
  call_of_wpF (pl := pl136) mixed Try.func136 body136 (by kernel_rfl) (of_decide_eq_true (by kernel_rfl)) (by kernel_rfl) (by kernel_rfl) (Eq.mpr (same136 v0 k w) h)

end Go.Proofs.Ytegcjkhebecgbaa

namespace Go.Sh
open Go
def putL (n : Int) : List Int → List Int
  | [] => [n]
  | x :: xs => if x < n then x :: putL n xs else if x = n then x :: xs else n :: x :: xs
abbrev RiseI (xs : List Int) : Prop := xs.Pairwise fun a b => a < b
theorem zxe_ {x : Int} {xs : List Int} : RiseI (x :: xs) ↔ (∀ b ∈ xs, x < b) ∧ RiseI xs := List.pairwise_cons
theorem putL_mem {n m : Int} : ∀ {xs : List Int}, m ∈ putL n xs ↔ m = n ∨ m ∈ xs := by
  intro xs
  induction xs with
  | nil => simp [putL]
  | cons x xs ih =>
    unfold putL
    split
    · rw [List.mem_cons, ih, List.mem_cons]
      constructor
      · rintro (h | h | h)
        · exact .inr (.inl h)
        · exact .inl h
        · exact .inr (.inr h)
      · rintro (h | h | h)
        · exact .inr (.inl h)
        · exact .inl h
        · exact .inr (.inr h)
    · split
      · rename_i h
        subst h
        rw [List.mem_cons]
        constructor
        · exact fun h => .inr h
        · rintro (h | h)
          · exact .inl h
          · exact h
      · rw [List.mem_cons]
theorem putL_rise {n : Int} : ∀ {xs : List Int}, RiseI xs → RiseI (putL n xs) := by
  intro xs
  induction xs with
  | nil => intro _; simp [putL]
  | cons x xs ih =>
    intro h
    rw [zxe_] at h
    unfold putL
    split
    · rename_i hx
      rw [zxe_]
      refine ⟨fun b hb => ?_, ih h.2⟩
      rcases putL_mem.1 hb with rfl | hb
      · exact hx
      · exact h.1 b hb
    · split
      · rw [zxe_]
        exact h
      · rw [zxe_, zxe_]
        refine ⟨fun b hb => ?_, h⟩
        rcases List.mem_cons.1 hb with rfl | hb
        · omega
        · have := h.1 b hb
          omega
theorem rise_ext : ∀ {xs ys : List Int}, RiseI xs → RiseI ys → (∀ m, m ∈ xs ↔ m ∈ ys) → xs = ys := by
  intro xs
  induction xs with
  | nil =>
    intro ys _ _ h
    cases ys with
    | nil => rfl
    | cons y ys => exact absurd ((h y).2 (List.mem_cons_self ..)) (by simp)
  | cons x xs ih =>
    intro ys hx hy h
    rw [zxe_] at hx
    cases ys with
    | nil => exact absurd ((h x).1 (List.mem_cons_self ..)) (by simp)
    | cons y ys =>
      rw [zxe_] at hy
      have e : x = y := by
        have h1 := (h x).1 (List.mem_cons_self ..)
        have h2 := (h y).2 (List.mem_cons_self ..)
        rcases List.mem_cons.1 h1 with e | h1
        · exact e
        · rcases List.mem_cons.1 h2 with e | h2
          · exact e.symm
          · have := hy.1 x h1
            have := hx.1 y h2
            omega
      subst e
      congr 1
      refine ih hx.2 hy.2 fun m => ?_
      have hm := h m
      rw [List.mem_cons, List.mem_cons] at hm
      constructor
      · intro h1
        rcases hm.1 (.inr h1) with rfl | h2
        · exact absurd (hx.1 m h1) (by omega)
        · exact h2
      · intro h1
        rcases hm.2 (.inr h1) with rfl | h2
        · exact absurd (hy.1 m h1) (by omega)
        · exact h2
open Classical in
noncomputable def setL (n : Nat) (P : Nat → Prop) : List Int := ((List.range n).filter fun a => decide (P a)).map fun (a : Nat) => (a : Int)
open Classical in
theorem setL_mem {n : Nat} {P : Nat → Prop} {m : Int} : m ∈ setL n P ↔ ∃ a : Nat, m = a ∧ a < n ∧ P a := by
  unfold setL
  rw [List.mem_map]
  constructor
  · rintro ⟨a, ha, rfl⟩
    rw [List.mem_filter, List.mem_range, decide_eq_true_eq] at ha
    exact ⟨a, rfl, ha⟩
  · rintro ⟨a, rfl, ha⟩
    exact ⟨a, by rw [List.mem_filter, List.mem_range, decide_eq_true_eq]; exact ha, rfl⟩
theorem setL_rise (n : Nat) (P : Nat → Prop) : RiseI (setL n P) := by
  unfold RiseI setL
  rw [List.pairwise_map]
  refine (List.Pairwise.sublist List.filter_sublist ?_)
  have := List.pairwise_lt_range (n := n)
  exact this.imp fun h => by omega
theorem rise_len : ∀ {xs : List Int} {a n : Int}, RiseI xs → (∀ x ∈ xs, a ≤ x ∧ x < n) → a ≤ n → (xs.length : Int) ≤ n - a := by
  intro xs
  induction xs with
  | nil => intro a n _ _ h; simp; omega
  | cons x xs ih =>
    intro a n h hb ha
    rw [zxe_] at h
    have h1 := hb x (List.mem_cons_self ..)
    have := ih (a := x + 1) (n := n) h.2 (fun y hy => by have := h.1 y hy; have := hb y (List.mem_cons_of_mem _ hy); omega) (by omega)
    rw [List.length_cons]
    omega
end Go.Sh
namespace Go.Proofs.Ytegcjkhebecgbaa
open Go Go.Sh Go.RowKit
theorem l1Has_c {w : World} {X : Option Addr} {c : Nat} {xs : List Int} {n : Int} (hx : Ints w X xs) {k : Value → World → Prop} (hk : ∀ w', Gr w w' → k (.bool (decide (n ∈ xs))) w') :
    CallK Try.prog 244 [.slice X xs.length c, .int .i64 n] k w := by
  refine enter244 ?_
  unfold S244
  simp only [zq18, zq19, zq20, zq21, zq22, zq23, zq24, zq25, zq26, zq27, zq28, zq4, zq3, zq1, zq2, zq0, zq29, zq30, zq14, zq15, zq16, zq17, zq13, zq10, zq12, zq11, zq7, zq5, zq6, zq9, zq8, zq31, zq32, ite_T, ite_F, zq33, zq34, zq35, Nat.reduceEqDiff, len22, len24, fa26_0, fa26_1, fa26_2, len27, fa33_0, fa33_1, len35, fa114_0, fa114_1, fa114_2, fa124_0, fa124_1, len134]
  refine ztb_ xs.length 0 (fun i f w' => i ≤ xs.length ∧ f 9 = .int .i64 i ∧ Gr w w' ∧ n ∉ xs.take i) ⟨Nat.zero_le _, rfl, Gr.refl w, by simp⟩ ?_
  rintro i f w1 N hag ⟨hi, h9, hg, hpre⟩ hN
  have h1 : f 1 = .int .i64 n := hag 1 (by decide)
  have h7 : f 7 = .slice X xs.length c := hag 7 (by decide)
  have h8 : f 8 = .int .i64 xs.length := hag 8 (by decide)
  simp only [h1, h7, h8, h9, zq18, zq19, zq20, zq21, zq22, zq23, zq24, zq25, zq26, zq27, zq28, zq4, zq3, zq1, zq2, zq0, zq29, zq30, zq14, zq15, zq16, zq17, zq13, zq10, zq12, zq11, zq7, zq5, zq6, zq9, zq8, zq31, zq32, ite_T, ite_F, zq33, zq34, zq35, Nat.reduceEqDiff, len22, len24, fa26_0, fa26_1, fa26_2, len27, fa33_0, fa33_1, len35, fa114_0, fa114_1, fa114_2, fa124_0, fa124_1, len134]
  by_cases hlt : i < xs.length
  · have hlt' : (i : Int) < xs.length := by omega
    have := hx.le
    simp only [hlt', decide_true, zq18, zq19, zq20, zq21, zq22, zq23, zq24, zq25, zq26, zq27, zq28, zq4, zq3, zq1, zq2, zq0, zq29, zq30, zq14, zq15, zq16, zq17, zq13, zq10, zq12, zq11, zq7, zq5, zq6, zq9, zq8, zq31, zq32, ite_T, ite_F, zq33, zq34, zq35, Nat.reduceEqDiff, len22, len24, fa26_0, fa26_1, fa26_2, len27, fa33_0, fa33_1, len35, fa114_0, fa114_1, fa114_2, fa124_0, fa124_1, len134]
    rw [zcc_ hx.ptr hlt, ld3 ((hx.gr hg).cell i hlt)]
    simp only [zq18, zq19, zq20, zq21, zq22, zq23, zq24, zq25, zq26, zq27, zq28, zq4, zq3, zq1, zq2, zq0, zq29, zq30, zq14, zq15, zq16, zq17, zq13, zq10, zq12, zq11, zq7, zq5, zq6, zq9, zq8, zq31, zq32, ite_T, ite_F, zq33, zq34, zq35, Nat.reduceEqDiff, len22, len24, fa26_0, fa26_1, fa26_2, len27, fa33_0, fa33_1, len35, fa114_0, fa114_1, fa114_2, fa124_0, fa124_1, len134]
    by_cases he : xs.getD i 0 = n
    · simp only [he, decide_true, zq18, zq19, zq20, zq21, zq22, zq23, zq24, zq25, zq26, zq27, zq28, zq4, zq3, zq1, zq2, zq0, zq29, zq30, zq14, zq15, zq16, zq17, zq13, zq10, zq12, zq11, zq7, zq5, zq6, zq9, zq8, zq31, zq32, ite_T, ite_F, zq33, zq34, zq35, Nat.reduceEqDiff, len22, len24, fa26_0, fa26_1, fa26_2, len27, fa33_0, fa33_1, len35, fa114_0, fa114_1, fa114_2, fa124_0, fa124_1, len134]
      have := hk _ hg
      rwa [decide_eq_true (by rw [← he]; exact zeh_ hlt)] at this
    · simp only [he, decide_false, zq18, zq19, zq20, zq21, zq22, zq23, zq24, zq25, zq26, zq27, zq28, zq4, zq3, zq1, zq2, zq0, zq29, zq30, zq14, zq15, zq16, zq17, zq13, zq10, zq12, zq11, zq7, zq5, zq6, zq9, zq8, zq31, zq32, ite_T, ite_F, zq33, zq34, zq35, Nat.reduceEqDiff, len22, len24, fa26_0, fa26_1, fa26_2, len27, fa33_0, fa33_1, len35, fa114_0, fa114_1, fa114_2, fa124_0, fa124_1, len134]
      rw [zt_ (by omega) (by omega)]
      refine hN _ _ hlt ⟨by omega, rfl, hg, ?_⟩
      rw [zhf_ hlt, List.mem_append, List.mem_singleton]
      exact fun h => h.elim hpre fun e => he e.symm
  · simp only [show ¬ (i : Int) < xs.length from by omega, decide_false, zq18, zq19, zq20, zq21, zq22, zq23, zq24, zq25, zq26, zq27, zq28, zq4, zq3, zq1, zq2, zq0, zq29, zq30, zq14, zq15, zq16, zq17, zq13, zq10, zq12, zq11, zq7, zq5, zq6, zq9, zq8, zq31, zq32, ite_T, ite_F, zq33, zq34, zq35, Nat.reduceEqDiff, len22, len24, fa26_0, fa26_1, fa26_2, len27, fa33_0, fa33_1, len35, fa114_0, fa114_1, fa114_2, fa124_0, fa124_1, len134]
    have := hk _ hg
    rw [List.take_of_length_le (by omega)] at hpre
    rwa [decide_eq_false hpre] at this
end Go.Proofs.Ytegcjkhebecgbaa

namespace Go.Sh
open Go
structure OwnSF (e1 e2 : Nat) (w : World) (B : Nat) (X : Option Addr) (c : Nat) (ls : List (List Int)) (ps : Nat → Option Addr × Nat) (n : Nat) : Prop where
  row : ∃ cells, Row w B e1 1 X ls.length c cells ∧ ∀ j, j < ls.length → cells[j]? = some (.slice (ps j).1 (rgt ls j).length (ps j).2)
  own : ∀ j, n ≤ j → j < ls.length → Own e2 w B (ps j).1 (ps j).2 (rgt ls j)
  two : ∀ i j, n ≤ i → n ≤ j → i < ls.length → j < ls.length → i ≠ j → blk (ps i).1 = none ∨ blk (ps i).1 ≠ blk (ps j).1
def FootF (X : Option Addr) (ps : Nat → Option Addr × Nat) (n m : Nat) (q : Nat) : Prop := blk X = some q ∨ ∃ l, n ≤ l ∧ l < m ∧ blk (ps l).1 = some q
section
variable {e1 e2 c n B : Nat} {w w' w0 : World} {X : Option Addr} {ls : List (List Int)} {ps : Nat → Option Addr × Nat} {L : List Thing}
theorem OwnSF.same (h : OwnSF e1 e2 w B X c ls ps n) (hs : ∀ q, FootF X ps n ls.length q → w'.heap[q]? = w.heap[q]?) : OwnSF e1 e2 w' B X c ls ps n := by
  obtain ⟨⟨cells, hr, hc⟩, ho, ht⟩ := h
  exact ⟨⟨cells, hr.same fun q hq => hs q (.inl hq), hc⟩, fun j hn hj => Row.same (ho j hn hj) fun q hq => hs q (.inr ⟨j, hn, hj, hq⟩), ht⟩
theorem OwnSF.up {B' : Nat} (h : OwnSF e1 e2 w B X c ls ps n) (hs : ∀ q, FootF X ps n ls.length q → B' ≤ q) : OwnSF e1 e2 w B' X c ls ps n := by
  obtain ⟨⟨cells, hr, hc⟩, ho, ht⟩ := h
  exact ⟨⟨cells, hr.up fun q hq => hs q (.inl hq), hc⟩, fun j hn hj => Row.up (ho j hn hj) fun q hq => hs q (.inr ⟨j, hn, hj, hq⟩), ht⟩
theorem OwnSF.mono {B' : Nat} (h : OwnSF e1 e2 w B X c ls ps n) (hb : B' ≤ B) : OwnSF e1 e2 w B' X c ls ps n := by
  obtain ⟨⟨cells, hr, hc⟩, ho, ht⟩ := h
  exact ⟨⟨cells, Row.mono hr hb, hc⟩, fun j hn hj => Row.mono (ho j hn hj) hb, ht⟩
theorem OwnSF.foot (h : OwnSF e1 e2 w B X c ls ps n) {q : Nat} (hq : FootF X ps n ls.length q) : B ≤ q ∧ q < w.heap.size := by
  obtain ⟨⟨cells, hr, hc⟩, ho, ht⟩ := h
  rcases hq with hq | ⟨l, hn, hl, hq⟩
  · exact hr.ge hq
  · exact Row.ge (ho l hn hl) hq
theorem OwnSF.ptr (h : OwnSF e1 e2 w B X c ls ps n) (hl : 0 < ls.length) : X = some (ad X) := by
  obtain ⟨⟨cells, hr, hc⟩, _⟩ := h
  exact hr.ptr hl
theorem OwnSF.cell (h : OwnSF e1 e2 w B X c ls ps n) {j : Nat} (hj : j < ls.length) : w.cell? ((ad X).add j) = some (.slice (ps j).1 (rgt ls j).length (ps j).2) := by
  obtain ⟨⟨cells, hr, hc⟩, _⟩ := h
  exact hr.src.cell _ _ (hc j hj)
end
end Go.Sh
namespace Go.Proofs.Ytegcjkhebecgbaa
open Go Go.Sh Go.RowKit

open Go Go.Sh

end Go.Proofs.Ytegcjkhebecgbaa

namespace Go.Sh
open Go
end Go.Sh
namespace Go.Proofs.Ytegcjkhebecgbaa
open Go Go.Sh Go.RowKit

end Go.Proofs.Ytegcjkhebecgbaa

namespace Go.Sh
open Go
end Go.Sh
namespace Go.Proofs.Ytegcjkhebecgbaa
open Go Go.Sh Go.RowKit
end Go.Proofs.Ytegcjkhebecgbaa

namespace Go.Sh
open Go
end Go.Sh
namespace Go.Proofs.Ytegcjkhebecgbaa
open Go Go.Sh Go.RowKit
end Go.Proofs.Ytegcjkhebecgbaa

namespace Go.Sh
open Go
def cmpI (x y : Int) : Int := if x < y then -1 else if y < x then 1 else 0
def cmpL : List Int → List Int → Int
  | x :: xs, y :: ys => if cmpI x y ≠ 0 then cmpI x y else cmpL xs ys
  | [], [] => 0
  | [], _ :: _ => -1
  | _ :: _, [] => 1
theorem cmpI_lt {x y : Int} : cmpI x y < 0 ↔ x < y := by
  unfold cmpI
  split
  · omega
  · split <;> omega
theorem cmpI_eq {x y : Int} : cmpI x y = 0 ↔ x = y := by
  unfold cmpI
  split
  · omega
  · split <;> omega
structure AtS (w : World) (X : Option Addr) (n c : Nat) (ls : List (List Int)) (ps : Nat → Option Addr × Nat) (i : Nat) : Prop where
  len : n = ls.length - i
  le : n ≤ c
  ptr : 0 < n → X = some (ad X)
  cell : ∀ j, j < n → w.cell? ((ad X).add j) = some (.slice (ps (i + j)).1 (rgt ls (i + j)).length (ps (i + j)).2)
theorem AtS.gr {w w' : World} {X : Option Addr} {n c i : Nat} {ls : List (List Int)} {ps : Nat → Option Addr × Nat} (h : AtS w X n c ls ps i) (g : Gr w w') : AtS w' X n c ls ps i := ⟨h.len, h.le, h.ptr, fun j hj => g.cell (h.cell j hj)⟩
theorem AtS.first {w : World} {X : Option Addr} {n c i : Nat} {ls : List (List Int)} {ps : Nat → Option Addr × Nat} (h : AtS w X n c ls ps i) (h0 : 0 < n) : w.cell? ((ad X).add 0) = some (.slice (ps i).1 (rgt ls i).length (ps i).2) := h.cell 0 h0
theorem AtS.next {w : World} {X : Option Addr} {n c i : Nat} {ls : List (List Int)} {ps : Nat → Option Addr × Nat} (h : AtS w X n c ls ps i) (h0 : 0 < n) : AtS w (sub X 1 c 1) (n - 1) (c - 1) ls ps (i + 1) := by
  have hl := h.len
  have hle := h.le
  have hX := h.ptr h0
  refine ⟨by omega, by omega, fun h1 => ?_, fun j hj => ?_⟩
  · unfold Sh.sub
    rw [if_neg (by omega), hX]
    rfl
  · have := h.cell (j + 1) (by omega)
    unfold Sh.sub
    rw [if_neg (by omega), hX]
    show w.cell? (((ad X).add (1 * 1)).add j) = _
    rw [zbc_, show 1 * 1 + j = j + 1 from by omega, this, show i + (j + 1) = i + 1 + j from by omega]
theorem AtS.of {w : World} {e1 e2 B c : Nat} {X : Option Addr} {ls : List (List Int)} {ps : Nat → Option Addr × Nat} (o : OwnSS e1 e2 w B X c ls ps) : AtS w X ls.length c ls ps 0 := by
  refine ⟨by omega, ?_, fun h => o.ptr h, fun j hj => ?_⟩
  · obtain ⟨⟨cells, hr, hc⟩, _⟩ := o
    exact hr.cap.1
  · rw [Nat.zero_add]
    exact o.cell hj
end Go.Sh
namespace Go.Proofs.Ytegcjkhebecgbaa
open Go Go.Sh Go.RowKit
end Go.Proofs.Ytegcjkhebecgbaa

namespace Go.Sh
open Go
def ltL (a b : List Int) : Prop := cmpL a b < 0
theorem cmpI_anti (x y : Int) : cmpI y x = - cmpI x y := by
  unfold cmpI
  by_cases h1 : x < y
  · rw [if_pos h1, if_neg (by omega), if_pos h1]
    rfl
  · by_cases h2 : y < x
    · rw [if_pos h2, if_neg h1, if_pos h2]
    · rw [if_neg h2, if_neg h1, if_neg h1, if_neg h2]
      rfl
theorem ztp_ : ∀ a b : List Int, cmpL b a = - cmpL a b := by
  intro a
  induction a with
  | nil => intro b; cases b <;> rfl
  | cons x a ih =>
    intro b
    cases b with
    | nil => rfl
    | cons y b =>
      rw [cmpL, cmpL, cmpI_anti x y]
      by_cases h : cmpI x y = 0
      · rw [if_neg (fun e => e (by omega)), if_neg (fun e => e h)]
        exact ih b
      · rw [if_pos h, if_pos (by omega)]
theorem cmpL_zero : ∀ {a b : List Int}, cmpL a b = 0 → a = b := by
  intro a
  induction a with
  | nil => intro b h; cases b with
    | nil => rfl
    | cons y b => cases h
  | cons x a ih =>
    intro b h
    cases b with
    | nil => cases h
    | cons y b =>
      rw [cmpL] at h
      by_cases e : cmpI x y = 0
      · rw [if_neg (fun h => h e)] at h
        rw [cmpI_eq.1 e, ih h]
      · rw [if_pos e] at h
        exact absurd h e
theorem zkf_ (a : List Int) : ¬ ltL a a := by
  intro h
  have := ztp_ a a
  unfold ltL at h
  omega
theorem ltL_tri (a b : List Int) : ltL a b ∨ a = b ∨ ltL b a := by
  unfold ltL
  have := ztp_ a b
  by_cases h : cmpL a b = 0
  · exact .inr (.inl (cmpL_zero h))
  · omega
theorem ltL_cons {x y : Int} {a b : List Int} : ltL (x :: a) (y :: b) ↔ x < y ∨ (x = y ∧ ltL a b) := by
  unfold ltL
  rw [cmpL]
  by_cases e : cmpI x y = 0
  · rw [if_neg (fun h => h e)]
    have := cmpI_eq.1 e
    omega
  · rw [if_pos e, cmpI_lt]
    have : ¬ x = y := fun h => e (cmpI_eq.2 h)
    omega
theorem zug_ : ∀ {a b c : List Int}, ltL a b → ltL b c → ltL a c := by
  intro a
  induction a with
  | nil =>
    intro b c h1 h2
    cases c with
    | nil =>
      cases b with
      | nil => exact h2
      | cons y b => exact absurd h2 (by unfold ltL; show ¬ ((1 : Int) < 0); omega)
    | cons z c => show (-1 : Int) < 0; omega
  | cons x a ih =>
    intro b c h1 h2
    cases b with
    | nil => exact absurd h1 (by unfold ltL; show ¬ ((1 : Int) < 0); omega)
    | cons y b =>
      cases c with
      | nil => exact absurd h2 (by unfold ltL; show ¬ ((1 : Int) < 0); omega)
      | cons z c =>
        rw [ltL_cons] at h1 h2 ⊢
        rcases h1 with h1 | ⟨h1, h1'⟩
        · rcases h2 with h2 | ⟨h2, h2'⟩
          · exact .inl (by omega)
          · exact .inl (by omega)
        · rcases h2 with h2 | ⟨h2, h2'⟩
          · exact .inl (by omega)
          · exact .inr ⟨by omega, ih h1' h2'⟩
abbrev Rise (l : List (List Int)) : Prop := l.Pairwise ltL
theorem zmk_ : ∀ {l' l : List (List Int)}, Rise l → Rise l' → (∀ x ∈ l, x ∈ l') → l.Sublist l' := by
  intro l'
  induction l' with
  | nil =>
    intro l _ _ h
    cases l with
    | nil => exact List.Sublist.slnil
    | cons a l => exact absurd (h a (List.mem_cons_self ..)) (by simp)
  | cons b s ih =>
    intro l hl hl' h
    cases l with
    | nil => exact List.nil_sublist _
    | cons a t =>
      have hl1 := List.pairwise_cons.1 hl
      have hl2 := List.pairwise_cons.1 hl'
      rcases List.mem_cons.1 (h a (List.mem_cons_self ..)) with e | e
      · subst e
        refine List.Sublist.cons_cons _ (ih hl1.2 hl2.2 fun x hx => ?_)
        rcases List.mem_cons.1 (h x (List.mem_cons_of_mem _ hx)) with e | e
        · subst e
          exact absurd (hl1.1 _ hx) (zkf_ _)
        · exact e
      · refine List.Sublist.cons _ (ih hl hl2.2 fun x hx => ?_)
        rcases List.mem_cons.1 (h x hx) with e' | e'
        · subst e'
          rcases List.mem_cons.1 hx with e2 | e2
          · subst e2
            exact e
          · exact absurd (zug_ (hl1.1 _ e2) (hl2.1 _ e)) (zkf_ _)
        · exact e'
structure Firsts (M : Nat) (S : List Int → Prop) (l : List (List Int)) : Prop where
  rise : Rise l
  mem : ∀ x ∈ l, S x
  len : l.length ≤ M
  all : ∀ x, S x → x ∈ l ∨ (l.length = M ∧ ∀ y ∈ l, ltL y x)
theorem Firsts.sub {M : Nat} {S : List Int → Prop} {l l' : List (List Int)} (h : Firsts M S l) (h' : Firsts M S l') : ∀ x ∈ l, x ∈ l' := by
  intro x hx
  rcases h'.all x (h.mem x hx) with e | ⟨e1, e2⟩
  · exact e
  · exfalso
    have hs : l'.Sublist l := zmk_ h'.rise h.rise fun y hy => by
      rcases h.all y (h'.mem y hy) with e | ⟨_, e3⟩
      · exact e
      · exact absurd (zug_ (e2 y hy) (e3 x hx)) (zkf_ _)
    have := hs.eq_of_length_le (by rw [e1]; exact h.len)
    subst this
    exact zkf_ _ (e2 x hx)
theorem Firsts.nil (M : Nat) {S : List Int → Prop} (h : ∀ x, ¬ S x) : Firsts M S [] := ⟨List.Pairwise.nil, fun x hx => by simp at hx, Nat.zero_le _, fun x hx => absurd hx (h x)⟩
theorem Firsts.zero (S : List Int → Prop) : Firsts 0 S [] := ⟨List.Pairwise.nil, fun x hx => by simp at hx, Nat.zero_le _, fun x hx => .inr ⟨rfl, fun y hy => by simp at hy⟩⟩
theorem Firsts.congr {M : Nat} {S S' : List Int → Prop} {l : List (List Int)} (h : Firsts M S l) (e : ∀ x, S' x ↔ S x) : Firsts M S' l := ⟨h.rise, fun x hx => (e x).2 (h.mem x hx), h.len, fun x hx => h.all x ((e x).1 hx)⟩
def Under (M : Nat) (S : List Int → Prop) (x : List Int) : Prop := ∃ ys, Rise ys ∧ ys.length = M ∧ ∀ y ∈ ys, S y ∧ ltL y x
theorem Firsts.more {M : Nat} {S S' : List Int → Prop} {l : List (List Int)} (h : Firsts M S l) (h1 : ∀ x, S x → S' x) (h2 : ∀ x, S' x → S x ∨ Under M S x) : Firsts M S' l := by
  refine ⟨h.rise, fun x hx => h1 x (h.mem x hx), h.len, fun x hx => ?_⟩
  rcases h2 x hx with e | ⟨ys, hy1, hy2, hy3⟩
  · exact h.all x e
  by_cases hxl : x ∈ l
  · exact .inl hxl
  have key : ∀ z ∈ l, ltL z x := fun z hz => by
    rcases ltL_tri z x with e | e | e
    · exact e
    · subst e
      exact absurd hz hxl
    · exfalso
      have hs : ys.Sublist l := zmk_ hy1 h.rise fun y hy => by
        rcases h.all y (hy3 y hy).1 with e1 | ⟨_, e1⟩
        · exact e1
        · exact absurd (zug_ (e1 z hz) (zug_ (hy3 y hy).2 e)) (zkf_ _)
      have := hs.eq_of_length_le (by rw [hy2]; exact h.len)
      subst this
      exact absurd (zug_ (hy3 z hz).2 e) (zkf_ _)
  refine .inr ⟨?_, key⟩
  by_cases hlt : l.length = M
  · exact hlt
  · exfalso
    have hs : ys.Sublist l := zmk_ hy1 h.rise fun y hy => by
      rcases h.all y (hy3 y hy).1 with e1 | ⟨e1, _⟩
      · exact e1
      · exact absurd e1 hlt
    have := hs.length_le
    have := h.len
    omega
theorem Firsts.of_rise (M : Nat) {l : List (List Int)} (h : Rise l) : Firsts M (fun x => x ∈ l) (l.take M) := by
  refine ⟨h.sublist (List.take_sublist _ _), fun x hx => (List.take_sublist _ _).subset hx, by rw [List.length_take]; omega, fun x hx => ?_⟩
  rw [← List.take_append_drop M l] at hx
  rcases List.mem_append.1 hx with e | e
  · exact .inl e
  · refine .inr ⟨?_, fun y hy => ?_⟩
    · rw [List.length_take]
      have : 0 < (l.drop M).length := List.length_pos_of_mem e
      rw [List.length_drop] at this
      omega
    · have h' := h
      rw [← List.take_append_drop M l] at h'
      exact (List.pairwise_append.1 h').2.2 y hy x e
theorem Firsts.take {M m : Nat} {S : List Int → Prop} {l : List (List Int)} (h : Firsts M S l) (hm : m ≤ M) : Firsts m S (l.take m) := by
  refine (Firsts.of_rise m h.rise).more h.mem fun x hx => ?_
  rcases h.all x hx with e | ⟨e1, e2⟩
  · exact .inl e
  · refine .inr ⟨l.take m, h.rise.sublist (List.take_sublist _ _), by rw [List.length_take]; omega, fun y hy => ?_⟩
    have := (List.take_sublist _ _).subset hy
    exact ⟨this, e2 y this⟩
theorem Firsts.add {M : Nat} {S : List Int → Prop} {pre post : List (List Int)} {x : List Int} (h : Firsts M S (pre ++ post)) (h1 : ∀ y ∈ pre, ltL y x) (h2 : ∀ y ∈ post, ltL x y) : Firsts M (fun z => S z ∨ z = x) (if M ≤ pre.length then pre ++ post else (pre ++ x :: post).take M) := by
  have hr : Rise (pre ++ x :: post) := by
    have := List.pairwise_append.1 h.rise
    refine List.pairwise_append.2 ⟨this.1, List.pairwise_cons.2 ⟨h2, this.2.1⟩, fun a ha b hb => ?_⟩
    rcases List.mem_cons.1 hb with e | e
    · subst e
      exact h1 a ha
    · exact this.2.2 a ha b e
  have hlen := h.len
  rw [List.length_append] at hlen
  have hf := Firsts.of_rise M hr
  have he : (pre ++ x :: post).take M = if M ≤ pre.length then pre ++ post else (pre ++ x :: post).take M := by
    split
    · rw [List.take_append_of_le_length (by omega), List.take_of_length_le (by omega)]
      have : post = [] := List.eq_nil_of_length_eq_zero (by omega)
      rw [this, List.append_nil]
    · rfl
  rw [← he]
  refine hf.more (fun z hz => ?_) fun z hz => ?_
  · rcases List.mem_append.1 hz with e | e
    · exact .inl (h.mem z (List.mem_append_left _ e))
    · rcases List.mem_cons.1 e with e | e
      · exact .inr e
      · exact .inl (h.mem z (List.mem_append_right _ e))
  · have hsub : ∀ y ∈ pre ++ post, y ∈ pre ++ x :: post := fun y hy => by
      rcases List.mem_append.1 hy with e | e
      · exact List.mem_append_left _ e
      · exact List.mem_append_right _ (List.mem_cons_of_mem _ e)
    rcases hz with hz | hz
    · rcases h.all z hz with e | ⟨e1, e2⟩
      · exact .inl (hsub z e)
      · exact .inr ⟨pre ++ post, h.rise, e1, fun y hy => ⟨hsub y hy, e2 y hy⟩⟩
    · subst hz
      exact .inl (List.mem_append_right _ (List.mem_cons_self ..))
theorem Firsts.append {M : Nat} {S S' : List Int → Prop} {l l' : List (List Int)} (h : Firsts M S l) (h' : Firsts (M - l.length) S' l') (hl : ∀ x y, S x → S' y → ltL x y) : Firsts M (fun z => S z ∨ S' z) (l ++ l') := by
  have h1 := h.len
  have h2 := h'.len
  refine ⟨List.pairwise_append.2 ⟨h.rise, h'.rise, fun a ha b hb => hl a b (h.mem a ha) (h'.mem b hb)⟩, fun x hx => ?_, by rw [List.length_append]; omega, fun x hx => ?_⟩
  · rcases List.mem_append.1 hx with e | e
    · exact .inl (h.mem x e)
    · exact .inr (h'.mem x e)
  · rcases hx with hx | hx
    · rcases h.all x hx with e | ⟨e1, e2⟩
      · exact .inl (List.mem_append_left _ e)
      · have : l' = [] := List.eq_nil_of_length_eq_zero (by omega)
        subst this
        rw [List.append_nil]
        exact .inr ⟨e1, e2⟩
    · rcases h'.all x hx with e | ⟨e1, e2⟩
      · exact .inl (List.mem_append_right _ e)
      · refine .inr ⟨by rw [List.length_append]; omega, fun y hy => ?_⟩
        rcases List.mem_append.1 hy with e | e
        · exact hl y x (h.mem y e) hx
        · exact e2 y e
theorem Firsts.map {M : Nat} {S : List Int → Prop} {l : List (List Int)} (h : Firsts M S l) (q : Int) : Firsts M (fun t => ∃ r, S r ∧ t = q :: r) (l.map (q :: ·)) := by
  refine ⟨List.pairwise_map.2 (h.rise.imp fun e => ltL_cons.2 (.inr ⟨rfl, e⟩)), fun x hx => ?_, by rw [List.length_map]; exact h.len, fun x hx => ?_⟩
  · obtain ⟨r, hr, rfl⟩ := List.mem_map.1 hx
    exact ⟨r, h.mem r hr, rfl⟩
  · obtain ⟨r, hr, rfl⟩ := hx
    rcases h.all r hr with e | ⟨e1, e2⟩
    · exact .inl (List.mem_map.2 ⟨r, e, rfl⟩)
    · refine .inr ⟨by rw [List.length_map]; exact e1, fun y hy => ?_⟩
      obtain ⟨y', hy', rfl⟩ := List.mem_map.1 hy
      exact ltL_cons.2 (.inr ⟨rfl, e2 y' hy'⟩)
def sumN (f : Nat → Nat) : Nat → Nat
  | 0 => 0
  | n + 1 => sumN f n + f n
def cntR (c : Nat → Nat → Nat → Nat → Nat) (ws : List Int) : List Int → Nat → Nat → Nat → Nat
  | [], i, j, s => if i = j ∧ s = 0 then 1 else 0
  | x :: xs, i, j, s => if x < 0 then (if i < j ∧ ws.getD i 0 = -1 - x then cntR c ws xs (i + 1) j s else 0)
      else sumN (fun m => sumN (fun k => c x.toNat i (i + m) (k + 1) * cntR c ws xs (i + m) j (s - (k + 1))) s) (j + 1 - i)
def sumR (rs : List RuleL) (p : RuleL → Nat) : Nat := rs.foldl (fun a r => a + p r) 0
def cntT (rs : List RuleL) (ws : List Int) : Nat → Nat → Nat → Nat → Nat → Nat
  | 0, _, _, _, _ => 0
  | f + 1, A, i, j, s => if s = 0 then 0 else sumR rs fun r => if r.1 = (A : Int) then cntR (cntT rs ws f) ws r.2 i j (s - 1) else 0
def cntC (rs : List RuleL) (ws : List Int) (A i j s : Nat) : Nat := cntT rs ws s A i j s
theorem zeg_ {f g : Nat → Nat} : ∀ {n : Nat}, (∀ k, k < n → f k = g k) → sumN f n = sumN g n := by
  intro n
  induction n with
  | zero => intro _; rfl
  | succ n ih =>
    intro h
    rw [sumN, sumN, ih fun k hk => h k (by omega), h n (by omega)]
theorem zwm_ {c c' : Nat → Nat → Nat → Nat → Nat} {ws : List Int} : ∀ {xs : List Int} {i j s : Nat}, (∀ A i j k, k ≤ s → c A i j k = c' A i j k) → cntR c ws xs i j s = cntR c' ws xs i j s := by
  intro xs
  induction xs with
  | nil => intro i j s _; rfl
  | cons x xs ih =>
    intro i j s h
    rw [cntR, cntR]
    split
    · split
      · exact ih h
      · rfl
    · refine zeg_ fun m _ => zeg_ fun k hk => ?_
      rw [h _ _ _ _ (by omega), ih fun A i j k' hk' => h A i j k' (by omega)]
theorem zxm_ {rs : List RuleL} {p q : RuleL → Nat} (h : ∀ r, p r = q r) : sumR rs p = sumR rs q := by
  rw [show p = q from funext h]
theorem cntT_more {rs : List RuleL} {ws : List Int} : ∀ {f g A i j s : Nat}, s ≤ f → s ≤ g → cntT rs ws f A i j s = cntT rs ws g A i j s := by
  intro f
  induction f with
  | zero =>
    intro g A i j s h1 h2
    obtain rfl : s = 0 := by omega
    cases g with
    | zero => rfl
    | succ g => rw [cntT, cntT, if_pos rfl]
  | succ f ih =>
    intro g A i j s h1 h2
    cases g with
    | zero =>
      obtain rfl : s = 0 := by omega
      rw [cntT, cntT, if_pos rfl]
    | succ g =>
      rw [cntT, cntT]
      split
      · rfl
      · refine zxm_ fun r => ?_
        split
        · exact zwm_ fun A i j k hk => ih (by omega) (by omega)
        · rfl
theorem cntC_zero (rs : List RuleL) (ws : List Int) (A i j : Nat) : cntC rs ws A i j 0 = 0 := rfl
theorem zup_ (rs : List RuleL) (ws : List Int) (A i j s : Nat) : cntC rs ws A i j (s + 1) = sumR rs fun r => if r.1 = (A : Int) then cntR (cntC rs ws) ws r.2 i j s else 0 := by
  unfold cntC
  rw [cntT, if_neg (by omega)]
  refine zxm_ fun r => ?_
  split
  · exact zwm_ fun A i j k hk => cntT_more (by omega) (Nat.le_refl _)
  · rfl
end Go.Sh
