/- Texts of this repository put together: ShU6, ShM4, ShM5, Bj, ShN1, Bh, ShM6, ShM7, ShN2, Bo, ShO2, ShM8, ShM9, ShMA. -/
import Derived.Test.YtiohaeckagjebaaK21b
import Derived.Test.YtiohaeckagjebaaProg
import Derived.Test.YtiohaeckagjebaaK21a

/- Contracts: words compared (the program's library), FirstUnlike of the reference and of the program. -/
set_option linter.unusedVariables false
set_option linter.unusedSimpArgs false
set_option maxRecDepth 100000
namespace Go.Sh
open Go
def cmpI (x y : Int) : Int := if x < y then -1 else if y < x then 1 else 0
def cmpL : List Int → List Int → Int
  | x :: xs, y :: ys => if cmpI x y ≠ 0 then cmpI x y else cmpL xs ys
  | [], [] => 0
  | [], _ :: _ => -1
  | _ :: _, [] => 1
theorem cmpI_lt {x y : Int} : cmpI x y < 0 ↔ x < y := by
  unfold cmpI
  split
  · omega
  · split <;> omega
theorem cmpI_eq {x y : Int} : cmpI x y = 0 ↔ x = y := by
  unfold cmpI
  split
  · omega
  · split <;> omega
theorem cmpL_drop {a b : List Int} {i : Nat} (hi : i < a.length) (hj : i < b.length) : cmpL (a.drop i) (b.drop i) = if cmpI (a.getD i 0) (b.getD i 0) ≠ 0 then cmpI (a.getD i 0) (b.getD i 0) else cmpL (a.drop (i + 1)) (b.drop (i + 1)) := by
  rw [List.drop_eq_getElem_cons hi, List.drop_eq_getElem_cons hj, cmpL]
  simp [List.getD_eq_getElem?_getD, hi, hj]
theorem cmpL_right {a b : List Int} {i : Nat} (hi : i < a.length) (hj : b.length ≤ i) : cmpL (a.drop i) (b.drop i) = 1 := by
  rw [List.drop_eq_getElem_cons hi, List.drop_of_length_le hj, cmpL]
theorem cmpL_left {a b : List Int} {i : Nat} (hi : a.length ≤ i) (hj : i < b.length) : cmpL (a.drop i) (b.drop i) = -1 := by
  rw [List.drop_eq_getElem_cons hj, List.drop_of_length_le hi, cmpL]
theorem cmpL_none {a b : List Int} {i : Nat} (hi : a.length ≤ i) (hj : b.length ≤ i) : cmpL (a.drop i) (b.drop i) = 0 := by
  rw [List.drop_of_length_le hi, List.drop_of_length_le hj, cmpL]
/-- The rest of a list of slices, from place i on. -/
structure AtS (w : World) (X : Option Addr) (n c : Nat) (ls : List (List Int)) (ps : Nat → Option Addr × Nat) (i : Nat) : Prop where
  len : n = ls.length - i
  le : n ≤ c
  ptr : 0 < n → X = some (ad X)
  cell : ∀ j, j < n → w.cell? ((ad X).add j) = some (.slice (ps (i + j)).1 (rgt ls (i + j)).length (ps (i + j)).2)
theorem AtS.gr {w w' : World} {X : Option Addr} {n c i : Nat} {ls : List (List Int)} {ps : Nat → Option Addr × Nat} (h : AtS w X n c ls ps i) (g : Gr w w') : AtS w' X n c ls ps i := ⟨h.len, h.le, h.ptr, fun j hj => g.cell (h.cell j hj)⟩
theorem AtS.first {w : World} {X : Option Addr} {n c i : Nat} {ls : List (List Int)} {ps : Nat → Option Addr × Nat} (h : AtS w X n c ls ps i) (h0 : 0 < n) : w.cell? ((ad X).add 0) = some (.slice (ps i).1 (rgt ls i).length (ps i).2) := h.cell 0 h0
theorem AtS.next {w : World} {X : Option Addr} {n c i : Nat} {ls : List (List Int)} {ps : Nat → Option Addr × Nat} (h : AtS w X n c ls ps i) (h0 : 0 < n) : AtS w (sub X 1 c 1) (n - 1) (c - 1) ls ps (i + 1) := by
  have hl := h.len
  have hle := h.le
  have hX := h.ptr h0
  refine ⟨by omega, by omega, fun h1 => ?_, fun j hj => ?_⟩
  · unfold Sh.sub
    rw [if_neg (by omega), hX]
    rfl
  · have := h.cell (j + 1) (by omega)
    unfold Sh.sub
    rw [if_neg (by omega), hX]
    show w.cell? (((ad X).add (1 * 1)).add j) = _
    rw [add_add, show 1 * 1 + j = j + 1 from by omega, this, show i + (j + 1) = i + 1 + j from by omega]
theorem AtS.of {w : World} {e1 e2 B c : Nat} {X : Option Addr} {ls : List (List Int)} {ps : Nat → Option Addr × Nat} (o : OwnSS e1 e2 w B X c ls ps) : AtS w X ls.length c ls ps 0 := by
  refine ⟨by omega, ?_, fun h => o.ptr h, fun j hj => ?_⟩
  · obtain ⟨⟨cells, hr, hc⟩, _⟩ := o
    exact hr.cap.1
  · rw [Nat.zero_add]
    exact o.cell hj
end Go.Sh
namespace Go.Proofs.Ytiohaeckagjebaa
open Go Go.Sh Go.RowKit
theorem compare_c {w : World} {x y : Int} {k : Value → World → Prop} (hk : k (.int .i64 (cmpI x y)) w) : CallK Try.prog 163 [.int .i64 x, .int .i64 y] k w := by
  refine enter163 ?_
  unfold S163
  refine enter187 ?_
  unfold S187
  simp only [decide_true, Bool.not_true, go_sem, Nat.reduceEqDiff]
  refine enter187 ?_
  unfold S187
  simp only [decide_true, Bool.not_true, go_sem, Nat.reduceEqDiff]
  unfold cmpI at hk
  by_cases h1 : x < y
  · simp only [h1, decide_true, go_sem, Nat.reduceEqDiff]
    rwa [if_pos h1] at hk
  · simp only [h1, decide_false, go_sem, Nat.reduceEqDiff]
    rw [if_neg h1] at hk
    by_cases h2 : y < x
    · simp only [h2, decide_true, go_sem, Nat.reduceEqDiff]
      rwa [if_pos h2] at hk
    · simp only [h2, decide_false, go_sem, Nat.reduceEqDiff]
      rwa [if_neg h2] at hk
theorem compareL_c {w : World} {X Y : Option Addr} {c d : Nat} {a b : List Int} (hX : Ints w X a) (hY : Ints w Y b) {k : Value → World → Prop} (hk : k (.int .i64 (cmpL a b)) w) :
    CallK Try.prog 164 [.slice X a.length c, .slice Y b.length d] k w := by
  refine enter164 ?_
  unfold S164
  simp only [go_sem, Nat.reduceEqDiff]
  have hle := hX.le
  refine loop_to a.length 0 (fun i f w' => i ≤ a.length ∧ i ≤ b.length ∧ f 11 = .int .i64 i ∧ w' = w ∧ cmpL a b = cmpL (a.drop i) (b.drop i)) ⟨Nat.zero_le _, Nat.zero_le _, rfl, rfl, by simp⟩ ?_
  rintro i f w1 N hag ⟨hi, hib, h11, rfl, hE⟩ hN
  have f0 : f 0 = .slice X a.length c := hag 0 (by decide)
  have f1 : f 1 = .slice Y b.length d := hag 1 (by decide)
  have f9 : f 9 = .slice X a.length c := hag 9 (by decide)
  have f10 : f 10 = .int .i64 a.length := hag 10 (by decide)
  simp only [f0, f1, f9, f10, h11, go_sem, Nat.reduceEqDiff]
  by_cases hlt : i < a.length
  case neg =>
    simp only [show ¬ ((i : Int) < a.length) from by omega, decide_false, go_sem, Nat.reduceEqDiff]
    by_cases hb : a.length < b.length
    · simp only [show ((a.length : Int) < b.length) from by omega, decide_true, go_sem, Nat.reduceEqDiff]
      rw [cmpL_left (by omega) (by omega)] at hE
      rwa [hE] at hk
    · simp only [show ¬ ((a.length : Int) < b.length) from by omega, decide_false, go_sem, Nat.reduceEqDiff]
      rw [cmpL_none (by omega) (by omega)] at hE
      rwa [hE] at hk
  simp only [show ((i : Int) < a.length) from by omega, decide_true, go_sem, Nat.reduceEqDiff]
  refine rdi (ixn22 hX.ptr hlt) (rdi (ld3 (hX.cell i hlt)) ?_)
  by_cases hb : i < b.length
  case neg =>
    simp only [show ((b.length : Int) ≤ i) from by omega, decide_true, go_sem, Nat.reduceEqDiff]
    rw [cmpL_right hlt (by omega)] at hE
    rwa [hE] at hk
  simp only [show ¬ ((b.length : Int) ≤ i) from by omega, decide_false, go_sem, Nat.reduceEqDiff]
  refine rdi (ixn22 hY.ptr hb) (rdi (ld3 (hY.cell i hb)) ?_)
  refine compare_c ?_
  simp only [go_sem, Nat.reduceEqDiff]
  rw [cmpL_drop hlt hb] at hE
  by_cases e : cmpI (a.getD i 0) (b.getD i 0) = 0
  · simp only [e, decide_true, Bool.not_true, go_sem, Nat.reduceEqDiff]
    rw [i64_of (by omega) (by omega)]
    rw [if_neg (fun h => h e)] at hE
    exact hN _ _ hlt ⟨by omega, by omega, rfl, rfl, hE⟩
  · simp only [e, decide_false, Bool.not_false, go_sem, Nat.reduceEqDiff]
    rw [if_pos e] at hE
    rwa [hE] at hk
end Go.Proofs.Ytiohaeckagjebaa

/- The least tree with the least cost: the plain law. -/
set_option linter.unusedVariables false
set_option linter.unusedSimpArgs false
set_option maxRecDepth 100000
namespace Go.Sh
open Go
/-- The least of some lists. -/
def minL (f : Nat → Option (List Int)) : Nat → Option (List Int)
  | 0 => none
  | n + 1 => match f n with
    | none => minL f n
    | some x => match minL f n with
      | none => some x
      | some b => if cmpL x b < 0 then some x else some b
theorem minL_none {f : Nat → Option (List Int)} {n : Nat} (h : f n = none) : minL f (n + 1) = minL f n := by
  rw [minL, h]
theorem minL_first {f : Nat → Option (List Int)} {n : Nat} {x : List Int} (h : f n = some x) (h1 : minL f n = none) : minL f (n + 1) = some x := by
  rw [minL, h, h1]
theorem minL_next {f : Nat → Option (List Int)} {n : Nat} {x b : List Int} (h : f n = some x) (h1 : minL f n = some b) : minL f (n + 1) = if cmpL x b < 0 then some x else some b := by
  rw [minL, h, h1]
theorem minL_congr {f g : Nat → Option (List Int)} : ∀ {k : Nat}, (∀ m, m < k → f m = g m) → minL f k = minL g k := by
  intro k
  induction k with
  | zero => intro _; rfl
  | succ k ih =>
    intro h
    rw [minL, minL, ih fun m hm => h m (by omega), h k (by omega)]
theorem minL_some {f : Nat → Option (List Int)} : ∀ {k : Nat} {x : List Int}, minL f k = some x → ∃ m, m < k ∧ f m = some x := by
  intro k
  induction k with
  | zero => intro x h; cases h
  | succ k ih =>
    intro x h
    cases hf : f k with
    | none =>
      rw [minL_none hf] at h
      obtain ⟨m, hm, h1⟩ := ih h
      exact ⟨m, by omega, h1⟩
    | some y =>
      cases hm : minL f k with
      | none =>
        rw [minL_first hf hm] at h
        exact ⟨k, by omega, by rw [hf, h]⟩
      | some b =>
        rw [minL_next hf hm] at h
        split at h
        · exact ⟨k, by omega, by rw [hf, h]⟩
        · cases h
          obtain ⟨m, hm', h1⟩ := ih hm
          exact ⟨m, by omega, h1⟩
/-- What one place offers. -/
def termB (tr : Nat → Nat → Nat → List Int) (T : CT) (r : Nat → Option Nat) (l : Nat → List Int) (all : Option Nat) (A i m : Nat) : Option (List Int) :=
  if (addO (T A i (i + m)) (r (i + m))).isSome = true ∧ addO (T A i (i + m)) (r (i + m)) = all then some (tr A i (i + m) ++ l (i + m)) else none
def bestRow (tr : Nat → Nat → Nat → List Int) (ws : List Int) (T : CT) : List Int → Nat → Nat → List Int
  | [], _, _ => []
  | x :: xs, i, j => if x < 0 then bestRow tr ws T xs (i + 1) j
      else (minL (termB tr T (fun m => restG (tokC ws) nl0 T xs m j) (fun m => bestRow tr ws T xs m j) (restG (tokC ws) nl0 T (x :: xs) i j) x.toNat i) (j + 1 - i)).getD []
def isBestQ (rs : List RuleL) (ws cs : List Int) (T : CT) (A i j q : Nat) : Bool := decide ((rul rs q).1 = (A : Int)) && (decide (candC rs ws cs T q i j = T A i j) && (T A i j).isSome)
def bestQ (rs : List RuleL) (ws cs : List Int) (T : CT) (A i j : Nat) : Option Nat := (List.range rs.length).find? (isBestQ rs ws cs T A i j)
def bestTr (rs : List RuleL) (ws cs : List Int) (T : CT) : Nat → Nat → Nat → Nat → List Int
  | 0, _, _, _ => []
  | f + 1, A, i, j => match bestQ rs ws cs T A i j with
    | none => []
    | some q => (q : Int) :: bestRow (bestTr rs ws cs T f) ws T (rul rs q).2 i j
theorem bestRow_congr {tr tr' : Nat → Nat → Nat → List Int} {ws : List Int} {T : CT} : ∀ {xs : List Int} {i j v : Nat}, restG (tokC ws) nl0 T xs i j = some v → (∀ A i j n, T A i j = some n → n ≤ v → tr A i j = tr' A i j) → bestRow tr ws T xs i j = bestRow tr' ws T xs i j := by
  intro xs
  induction xs with
  | nil => intro i j v _ _; rfl
  | cons x xs ih =>
    intro i j v hv h
    rw [bestRow, bestRow]
    by_cases hx : x < 0
    · rw [if_pos hx, if_pos hx]
      rw [rest_tok hx] at hv
      split at hv
      · exact ih hv h
      · cases hv
    · rw [if_neg hx, if_neg hx]
      congr 1
      refine minL_congr fun m hm => ?_
      unfold termB
      split
      · rename_i hc
        rw [hv] at hc
        obtain ⟨a, b, h1, h2, h3⟩ := addO_some hc.2
        dsimp only
        rw [h _ _ _ _ h1 (by omega), ih h2 fun A i j n h4 h5 => h A i j n h4 (by omega)]
      · rfl
theorem bestRow_len {tr : Nat → Nat → Nat → List Int} {ws : List Int} {T : CT} : ∀ {xs : List Int} {i j v : Nat}, restG (tokC ws) nl0 T xs i j = some v → (∀ A i j n, T A i j = some n → n ≤ v → (tr A i j).length ≤ n) → (bestRow tr ws T xs i j).length ≤ v := by
  intro xs
  induction xs with
  | nil => intro i j v _ _; exact Nat.zero_le _
  | cons x xs ih =>
    intro i j v hv h
    rw [bestRow]
    by_cases hx : x < 0
    · rw [if_pos hx]
      rw [rest_tok hx] at hv
      split at hv
      · exact ih hv h
      · cases hv
    · rw [if_neg hx]
      cases hm : minL (termB tr T (fun m => restG (tokC ws) nl0 T xs m j) (fun m => bestRow tr ws T xs m j) (restG (tokC ws) nl0 T (x :: xs) i j) x.toNat i) (j + 1 - i) with
      | none => exact Nat.zero_le _
      | some l =>
        obtain ⟨m, _, h1⟩ := minL_some hm
        unfold termB at h1
        split at h1
        · rename_i hc
          rw [hv] at hc
          obtain ⟨a, b, h2, h3, h4⟩ := addO_some hc.2
          cases h1
          have := h _ _ _ _ h2 (by omega)
          have := ih h3 fun A i j n h5 h6 => h A i j n h5 (by omega)
          rw [Option.getD_some, List.length_append]
          dsimp only
          omega
        · cases h1
theorem bestQ_some {rs : List RuleL} {ws cs : List Int} {T : CT} {A i j q : Nat} (h : bestQ rs ws cs T A i j = some q) : q < rs.length ∧ (rul rs q).1 = (A : Int) ∧ ∃ n v, T A i j = some n ∧ restG (tokC ws) nl0 T (rul rs q).2 i j = some v ∧ n = v + costQ cs q := by
  unfold bestQ at h
  have h1 := List.find?_some h
  have h2 := List.mem_of_find?_eq_some h
  unfold isBestQ at h1
  simp only [Bool.and_eq_true, decide_eq_true_eq] at h1
  refine ⟨List.mem_range.1 h2, h1.1, ?_⟩
  obtain ⟨n, hn⟩ := Option.isSome_iff_exists.1 h1.2.2
  have h3 := h1.2.1
  rw [hn] at h3
  unfold candC at h3
  cases hv : restG (tokC ws) nl0 T (rul rs q).2 i j with
  | none => rw [hv] at h3; cases h3
  | some v =>
    rw [hv] at h3
    exact ⟨n, v, hn, rfl, (Option.some.inj h3).symm⟩
section
variable {rs : List RuleL} {ws cs : List Int} {T : CT}
theorem bestTr_more (hc : ∀ q, q < rs.length → 0 < costQ cs q) (hp : PosG T) : ∀ {f g A i j n : Nat}, T A i j = some n → n ≤ f → n ≤ g → bestTr rs ws cs T f A i j = bestTr rs ws cs T g A i j := by
  intro f
  induction f with
  | zero =>
    intro g A i j n hn h1 h2
    have := hp _ _ _ _ hn
    omega
  | succ f ih =>
    intro g A i j n hn h1 h2
    have := hp _ _ _ _ hn
    obtain ⟨g, rfl⟩ : ∃ g', g = g' + 1 := ⟨g - 1, by omega⟩
    rw [bestTr, bestTr]
    split
    · rfl
    · rename_i q hq
      obtain ⟨hq1, _, n', v, hn', hv, he⟩ := bestQ_some hq
      rw [hn] at hn'
      cases hn'
      have := hc q hq1
      have := bestRow_congr (tr := bestTr rs ws cs T f) (tr' := bestTr rs ws cs T g) hv fun A i j m hm hle => ih hm (by omega) (by omega)
      rw [this]
theorem bestTr_len (hc : ∀ q, q < rs.length → 0 < costQ cs q) : ∀ {f A i j n : Nat}, T A i j = some n → (bestTr rs ws cs T f A i j).length ≤ n := by
  intro f
  induction f with
  | zero => intro A i j n _; exact Nat.zero_le _
  | succ f ih =>
    intro A i j n hn
    rw [bestTr]
    split
    · exact Nat.zero_le _
    · rename_i q hq
      obtain ⟨hq1, _, n', v, hn', hv, he⟩ := bestQ_some hq
      rw [hn] at hn'
      cases hn'
      have := hc q hq1
      have := bestRow_len (tr := bestTr rs ws cs T f) hv fun A i j m hm _ => ih hm
      rw [List.length_cons]
      omega
end
end Go.Sh

/- Tables of costs in memory: rows of the reference, cells of the program. -/
set_option linter.unusedVariables false
set_option linter.unusedSimpArgs false
set_option maxRecDepth 100000
namespace Go.Sh
open Go
structure TabE (enc : Option Nat → Int) (w : World) (U : Option Addr) (nons n : Nat) (T : CT) : Prop where
  ptr : 0 < nons → U = some (ad U)
  row : ∀ x, x < nons → ∃ R c, w.cell? ((ad U).add x) = some (.slice R (n * n) c) ∧ R = some (ad R) ∧ ∀ i j, i < n → j < n → w.cell? ((ad R).add (i * n + j)) = some (.int .i64 (enc (T x i j)))
  cap : ∀ x R c, x < nons → w.cell? ((ad U).add x) = some (.slice R (n * n) c) → n * n ≤ c
theorem TabE.gr {enc : Option Nat → Int} {w w' : World} {U : Option Addr} {nons n : Nat} {T : CT} (h : TabE enc w U nons n T) (g : Gr w w') : TabE enc w' U nons n T := ⟨h.ptr, fun x hx => by
  obtain ⟨R, c, h1, h2, h3⟩ := h.row x hx
  exact ⟨R, c, g.cell h1, h2, fun i j hi hj => g.cell (h3 i j hi hj)⟩, fun x R c hx hc => by
  obtain ⟨R', c', h1, _, _⟩ := h.row x hx
  have h4 := g.cell h1
  rw [hc] at h4
  cases h4
  exact h.cap x _ _ hx h1⟩
def rowE (enc : Option Nat → Int) (T : CT) (n x : Nat) : List Value := (List.range (n * n)).map fun p => .int .i64 (enc (T x (p / n) (p % n)))
def rowsE (enc : Option Nat → Int) (T : CT) (nons n : Nat) : List (List Value) := (List.range nons).map (rowE enc T n)
section
variable {enc : Option Nat → Int} {T : CT}
theorem rowE_length (n x : Nat) : (rowE enc T n x).length = n * n := by simp [rowE]
theorem rowsE_length (nons n : Nat) : (rowsE enc T nons n).length = nons := by simp [rowsE]
theorem vls_rowsE {nons n x : Nat} (h : x < nons) : vls (rowsE enc T nons n) x = rowE enc T n x := by
  rw [vls_eq (by rw [rowsE_length]; exact h)]
  simp [rowsE]
theorem rowE_at {n x i j : Nat} (hi : i < n) (hj : j < n) : (rowE enc T n x)[i * n + j]? = some (.int .i64 (enc (T x i j))) := by
  have hn : 0 < n := by omega
  have e1 : (i * n + j) / n = i := by rw [Nat.mul_comm, Nat.mul_add_div hn, Nat.div_eq_of_lt hj, Nat.add_zero]
  have e2 : (i * n + j) % n = j := by rw [Nat.mul_comm, Nat.mul_add_mod, Nat.mod_eq_of_lt hj]
  simp [rowE, place_lt hi hj, e1, e2]
theorem rowE_put {n x i j m : Nat} (hi : i < n) (hj : j < n) : (rowE enc T n x).set (i * n + j) (.int .i64 (enc (some m))) = rowE enc (T.put x i j m) n x := by
  have hn : 0 < n := by omega
  refine List.ext_getElem? fun p => ?_
  rw [List.getElem?_set]
  by_cases hp : i * n + j = p
  · subst hp
    rw [if_pos rfl, if_pos (by rw [rowE_length]; exact place_lt hi hj), rowE_at hi hj]
    simp [CT.put]
  · rw [if_neg hp]
    simp only [rowE, List.getElem?_map]
    by_cases hlt : p < n * n
    · simp only [List.getElem?_range hlt, Option.map_some, CT.put]
      have : ¬ (p / n = i ∧ p % n = j) := by
        rintro ⟨h1, h2⟩
        apply hp
        have := Nat.div_add_mod p n
        rw [h1, h2, Nat.mul_comm] at this
        exact this
      rw [if_neg (fun h => this h.2)]
    · rw [List.getElem?_eq_none (by simp; omega)]
      rfl
theorem rowE_other {n x y i j m : Nat} (h : y ≠ x) : rowE enc (T.put x i j m) n y = rowE enc T n y := by
  simp [rowE, CT.put, h]
theorem rowsE_put {nons n x i j m : Nat} (hx : x < nons) (hi : i < n) (hj : j < n) : (rowsE enc T nons n).set x ((vls (rowsE enc T nons n) x).set (i * n + j) (.int .i64 (enc (some m)))) = rowsE enc (T.put x i j m) nons n := by
  rw [vls_rowsE hx, rowE_put hi hj]
  refine List.ext_getElem? fun p => ?_
  rw [List.getElem?_set]
  by_cases hp : x = p
  · subst hp
    rw [if_pos rfl, if_pos (by rw [rowsE_length]; exact hx)]
    simp [rowsE, hx]
  · rw [if_neg hp]
    by_cases hlt : p < nons
    · simp [rowsE, hlt, rowE_other (fun e => hp e.symm)]
    · rw [List.getElem?_eq_none (by rw [rowsE_length]; omega), List.getElem?_eq_none (by rw [rowsE_length]; omega)]
theorem OwnV.tabE {e1 e2 : Nat} {w : World} {B c nons n : Nat} {X : Option Addr} {ps : Nat → Option Addr × Nat} (h : OwnV e1 e2 w B X c (rowsE enc T nons n) ps) (hn : 0 < n) : TabE enc w X nons n T := by
  have key : ∀ x, x < nons → w.cell? ((ad X).add x) = some (.slice (ps x).1 (n * n) (ps x).2) ∧ Row w B e2 1 (ps x).1 (n * n) (ps x).2 (rowE enc T n x) := fun x hx => by
    have hx' : x < (rowsE enc T nons n).length := by rw [rowsE_length]; exact hx
    have hc := h.cell hx'
    have ho := h.own x hx'
    rw [vls_rowsE hx, rowE_length] at hc ho
    exact ⟨hc, ho⟩
  refine ⟨fun hp => h.ptr (by rw [rowsE_length]; exact hp), fun x hx => ?_, fun x R c hx hc => ?_⟩
  · obtain ⟨hc, ho⟩ := key x hx
    exact ⟨_, _, hc, ho.ptr (Nat.mul_pos hn hn), fun i j hi hj => ho.src.cell _ _ (rowE_at hi hj)⟩
  · obtain ⟨hc', ho⟩ := key x hx
    rw [hc] at hc'
    cases hc'
    exact ho.cap.1
end
theorem rowE_none (enc : Option Nat → Int) (n x : Nat) : rowE enc noCT n x = List.replicate (n * n) (.int .i64 (enc none)) := by
  refine List.ext_getElem? fun i => ?_
  by_cases h : i < n * n
  · simp [rowE, h, noCT]
  · rw [List.getElem?_eq_none (by rw [rowE_length]; omega), List.getElem?_eq_none (by simp; omega)]
/-! The program's cells. -/
def cellsE (d : Nat) (T : CT) : List Value := (List.range (6 * (d * d))).map fun p => .int .i64 (encM (T (p / (d * d)) (p % (d * d) / d) (p % (d * d) % d)))
theorem cellsE_length (d : Nat) (T : CT) : (cellsE d T).length = 6 * (d * d) := by simp [cellsE]
theorem spot_eq {d A i j : Nat} (hi : i < d) (hj : j < d) : (A * (d * d) + (i * d + j)) / (d * d) = A ∧ (A * (d * d) + (i * d + j)) % (d * d) / d = i ∧ (A * (d * d) + (i * d + j)) % (d * d) % d = j := by
  have hp := place_lt hi hj
  have hd : 0 < d := by omega
  have hdd : 0 < d * d := Nat.mul_pos hd hd
  have e1 : (A * (d * d) + (i * d + j)) % (d * d) = i * d + j := by rw [Nat.mul_comm A, Nat.mul_add_mod, Nat.mod_eq_of_lt hp]
  refine ⟨by rw [Nat.mul_comm A, Nat.mul_add_div hdd, Nat.div_eq_of_lt hp, Nat.add_zero], ?_, ?_⟩
  · rw [e1, Nat.mul_comm i, Nat.mul_add_div hd, Nat.div_eq_of_lt hj, Nat.add_zero]
  · rw [e1, Nat.mul_comm i, Nat.mul_add_mod, Nat.mod_eq_of_lt hj]
theorem spot_lt {d A i j : Nat} (hA : A < 6) (hi : i < d) (hj : j < d) : A * (d * d) + (i * d + j) < 6 * (d * d) := by
  have h1 := place_lt hi hj
  have h2 : (A + 1) * (d * d) ≤ 6 * (d * d) := Nat.mul_le_mul_right _ hA
  rw [Nat.add_mul] at h2
  omega
theorem cellsE_at {d : Nat} {T : CT} {A i j : Nat} (hA : A < 6) (hi : i < d) (hj : j < d) : (cellsE d T)[A * (d * d) + (i * d + j)]? = some (.int .i64 (encM (T A i j))) := by
  obtain ⟨e1, e2, e3⟩ := spot_eq (A := A) hi hj
  simp only [cellsE, List.getElem?_map]
  rw [List.getElem?_range (spot_lt hA hi hj)]
  simp only [Option.map_some, e1, e2, e3]
theorem cellsE_put {d : Nat} {T : CT} {A i j m : Nat} (hA : A < 6) (hi : i < d) (hj : j < d) : (cellsE d T).set (A * (d * d) + (i * d + j)) (.int .i64 (m : Int)) = cellsE d (T.put A i j m) := by
  refine List.ext_getElem? fun p => ?_
  rw [List.getElem?_set]
  by_cases hp : A * (d * d) + (i * d + j) = p
  · subst hp
    rw [if_pos rfl, if_pos (by rw [cellsE_length]; exact spot_lt hA hi hj), cellsE_at hA hi hj]
    simp [CT.put, encM]
  · rw [if_neg hp]
    simp only [cellsE, List.getElem?_map]
    by_cases hlt : p < 6 * (d * d)
    · rw [List.getElem?_range hlt]
      simp only [Option.map_some, CT.put]
      rw [if_neg]
      rintro ⟨h1, h2, h3⟩
      apply hp
      have e1 := Nat.div_add_mod p (d * d)
      have e2 := Nat.div_add_mod (p % (d * d)) d
      rw [h1, Nat.mul_comm] at e1
      rw [h2, h3, Nat.mul_comm] at e2
      omega
    · rw [List.getElem?_eq_none (by simp; omega)]
      rfl
theorem cellsE_none (d : Nat) : cellsE d noCT = List.replicate (6 * (d * d)) (.int .i64 (-1)) := by
  show (List.range (6 * (d * d))).map (fun _ => Value.int .i64 (-1)) = _
  rw [List.map_const', List.length_range]
/-! What tables tell. -/
def rowN (enc : Option Nat → Int) (T : CT) (n x : Nat) : List Int := (List.range (n * n)).map fun p => enc (T x (p / n) (p % n))
theorem rowN_length (enc : Option Nat → Int) (T : CT) (n x : Nat) : (rowN enc T n x).length = n * n := by simp [rowN]
theorem TabE.ints {enc : Option Nat → Int} {w : World} {U : Option Addr} {nons n : Nat} {T : CT} (h : TabE enc w U nons n T) (hn : n ≤ 11) {x : Nat} (hx : x < nons) : ∃ R c, w.cell? ((ad U).add x) = some (.slice R (n * n) c) ∧ n * n ≤ c ∧ Ints w R (rowN enc T n x) := by
  obtain ⟨R, c, h1, h2, h3⟩ := h.row x hx
  have hnn : n * n ≤ 11 * 11 := Nat.mul_le_mul hn hn
  refine ⟨R, c, h1, h.cap x R c hx h1, by rw [rowN_length]; omega, fun _ => h2, fun j hj => ?_⟩
  rw [rowN_length] at hj
  have hn0 : 0 < n := by
    cases n with
    | zero => simp at hj
    | succ n => omega
  have h4 := h3 (j / n) (j % n) (Nat.div_lt_of_lt_mul hj) (Nat.mod_lt _ hn0)
  rw [Nat.mul_comm (j / n), Nat.div_add_mod] at h4
  rw [h4]
  congr 2
  simp [rowN, List.getD_eq_getElem?_getD, hj]
/-! Comparing. -/
theorem encM_s (n : Nat) : encM (some n) = (n : Int) := rfl
theorem encM_n : encM none = -1 := rfl
end Go.Sh

/- Bj: bodies of functions as terms of the frame calculus, printed by shgen.py of this repository. -/
set_option linter.unusedVariables false
set_option maxRecDepth 100000
namespace Go.Proofs.Ytiohaeckagjebaa
open Go Go.Sh

/-! loop.example/g00758/laws.FnExactCostTable -/
def S14 (v0 v1 v2 : Value) (k : Value → World → Prop) (w : World) : Prop :=
 Do Try.prog (sBox 31 v0) (fun t1 w2 =>
 Rd Try.prog (WS.at w2) (sBuiltin .len #[22] 3 [false] [v1]) fun t3 =>
 Rd Try.prog (WS.at w2) (sBin .gtr 3 true t3 (.int .i64 1048576)) fun t4 =>
 CondK t4
  (k (.bool true) w2)
  (Rd Try.prog (WS.at w2) (sBuiltin .len #[22] 3 [false] [v2]) fun t5 =>
  Rd Try.prog (WS.at w2) (sBin .gtr 3 true t5 (.int .i64 1048576)) fun t6 =>
  CondK t6
   (k (.bool true) w2)
   (Rd Try.prog (WS.at w2) (sLoad 31 t1) fun t7 =>
   CallK Try.prog 29 [t7, (.int .i64 1048576)] (fun t8 w9 =>
   Rd Try.prog (WS.at w9) (sBin .lss 3 true t8 (.int .i64 0)) fun t10 =>
   CondK t10
    (k (.bool true) w9)
    (Rd Try.prog (WS.at w9) (sLoad 31 t1) fun t11 =>
    CallK Try.prog 31 [t11] (fun t12 w13 =>
    CallK Try.prog 24 [v1] (fun t14 w15 =>
    CallK Try.prog 24 [v2] (fun t16 w17 =>
    CallK Try.prog 57 [t12, t14, t16] (fun t18 w19 =>
    Rd Try.prog (WS.at w19) (sExtract t18 0) fun t20 =>
    Rd Try.prog (WS.at w19) (sExtract t18 1) fun t21 =>
    Rd Try.prog (WS.at w19) (sLoad 31 t1) fun t22 =>
    CallK Try.prog 31 [t22] (fun t23 w24 =>
    Do Try.prog (sAlloc 37) (fun t25 w26 =>
    Do Try.prog (sStore 37 t25 t23) (fun _ w27 =>
    CallK Try.prog 24 [v1] (fun t28 w29 =>
    CallK Try.prog 24 [v2] (fun t30 w31 =>
    Rd Try.prog (WS.at w31) (sLoad 37 t25) fun t32 =>
    CallK Try.prog 58 [t32, t28, t30] (fun t33 w34 =>
    Rd Try.prog (WS.at w34) (sExtract t33 0) fun t35 =>
    Rd Try.prog (WS.at w34) (sExtract t33 1) fun t36 =>
    CallK Try.prog 26 [t35, t20] (fun t37 w38 =>
    Rd Try.prog (WS.at w38) (sUn .not t37) fun t39 =>
    GuardK t39 false (fun k w' => k t36 w') (fun t40 w41 =>
    GuardK t39 false (fun k w' => k t21 w') (fun t42 w43 =>
    GuardK t39 false (fun k w' => Rd Try.prog (WS.at w43) (sBin .neq 4 false t40 t42) fun v => k v w') (fun t44 w45 =>
    Rd Try.prog (WS.at w45) (sPick t39 (.bool true) t44) fun t46 =>
    CondK t46
     (k (.bool false) w45)
     (∃ S47 : World → Prop, ∃ h48 : S47 w45.drew,
     Rd Try.prog ⟨S47, w45.drew, h48⟩ (sLoad 37 t25) fun t49 =>
     Rd Try.prog ⟨S47, w45.drew, h48⟩ (sLoad 31 t1) fun t50 =>
     CallK Try.prog 31 [t50] (fun t51 w52 =>
     S47 w52 ∧ CallK Try.prog 33 [t49, t51] (fun t53 w54 =>
     Rd Try.prog WS.any (sUn .not t53) fun t55 =>
     CondK t55
      (k (.bool false) w54)
      (CallK Try.prog 24 [v1] (fun t56 w57 =>
      CallK Try.prog 26 [t28, t56] (fun t58 w59 =>
      Rd Try.prog (WS.at w59) (sUn .not t58) fun t60 =>
      CondK t60
       (k (.bool false) w59)
       (CallK Try.prog 24 [v2] (fun t61 w62 =>
       CallK Try.prog 26 [t30, t61] (fun t63 w64 =>
       Rd Try.prog (WS.at w64) (sUn .not t63) fun t65 =>
       CondK t65
        (k (.bool false) w64)
        (Rd Try.prog (WS.at w64) (sLoad 37 t25) fun t66 =>
        CallK Try.prog 36 [t66, (.int .i64 1)] (fun t67 w68 =>
        CallK Try.prog 27 [t28, t67] (fun t69 w70 =>
        CallK Try.prog 27 [t30, t69] (fun t71 w72 =>
        Rd Try.prog (WS.at w72) (sBin .lss 3 true t71 (.int .i64 0)) fun t73 =>
        GuardK t73 false (fun k w' => k t35 w') (fun t74 w75 =>
        GuardK t73 false (fun k w' => k t20 w') (fun t76 w77 =>
        GuardK t73 false (fun k w' => CallK Try.prog 26 [t74, t76] k w') (fun t78 w79 =>
        GuardK t73 false (fun k w' => Rd Try.prog (WS.at w79) (sUn .not t78) fun v => k v w') (fun t80 w81 =>
        Rd Try.prog (WS.at w81) (sPick t73 (.bool true) t80) fun t82 =>
        GuardK t82 false (fun k w' => k t36 w') (fun t83 w84 =>
        GuardK t82 false (fun k w' => k t21 w') (fun t85 w86 =>
        GuardK t82 false (fun k w' => Rd Try.prog (WS.at w86) (sBin .neq 4 false t83 t85) fun v => k v w') (fun t87 w88 =>
        Rd Try.prog (WS.at w88) (sPick t82 (.bool true) t87) fun t89 =>
        CondK t89
         (k (.bool false) w88)
         (CallK Try.prog 27 [t35, (.int .i64 1)] (fun t90 w91 =>
         CallK Try.prog 28 [t35, (.int .i64 1)] (fun t92 w93 =>
         Rd Try.prog (WS.at w93) (sBin .lss 3 true t92 (.int .i64 0)) fun t94 =>
         CondK t94
          (k (.bool false) w93)
          (Rd Try.prog (WS.at w93) (sBin .neq 3 false t92 t90) fun t95 =>
          CondK t95
           (k (.bool false) w93)
           (Rd Try.prog (WS.at w93) (sLoad 31 t1) fun t96 =>
           CallK Try.prog 31 [t96] (fun t97 w98 =>
           CallK Try.prog 24 [v1] (fun t99 w100 =>
           CallK Try.prog 24 [v2] (fun t101 w102 =>
           CallK Try.prog 58 [t97, t99, t101] (fun t103 w104 =>
           Rd Try.prog (WS.at w104) (sExtract t103 0) fun t105 =>
           Rd Try.prog (WS.at w104) (sExtract t103 1) fun t106 =>
           CallK Try.prog 26 [t105, t20] (fun t107 w108 =>
           Rd Try.prog (WS.at w108) (sUn .not t107) fun t109 =>
           GuardK t109 false (fun k w' => k t106 w') (fun t110 w111 =>
           GuardK t109 false (fun k w' => k t21 w') (fun t112 w113 =>
           GuardK t109 false (fun k w' => Rd Try.prog (WS.at w113) (sBin .neq 4 false t110 t112) fun v => k v w') (fun t114 w115 =>
           Rd Try.prog (WS.at w115) (sPick t109 (.bool true) t114) fun t116 =>
           CondK t116
            (k (.bool false) w115)
            (CallK Try.prog 28 [t35, (.int .i64 1)] (fun t117 w118 =>
            Rd Try.prog (WS.at w118) (sBin .lss 3 true t117 (.int .i64 0)) fun t119 =>
            CondK t119
             (k (.bool false) w118)
             (Rd Try.prog (WS.at w118) (sBin .neq 3 false t117 t90) fun t120 =>
             CondK t120
              (k (.bool false) w118)
              (k (.bool true) w118))) w115)) w113) w111) w108) w104) w102) w100) w98) w93))) w91) w88)) w86) w84) w81) w79) w77) w75) w72) w70) w68) w64)) w62) w59)) w57) w54)) w52) w45.drew)) w43) w41) w38) w34) w31) w29) w27) w26) w24) w19) w17) w15) w13) w9)) w2))) w
/-! loop.example/g00758/spec.CostTable -/
/-! loop.example/g00758/impl.CostTable -/
/-! loop.example/g00758/spec.l12Costs -/
def pl111 : Plans := fun _ => ⟨false, [], .nil⟩
def S111 (v0 v1 : Value) (k : Value → World → Prop) (w : World) : Prop :=
 Do Try.prog (sBox 37 v0) (fun t1 w2 =>
 Rd Try.prog (WS.at w2) (sLoad 37 t1) fun t3 =>
 CallK Try.prog 81 [t3] (fun t4 w5 =>
 GuardK t4 true (fun k w' => k v1 w') (fun t6 w7 =>
 GuardK t4 true (fun k w' => Rd Try.prog (WS.at w7) (sBuiltin .len #[22] 3 [false] [t6]) fun v => k v w') (fun t8 w9 =>
 GuardK t4 true (fun k w' => Rd Try.prog (WS.at w9) (sFieldAddr 37 t1 2) fun v => k v w') (fun t10 w11 =>
 GuardK t4 true (fun k w' => Rd Try.prog (WS.at w11) (sLoad 35 t10) fun v => k v w') (fun t12 w13 =>
 GuardK t4 true (fun k w' => Rd Try.prog (WS.at w13) (sBuiltin .len #[35] 3 [false] [t12]) fun v => k v w') (fun t14 w15 =>
 GuardK t4 true (fun k w' => Rd Try.prog (WS.at w15) (sBin .eql 3 false t8 t14) fun v => k v w') (fun t16 w17 =>
 Rd Try.prog (WS.at w17) (sPick t4 t16 (.bool false)) fun t18 =>
 GuardK t18 true (fun k w' => k v1 w') (fun t19 w20 =>
 GuardK t18 true (fun k w' => CallK Try.prog 75 [t19, (.int .i64 1), (.int .i64 100)] k w') (fun t21 w22 =>
 Rd Try.prog (WS.at w22) (sPick t18 t21 (.bool false)) fun t23 =>
 k t23 w22) w20) w17) w15) w13) w11) w9) w7) w5) w2) w
theorem body111 : Try.f111.body = some (bodyOf Try.f111) := by kernel_rfl
theorem same111 (v0 v1 : Value) (k : Value → World → Prop) (w : World) : wpF Try.prog pl111 (bodyOf Try.f111) (bodyQ Try.prog Try.f111.results.toList k) (initF [v0, v1]) w = S111 v0 v1 k w := by kernel_rfl
theorem enter111 {v0 v1 : Value} {k : Value → World → Prop} {w : World} (h : S111 v0 v1 k w) : CallK Try.prog 111 [v0, v1] k w :=
  call_of_wpF (pl := pl111) mixed Try.func111 body111 (by kernel_rfl) (of_decide_eq_true (by kernel_rfl)) (by kernel_rfl) (by kernel_rfl) (same111 v0 v1 k w ▸ h)

/-! loop.example/g00758/spec.l12Table -/
def pl113 : Plans := fun i => match i with
  | 21 => ⟨false, [], .step 0 .any (.step 1 .any (.step 2 .any (.step 3 .any (.step 4 .any (.step 5 .held (.step 6 .any (.step 7 .held (.step 8 .any (.step 9 .any (.step 10 .any (.step 11 .any (.step 12 .any (.step 13 .any (.step 14 .held (.step 15 .any (.step 16 .any (.step 17 .any (.step 18 .any (.step 19 .any (.step 20 .any (.step 21 .held (.step 22 .any (.step 23 .any (.step 24 .any (.step 25 .held (.step 26 .any (.step 27 .held (.step 28 .any (.step 29 .any (.step 30 .any (.step 31 .any (.step 32 .any (.step 33 .any (.step 34 .held (.step 35 .any (.step 36 .any (.step 37 .any (.nil))))))))))))))))))))))))))))))))))))))⟩
  | 22 => ⟨false, [17], .step 0 .any (.step 1 .any (.step 2 .held (.step 3 .any (.step 4 .held (.step 5 .any (.step 6 .any (.step 7 .any (.step 8 .any (.step 9 .any (.step 10 .any (.step 11 .any (.step 12 .any (.step 13 .any (.step 14 .held (.step 15 .any (.step 16 .any (.step 17 .last (.nil))))))))))))))))))⟩
  | _ => ⟨false, [], .nil⟩
def S113 (v0 v1 v2 : Value) (k : Value → World → Prop) (w : World) : Prop :=
 Do Try.prog (sBox 37 v0) (fun t1 w2 =>
 Rd Try.prog (WS.at w2) (sBuiltin .len #[22] 3 [false] [v2]) fun t3 =>
 Rd Try.prog (WS.at w2) (sBin .add 3 true t3 (.int .i64 1)) fun t4 =>
 Rd Try.prog (WS.at w2) (sFieldAddr 37 t1 0) fun t5 =>
 Rd Try.prog (WS.at w2) (sLoad 3 t5) fun t6 =>
 Do Try.prog (sMakeSlice 48 t6 t6) (fun t7 w8 =>
 Rd Try.prog (WS.at w8) (sBuiltin .len #[48] 3 [false] [t7]) fun t9 =>
 LoopF [25, 26, 9, 27, 28, 29, 30, 31, 32, 33, 34, 24] (fun Q10 f11 w12 =>
  Rd Try.prog (WS.at w12) (sBin .lss 3 false (f11 24) (f11 23)) fun t13 =>
  CondK t13
   (Rd Try.prog (WS.at w12) (sBin .mul 3 false (f11 7) (f11 7)) fun t14 =>
   Do Try.prog (sMakeSlice 22 t14 t14) (fun t15 w16 =>
   Rd Try.prog (WS.at w16) (sIndexAddr 48 (f11 8) (f11 24)) fun t17 =>
   Do Try.prog (sStore 22 t17 t15) (fun _ w18 =>
   Rd Try.prog (WS.at w18) (sBin .add 3 true (f11 24) (.int .i64 1)) fun t19 =>
   Q10 .normal (F.upd (F.upd (F.upd (F.upd (F.upd (F.upd (F.upd (F.upd (F.upd (F.upd (F.upd (F.upd f11 25 t13) 26 (f11 24)) 9 (f11 24)) 27 (f11 8)) 28 (f11 24)) 29 (f11 7)) 30 (f11 7)) 31 t14) 32 t15) 33 t17) 34 t19) 24 t19) w18) w16) w12)
   (Q10 (.exit 0) (F.upd f11 25 t13) w12))
  (blockQ 0 (seqQ (fun f20 w21 =>
 LoopF [35, 10, 36, 37, 38, 39, 40, 41, 42, 43, 12, 11, 13, 44, 45, 46, 49, 14, 50, 51, 52, 55, 56, 57, 58, 59, 60, 61, 15, 62, 63, 64, 65, 66, 67, 68, 69, 70, 71, 72, 73, 74, 75, 76, 77, 78, 79, 80, 81, 82, 83, 84, 85, 86, 87, 88, 89, 90, 91, 92, 93, 94, 95, 96, 97, 98, 99, 100, 101, 102, 103, 104, 105, 106, 107, 108, 109, 110, 111, 112, 113, 114, 115, 116, 10, 53, 54, 14, 47, 48, 13, 117, 39] (fun Q22 f23 w24 =>
  CondK (f23 10)
   (Rd Try.prog (WS.at w24) (sFieldAddr 37 (f23 3) 2) fun t25 =>
   Rd Try.prog (WS.at w24) (sLoad 35 t25) fun t26 =>
   Rd Try.prog (WS.at w24) (sBuiltin .len #[35] 3 [false] [t26]) fun t27 =>
   LoopF [40, 41, 42, 43, 12, 11, 13, 44, 45, 46, 49, 14, 50, 51, 52, 55, 56, 57, 58, 59, 60, 61, 15, 62, 63, 64, 65, 66, 67, 68, 69, 70, 71, 72, 73, 74, 75, 76, 77, 78, 79, 80, 81, 82, 83, 84, 85, 86, 87, 88, 89, 90, 91, 92, 93, 94, 95, 96, 97, 98, 99, 100, 101, 102, 103, 104, 105, 106, 107, 108, 109, 110, 111, 112, 113, 114, 115, 116, 10, 53, 54, 14, 47, 48, 13, 117, 39] (fun Q28 f29 w30 =>
    Rd Try.prog (WS.at w30) (sBin .lss 3 false (f29 39) (f29 38)) fun t31 =>
    CondK t31
     (Rd Try.prog (WS.at w30) (sIndexAddr 35 (f29 37) (f29 39)) fun t32 =>
     Rd Try.prog (WS.at w30) (sLoad 77 t32) fun t33 =>
     Do Try.prog (sAlloc 77) (fun t34 w35 =>
     Do Try.prog (sStore 77 t34 t33) (fun _ w36 =>
     LoopF [44, 45, 46, 49, 14, 50, 51, 52, 55, 56, 57, 58, 59, 60, 61, 15, 62, 63, 64, 65, 66, 67, 68, 69, 70, 71, 72, 73, 74, 75, 76, 77, 78, 79, 80, 81, 82, 83, 84, 85, 86, 87, 88, 89, 90, 91, 92, 93, 94, 95, 96, 97, 98, 99, 100, 101, 102, 103, 104, 105, 106, 107, 108, 109, 110, 111, 112, 113, 114, 115, 116, 10, 53, 54, 14, 47, 48, 13] (fun Q37 f38 w39 =>
      Rd Try.prog (WS.at w39) (sBin .lss 3 false (f38 13) (f38 7)) fun t40 =>
      CondK t40
       (LoopF [50, 51, 52, 55, 56, 57, 58, 59, 60, 61, 15, 62, 63, 64, 65, 66, 67, 68, 69, 70, 71, 72, 73, 74, 75, 76, 77, 78, 79, 80, 81, 82, 83, 84, 85, 86, 87, 88, 89, 90, 91, 92, 93, 94, 95, 96, 97, 98, 99, 100, 101, 102, 103, 104, 105, 106, 107, 108, 109, 110, 111, 112, 113, 114, 115, 116, 10, 53, 54, 14] (fun Q41 f42 w43 =>
        Rd Try.prog (WS.at w43) (sBin .lss 3 false (f42 14) (f42 7)) fun t44 =>
        CondK t44
         (Join (fun K45 =>
         Rd Try.prog (WS.at w43) (sFieldAddr 77 (f42 12) 1) fun t48 =>
         Rd Try.prog (WS.at w43) (sLoad 22 t48) fun t49 =>
         CallK Try.prog 152 [(f42 8), (f42 2), t49, (f42 13), (f42 14)] (fun t50 w51 =>
         Rd Try.prog WS.any (sBin .geq 3 true t50 (.int .i64 0)) fun t52 =>
         GuardK t52 true (fun k w' => k (f42 8) w') (fun t53 w54 =>
         GuardK t52 true (fun k w' => Rd Try.prog WS.any (sFieldAddr 77 (f42 12) 0) fun v => k v w') (fun t55 w56 =>
         GuardK t52 true (fun k w' => Rd Try.prog (WS.at w51.drew) (sLoad 3 t55) fun v => k v w') (fun t57 w58 =>
         GuardK t52 true (fun k w' => Rd Try.prog WS.any (sIndexAddr 48 t53 t57) fun v => k v w') (fun t59 w60 =>
         GuardK t52 true (fun k w' => Rd Try.prog (WS.at w51.drew) (sLoad 22 t59) fun v => k v w') (fun t61 w62 =>
         GuardK t52 true (fun k w' => k (f42 13) w') (fun t63 w64 =>
         GuardK t52 true (fun k w' => k (f42 7) w') (fun t65 w66 =>
         GuardK t52 true (fun k w' => Rd Try.prog WS.any (sBin .mul 3 false t63 t65) fun v => k v w') (fun t67 w68 =>
         GuardK t52 true (fun k w' => k (f42 14) w') (fun t69 w70 =>
         GuardK t52 true (fun k w' => Rd Try.prog WS.any (sBin .add 3 false t67 t69) fun v => k v w') (fun t71 w72 =>
         GuardK t52 true (fun k w' => Rd Try.prog WS.any (sIndexAddr 22 t61 t71) fun v => k v w') (fun t73 w74 =>
         GuardK t52 true (fun k w' => Rd Try.prog (WS.at w51.drew) (sLoad 3 t73) fun v => k v w') (fun t75 w76 =>
         GuardK t52 true (fun k w' => Rd Try.prog WS.any (sBin .eql 3 true t75 (.int .i64 0)) fun v => k v w') (fun t77 w78 =>
         GuardK t52 true (fun k w' => k t77 w') (fun t79 w80 =>
         GuardK t79 false (fun k w' => k t50 w') (fun t81 w82 =>
         GuardK t79 false (fun k w' => k (f42 1) w') (fun t83 w84 =>
         GuardK t79 false (fun k w' => k (f42 11) w') (fun t85 w86 =>
         GuardK t79 false (fun k w' => Rd Try.prog WS.any (sIndexAddr 22 t83 t85) fun v => k v w') (fun t87 w88 =>
         GuardK t79 false (fun k w' => Rd Try.prog (WS.at w51.drew) (sLoad 3 t87) fun v => k v w') (fun t89 w90 =>
         GuardK t79 false (fun k w' => Rd Try.prog WS.any (sBin .add 3 false t81 t89) fun v => k v w') (fun t91 w92 =>
         GuardK t79 false (fun k w' => k (f42 8) w') (fun t93 w94 =>
         GuardK t79 false (fun k w' => Rd Try.prog WS.any (sFieldAddr 77 (f42 12) 0) fun v => k v w') (fun t95 w96 =>
         GuardK t79 false (fun k w' => Rd Try.prog (WS.at w51.drew) (sLoad 3 t95) fun v => k v w') (fun t97 w98 =>
         GuardK t79 false (fun k w' => Rd Try.prog WS.any (sIndexAddr 48 t93 t97) fun v => k v w') (fun t99 w100 =>
         GuardK t79 false (fun k w' => Rd Try.prog (WS.at w51.drew) (sLoad 22 t99) fun v => k v w') (fun t101 w102 =>
         GuardK t79 false (fun k w' => k (f42 13) w') (fun t103 w104 =>
         GuardK t79 false (fun k w' => k (f42 7) w') (fun t105 w106 =>
         GuardK t79 false (fun k w' => Rd Try.prog WS.any (sBin .mul 3 false t103 t105) fun v => k v w') (fun t107 w108 =>
         GuardK t79 false (fun k w' => k (f42 14) w') (fun t109 w110 =>
         GuardK t79 false (fun k w' => Rd Try.prog WS.any (sBin .add 3 false t107 t109) fun v => k v w') (fun t111 w112 =>
         GuardK t79 false (fun k w' => Rd Try.prog WS.any (sIndexAddr 22 t101 t111) fun v => k v w') (fun t113 w114 =>
         GuardK t79 false (fun k w' => Rd Try.prog (WS.at w51.drew) (sLoad 3 t113) fun v => k v w') (fun t115 w116 =>
         GuardK t79 false (fun k w' => Rd Try.prog WS.any (sBin .lss 3 false t91 t115) fun v => k v w') (fun t117 w118 =>
         GuardK t52 true (fun k w' => Rd Try.prog WS.any (sPick t79 (.bool true) t117) fun v => k v w') (fun t119 w120 =>
         Rd Try.prog WS.any (sPick t52 t119 (.bool false)) fun t121 =>
         CondK t121
          (Rd Try.prog WS.any (sFieldAddr 77 (f42 12) 0) fun t122 =>
          Rd Try.prog (WS.at w120.drew) (sLoad 3 t122) fun t123 =>
          Rd Try.prog WS.any (sIndexAddr 48 (f42 8) t123) fun t124 =>
          Rd Try.prog (WS.at w120.drew) (sLoad 22 t124) fun t125 =>
          Rd Try.prog WS.any (sBin .mul 3 false (f42 13) (f42 7)) fun t126 =>
          Rd Try.prog WS.any (sBin .add 3 false t126 (f42 14)) fun t127 =>
          Rd Try.prog WS.any (sIndexAddr 22 (f42 1) (f42 11)) fun t128 =>
          Rd Try.prog (WS.at w120.drew) (sLoad 3 t128) fun t129 =>
          Rd Try.prog WS.any (sBin .add 3 false t50 t129) fun t130 =>
          Rd Try.prog WS.any (sIndexAddr 22 t125 t127) fun t131 =>
          Do Try.prog (sStore 3 t131 t130) (fun _ w132 =>
          K45 (F.upd (F.upd (F.upd (F.upd (F.upd (F.upd (F.upd (F.upd (F.upd (F.upd (F.upd (F.upd (F.upd (F.upd (F.upd (F.upd (F.upd (F.upd (F.upd (F.upd (F.upd (F.upd (F.upd (F.upd (F.upd (F.upd (F.upd (F.upd (F.upd (F.upd (F.upd (F.upd (F.upd (F.upd (F.upd (F.upd (F.upd (F.upd (F.upd (F.upd (F.upd (F.upd (F.upd (F.upd (F.upd (F.upd (F.upd (F.upd (F.upd (F.upd (F.upd (F.upd (F.upd (F.upd (F.upd (F.upd (F.upd (F.upd (F.upd (F.upd (F.upd (F.upd (F.upd (F.upd (F.upd (F.upd (F.upd f42 50 (f42 14)) 51 (f42 7)) 52 t44) 55 (f42 8)) 56 (f42 2)) 57 t48) 58 t49) 59 (f42 13)) 60 (f42 14)) 61 t50) 15 t50) 62 t50) 63 t52) 64 t52) 65 t53) 66 t55) 67 t57) 68 t59) 69 t61) 70 t63) 71 t65) 72 t67) 73 t69) 74 t71) 75 t73) 76 t75) 77 t77) 78 t79) 79 t81) 80 t83) 81 t85) 82 t87) 83 t89) 84 t91) 85 t93) 86 t95) 87 t97) 88 t99) 89 t101) 90 t103) 91 t105) 92 t107) 93 t109) 94 t111) 95 t113) 96 t115) 97 t117) 98 t119) 99 t121) 100 (f42 8)) 101 t122) 102 t123) 103 t124) 104 t125) 105 (f42 13)) 106 (f42 7)) 107 t126) 108 (f42 14)) 109 t127) 110 t50) 111 (f42 1)) 112 (f42 11)) 113 t128) 114 t129) 115 t130) 116 t131) 10 (.bool true)) w132) w120.drew)
          (K45 (F.upd (F.upd (F.upd (F.upd (F.upd (F.upd (F.upd (F.upd (F.upd (F.upd (F.upd (F.upd (F.upd (F.upd (F.upd (F.upd (F.upd (F.upd (F.upd (F.upd (F.upd (F.upd (F.upd (F.upd (F.upd (F.upd (F.upd (F.upd (F.upd (F.upd (F.upd (F.upd (F.upd (F.upd (F.upd (F.upd (F.upd (F.upd (F.upd (F.upd (F.upd (F.upd (F.upd (F.upd (F.upd (F.upd (F.upd (F.upd (F.upd f42 50 (f42 14)) 51 (f42 7)) 52 t44) 55 (f42 8)) 56 (f42 2)) 57 t48) 58 t49) 59 (f42 13)) 60 (f42 14)) 61 t50) 15 t50) 62 t50) 63 t52) 64 t52) 65 t53) 66 t55) 67 t57) 68 t59) 69 t61) 70 t63) 71 t65) 72 t67) 73 t69) 74 t71) 75 t73) 76 t75) 77 t77) 78 t79) 79 t81) 80 t83) 81 t85) 82 t87) 83 t89) 84 t91) 85 t93) 86 t95) 87 t97) 88 t99) 89 t101) 90 t103) 91 t105) 92 t107) 93 t109) 94 t111) 95 t113) 96 t115) 97 t117) 98 t119) 99 t121) w120)) w118) w116) w114) w112) w110) w108) w106) w104) w102) w100) w98) w96) w94) w92) w90) w88) w86) w84) w82) w80) w78) w76) w74) w72) w70) w68) w66) w64) w62) w60) w58) w56) w54) w51.drew) w43) (fun f46 w47 =>
         Rd Try.prog (WS.at w47) (sBin .add 3 true (f46 14) (.int .i64 1)) fun t133 =>
         Q41 .normal (F.upd (F.upd (F.upd f46 53 (f46 14)) 54 t133) 14 t133) w47))
         (Q41 (.exit 8) (F.upd (F.upd (F.upd f42 50 (f42 14)) 51 (f42 7)) 52 t44) w43))
        (blockQ 8 (blockQ 7 (seqQ (fun f134 w135 =>
       Rd Try.prog (WS.at w135) (sBin .add 3 true (f134 13) (.int .i64 1)) fun t136 =>
       Q37 .normal (F.upd (F.upd (F.upd f134 47 (f134 13)) 48 t136) 13 t136) w135) Q37)))
        (F.upd (F.upd (F.upd (F.upd (F.upd f38 44 (f38 13)) 45 (f38 7)) 46 t40) 49 (f38 13)) 14 (f38 13)) w39)
       (Q37 (.exit 6) (F.upd (F.upd (F.upd f38 44 (f38 13)) 45 (f38 7)) 46 t40) w39))
      (blockQ 6 (blockQ 5 (seqQ (fun f137 w138 =>
     Rd Try.prog (WS.at w138) (sBin .add 3 true (f137 39) (.int .i64 1)) fun t139 =>
     Q28 .normal (F.upd (F.upd f137 117 t139) 39 t139) w138) Q28)))
      (F.upd (F.upd (F.upd (F.upd (F.upd (F.upd (F.upd f29 40 t31) 41 (f29 39)) 42 t32) 43 t33) 12 t34) 11 (f29 39)) 13 (.int .i64 0)) w36) w35) w30)
     (Q28 (.exit 4) (F.upd f29 40 t31) w30))
    (blockQ 4 (blockQ 3 Q22))
    (F.upd (F.upd (F.upd (F.upd (F.upd (F.upd f23 35 (f23 10)) 10 (.bool false)) 36 t25) 37 t26) 38 t27) 39 (.int .i64 0)) w24)
   (Q22 (.exit 2) (F.upd f23 35 (f23 10)) w24))
  (blockQ 2 (seqQ (fun f140 w141 =>
 k (f140 8) w141) (bodyQ Try.prog [.tmp 6] k)))
  (F.upd f20 10 (.bool true)) w21) (bodyQ Try.prog [.tmp 6] k)))
  (F.upd (F.upd (F.upd (F.upd (F.upd (F.upd (F.upd (F.upd (F.upd (F.upd (F.upd (F.upd (F.upd (initF [v0, v1, v2]) 3 t1) 6 (.slice none 0 0)) 16 v2) 17 t3) 18 t4) 7 t4) 19 t5) 20 t6) 21 t7) 8 t7) 22 t7) 23 t9) 24 (.int .i64 0)) w8) w2) w
theorem body113 : Try.f113.body = some (bodyOf Try.f113) := by kernel_rfl
theorem same113 (v0 v1 v2 : Value) (k : Value → World → Prop) (w : World) : wpF Try.prog pl113 (bodyOf Try.f113) (bodyQ Try.prog Try.f113.results.toList k) (initF [v0, v1, v2]) w = S113 v0 v1 v2 k w := by kernel_rfl
theorem enter113 {v0 v1 v2 : Value} {k : Value → World → Prop} {w : World} (h : S113 v0 v1 v2 k w) : CallK Try.prog 113 [v0, v1, v2] k w :=
  call_of_wpF (pl := pl113) mixed Try.func113 body113 (by kernel_rfl) (of_decide_eq_true (by kernel_rfl)) (by kernel_rfl) (by kernel_rfl) (same113 v0 v1 v2 k w ▸ h)

/-! loop.example/g00758/impl.areCosts -/
def pl114 : Plans := fun _ => ⟨false, [], .nil⟩
def S114 (v0 v1 : Value) (k : Value → World → Prop) (w : World) : Prop :=
 Do Try.prog (sBox 37 v0) (fun t1 w2 =>
 Rd Try.prog (WS.at w2) (sLoad 37 t1) fun t3 =>
 CallK Try.prog 84 [t3] (fun t4 w5 =>
 GuardK t4 true (fun k w' => k v1 w') (fun t6 w7 =>
 GuardK t4 true (fun k w' => Rd Try.prog (WS.at w7) (sBuiltin .len #[22] 3 [false] [t6]) fun v => k v w') (fun t8 w9 =>
 GuardK t4 true (fun k w' => Rd Try.prog (WS.at w9) (sFieldAddr 37 t1 2) fun v => k v w') (fun t10 w11 =>
 GuardK t4 true (fun k w' => Rd Try.prog (WS.at w11) (sLoad 35 t10) fun v => k v w') (fun t12 w13 =>
 GuardK t4 true (fun k w' => Rd Try.prog (WS.at w13) (sBuiltin .len #[35] 3 [false] [t12]) fun v => k v w') (fun t14 w15 =>
 GuardK t4 true (fun k w' => Rd Try.prog (WS.at w15) (sBin .eql 3 false t8 t14) fun v => k v w') (fun t16 w17 =>
 Rd Try.prog (WS.at w17) (sPick t4 t16 (.bool false)) fun t18 =>
 GuardK t18 true (fun k w' => k v1 w') (fun t19 w20 =>
 GuardK t18 true (fun k w' => CallK Try.prog 129 [t19, (.func (.func 153) #[] #[])] k w') (fun t21 w22 =>
 GuardK t18 true (fun k w' => Rd Try.prog (WS.at w22) (sUn .not t21) fun v => k v w') (fun t23 w24 =>
 Rd Try.prog (WS.at w24) (sPick t18 t23 (.bool false)) fun t25 =>
 k t25 w24) w22) w20) w17) w15) w13) w11) w9) w7) w5) w2) w
theorem body114 : Try.f114.body = some (bodyOf Try.f114) := by kernel_rfl
theorem same114 (v0 v1 : Value) (k : Value → World → Prop) (w : World) : wpF Try.prog pl114 (bodyOf Try.f114) (bodyQ Try.prog Try.f114.results.toList k) (initF [v0, v1]) w = S114 v0 v1 k w := by kernel_rfl
theorem enter114 {v0 v1 : Value} {k : Value → World → Prop} {w : World} (h : S114 v0 v1 k w) : CallK Try.prog 114 [v0, v1] k w :=
  call_of_wpF (pl := pl114) mixed Try.func114 body114 (by kernel_rfl) (of_decide_eq_true (by kernel_rfl)) (by kernel_rfl) (by kernel_rfl) (same114 v0 v1 k w ▸ h)

/-! (loop.example/g00758/impl.Grammar).costs -/
def pl115 : Plans := fun i => match i with
  | 28 => ⟨false, [], .step 0 .any (.step 1 .any (.step 2 .held (.step 3 .any (.step 4 .any (.step 5 .any (.step 6 .any (.step 7 .any (.step 8 .any (.step 9 .any (.step 10 .any (.nil)))))))))))⟩
  | 29 => ⟨false, [], .step 0 .any (.step 1 .any (.step 2 .any (.step 3 .any (.step 4 .any (.step 5 .held (.step 6 .any (.step 7 .any (.step 8 .any (.step 9 .any (.step 10 .any (.step 11 .any (.step 12 .held (.step 13 .any (.step 14 .any (.step 15 .any (.step 16 .held (.step 17 .any (.step 18 .any (.step 19 .any (.nil))))))))))))))))))))⟩
  | _ => ⟨false, [], .nil⟩
def S115 (v0 v1 v2 : Value) (k : Value → World → Prop) (w : World) : Prop :=
 Do Try.prog (sBox 37 v0) (fun t1 w2 =>
 Rd Try.prog (WS.at w2) (sLoad 37 t1) fun t3 =>
 Do Try.prog (sMakeMap 123) (fun t4 w5 =>
 Rd Try.prog (WS.at w5) (sBuild 125 [(0, t3), (1, v2), (2, v1), (4, t4)]) fun t6 =>
 Do Try.prog (sBox 125 t6) (fun t7 w8 =>
 LoopF [25, 26, 8, 27, 28, 29, 9, 30, 31, 32, 10, 33, 34, 35, 36, 37, 38, 39, 40, 41, 42, 30, 43, 27, 44, 24] (fun Q9 f10 w11 =>
  Rd Try.prog (WS.at w11) (sBin .lss 3 true (f10 24) (.int .i64 6)) fun t12 =>
  CondK t12
   (LoopF [28, 29, 9, 30, 31, 32, 10, 33, 34, 35, 36, 37, 38, 39, 40, 41, 42, 30, 43, 27] (fun Q13 f14 w15 =>
    Rd Try.prog (WS.at w15) (sBin .lss 3 true (f14 27) (.int .i64 11)) fun t16 =>
    CondK t16
     (LoopF [31, 32, 10, 33, 34, 35, 36, 37, 38, 39, 40, 41, 42, 30] (fun Q17 f18 w19 =>
      Rd Try.prog (WS.at w19) (sBin .lss 3 true (f18 30) (.int .i64 11)) fun t20 =>
      CondK t20
       (Rd Try.prog (WS.at w19) (sNilCheck (f18 7)) fun t21 =>
       Rd Try.prog (WS.at w19) (sFieldAddr 125 t21 3) fun t22 =>
       Rd Try.prog (WS.at w19) (sIndexAddr 122 t22 (f18 8)) fun t23 =>
       Rd Try.prog (WS.at w19) (sIndexAddr 121 t23 (f18 9)) fun t24 =>
       Rd Try.prog (WS.at w19) (sIndexAddr 120 t24 (f18 30)) fun t25 =>
       Do Try.prog (sStore 3 t25 (.int .i64 (-1))) (fun _ w26 =>
       Rd Try.prog (WS.at w26) (sBin .add 3 true (f18 30) (.int .i64 1)) fun t27 =>
       Q17 .normal (F.upd (F.upd (F.upd (F.upd (F.upd (F.upd (F.upd (F.upd (F.upd (F.upd (F.upd (F.upd (F.upd (F.upd f18 31 t20) 32 (f18 30)) 10 (f18 30)) 33 (f18 7)) 34 (f18 8)) 35 (f18 9)) 36 (f18 30)) 37 t21) 38 t22) 39 t23) 40 t24) 41 t25) 42 t27) 30 t27) w26) w19)
       (Q17 (.exit 4) (F.upd f18 31 t20) w19))
      (blockQ 4 (blockQ 3 (seqQ (fun f28 w29 =>
     Rd Try.prog (WS.at w29) (sBin .add 3 true (f28 27) (.int .i64 1)) fun t30 =>
     Q13 .normal (F.upd (F.upd f28 43 t30) 27 t30) w29) Q13)))
      (F.upd (F.upd (F.upd (F.upd f14 28 t16) 29 (f14 27)) 9 (f14 27)) 30 (.int .i64 0)) w15)
     (Q13 (.exit 2) (F.upd f14 28 t16) w15))
    (blockQ 2 (blockQ 1 (seqQ (fun f31 w32 =>
   Rd Try.prog (WS.at w32) (sBin .add 3 true (f31 24) (.int .i64 1)) fun t33 =>
   Q9 .normal (F.upd (F.upd f31 44 t33) 24 t33) w32) Q9)))
    (F.upd (F.upd (F.upd (F.upd f10 25 t12) 26 (f10 24)) 8 (f10 24)) 27 (.int .i64 0)) w11)
   (Q9 (.exit 0) (F.upd f10 25 t12) w11))
  (blockQ 0 (seqQ (fun f34 w35 =>
 LoopF [45, 11, 46, 47, 48, 49, 50, 51, 52, 53, 13, 12, 54, 55, 56, 57, 58, 59, 14, 60, 15, 61, 62, 63, 64, 67, 68, 69, 70, 71, 72, 16, 73, 74, 75, 76, 77, 78, 79, 80, 81, 82, 17, 83, 84, 85, 86, 87, 88, 89, 90, 91, 92, 93, 94, 95, 96, 97, 98, 99, 100, 101, 102, 103, 104, 105, 106, 107, 108, 109, 110, 11, 65, 66, 15, 111, 57, 112, 49] (fun Q36 f37 w38 =>
  CondK (f37 11)
   (Rd Try.prog (WS.at w38) (sFieldAddr 37 (f37 3) 2) fun t39 =>
   Rd Try.prog (WS.at w38) (sLoad 35 t39) fun t40 =>
   Rd Try.prog (WS.at w38) (sBuiltin .len #[35] 3 [false] [t40]) fun t41 =>
   LoopF [50, 51, 52, 53, 13, 12, 54, 55, 56, 57, 58, 59, 14, 60, 15, 61, 62, 63, 64, 67, 68, 69, 70, 71, 72, 16, 73, 74, 75, 76, 77, 78, 79, 80, 81, 82, 17, 83, 84, 85, 86, 87, 88, 89, 90, 91, 92, 93, 94, 95, 96, 97, 98, 99, 100, 101, 102, 103, 104, 105, 106, 107, 108, 109, 110, 11, 65, 66, 15, 111, 57, 112, 49] (fun Q42 f43 w44 =>
    Rd Try.prog (WS.at w44) (sBin .lss 3 false (f43 49) (f43 48)) fun t45 =>
    CondK t45
     (Rd Try.prog (WS.at w44) (sIndexAddr 35 (f43 47) (f43 49)) fun t46 =>
     Rd Try.prog (WS.at w44) (sLoad 77 t46) fun t47 =>
     Do Try.prog (sAlloc 77) (fun t48 w49 =>
     Do Try.prog (sStore 77 t48 t47) (fun _ w50 =>
     Rd Try.prog (WS.at w50) (sBuiltin .len #[22] 3 [false] [(f43 2)]) fun t51 =>
     Rd Try.prog (WS.at w50) (sBin .add 3 true t51 (.int .i64 1)) fun t52 =>
     LoopF [58, 59, 14, 60, 15, 61, 62, 63, 64, 67, 68, 69, 70, 71, 72, 16, 73, 74, 75, 76, 77, 78, 79, 80, 81, 82, 17, 83, 84, 85, 86, 87, 88, 89, 90, 91, 92, 93, 94, 95, 96, 97, 98, 99, 100, 101, 102, 103, 104, 105, 106, 107, 108, 109, 110, 11, 65, 66, 15, 111, 57] (fun Q53 f54 w55 =>
      Rd Try.prog (WS.at w55) (sBin .lss 3 false (f54 57) (f54 56)) fun t56 =>
      CondK t56
       (LoopF [61, 62, 63, 64, 67, 68, 69, 70, 71, 72, 16, 73, 74, 75, 76, 77, 78, 79, 80, 81, 82, 17, 83, 84, 85, 86, 87, 88, 89, 90, 91, 92, 93, 94, 95, 96, 97, 98, 99, 100, 101, 102, 103, 104, 105, 106, 107, 108, 109, 110, 11, 65, 66, 15] (fun Q57 f58 w59 =>
        Rd Try.prog (WS.at w59) (sBuiltin .len #[22] 3 [false] [(f58 2)]) fun t60 =>
        Rd Try.prog (WS.at w59) (sBin .leq 3 false (f58 15) t60) fun t61 =>
        CondK t61
         (Join (fun K62 =>
         Rd Try.prog (WS.at w59) (sFieldAddr 77 (f58 13) 1) fun t65 =>
         Rd Try.prog (WS.at w59) (sLoad 22 t65) fun t66 =>
         CallK Try.prog 154 [(f58 7), t66, (f58 14), (f58 15)] (fun t67 w68 =>
         Rd Try.prog WS.any (sFieldAddr 77 (f58 13) 0) fun t69 =>
         Rd Try.prog (WS.at w68.drew) (sLoad 3 t69) fun t70 =>
         Rd Try.prog WS.any (sNilCheck (f58 7)) fun t71 =>
         Rd Try.prog WS.any (sFieldAddr 125 t71 3) fun t72 =>
         Rd Try.prog WS.any (sIndexAddr 122 t72 t70) fun t73 =>
         Rd Try.prog WS.any (sIndexAddr 121 t73 (f58 14)) fun t74 =>
         Rd Try.prog WS.any (sIndexAddr 120 t74 (f58 15)) fun t75 =>
         Rd Try.prog WS.any (sBin .geq 3 true t67 (.int .i64 0)) fun t76 =>
         GuardK t76 true (fun k w' => k t75 w') (fun t77 w78 =>
         GuardK t76 true (fun k w' => Rd Try.prog WS.any (sNilCheck t77) fun v => k v w') (fun t79 w80 =>
         GuardK t76 true (fun k w' => Rd Try.prog (WS.at w68.drew.drew) (sLoad 3 t79) fun v => k v w') (fun t81 w82 =>
         GuardK t76 true (fun k w' => Rd Try.prog WS.any (sBin .lss 3 true t81 (.int .i64 0)) fun v => k v w') (fun t83 w84 =>
         GuardK t76 true (fun k w' => k t83 w') (fun t85 w86 =>
         GuardK t85 false (fun k w' => k t67 w') (fun t87 w88 =>
         GuardK t85 false (fun k w' => k (f58 1) w') (fun t89 w90 =>
         GuardK t85 false (fun k w' => k (f58 12) w') (fun t91 w92 =>
         GuardK t85 false (fun k w' => Rd Try.prog WS.any (sIndexAddr 22 t89 t91) fun v => k v w') (fun t93 w94 =>
         GuardK t85 false (fun k w' => Rd Try.prog (WS.at w68.drew.drew) (sLoad 3 t93) fun v => k v w') (fun t95 w96 =>
         GuardK t85 false (fun k w' => Rd Try.prog WS.any (sBin .add 3 false t87 t95) fun v => k v w') (fun t97 w98 =>
         GuardK t85 false (fun k w' => k t75 w') (fun t99 w100 =>
         GuardK t85 false (fun k w' => Rd Try.prog WS.any (sNilCheck t99) fun v => k v w') (fun t101 w102 =>
         GuardK t85 false (fun k w' => Rd Try.prog (WS.at w68.drew.drew) (sLoad 3 t101) fun v => k v w') (fun t103 w104 =>
         GuardK t85 false (fun k w' => Rd Try.prog WS.any (sBin .lss 3 false t97 t103) fun v => k v w') (fun t105 w106 =>
         GuardK t76 true (fun k w' => Rd Try.prog WS.any (sPick t85 (.bool true) t105) fun v => k v w') (fun t107 w108 =>
         Rd Try.prog WS.any (sPick t76 t107 (.bool false)) fun t109 =>
         CondK t109
          (Rd Try.prog (WS.at w108) (sIndexAddr 22 (f58 1) (f58 12)) fun t110 =>
          Rd Try.prog (WS.at w108) (sLoad 3 t110) fun t111 =>
          Rd Try.prog (WS.at w108) (sBin .add 3 false t67 t111) fun t112 =>
          Rd Try.prog (WS.at w108) (sNilCheck t75) fun t113 =>
          Do Try.prog (sStore 3 t113 t112) (fun _ w114 =>
          K62 (F.upd (F.upd (F.upd (F.upd (F.upd (F.upd (F.upd (F.upd (F.upd (F.upd (F.upd (F.upd (F.upd (F.upd (F.upd (F.upd (F.upd (F.upd (F.upd (F.upd (F.upd (F.upd (F.upd (F.upd (F.upd (F.upd (F.upd (F.upd (F.upd (F.upd (F.upd (F.upd (F.upd (F.upd (F.upd (F.upd (F.upd (F.upd (F.upd (F.upd (F.upd (F.upd (F.upd (F.upd (F.upd (F.upd (F.upd (F.upd (F.upd (F.upd (F.upd f58 61 (f58 15)) 62 (f58 2)) 63 t60) 64 t61) 67 (f58 7)) 68 t65) 69 t66) 70 (f58 14)) 71 (f58 15)) 72 t67) 16 t67) 73 (f58 7)) 74 t69) 75 t70) 76 (f58 14)) 77 (f58 15)) 78 t71) 79 t72) 80 t73) 81 t74) 82 t75) 17 t75) 83 t67) 84 t76) 85 t76) 86 t77) 87 t79) 88 t81) 89 t83) 90 t85) 91 t87) 92 t89) 93 t91) 94 t93) 95 t95) 96 t97) 97 t99) 98 t101) 99 t103) 100 t105) 101 t107) 102 t109) 103 t75) 104 t67) 105 (f58 1)) 106 (f58 12)) 107 t110) 108 t111) 109 t112) 110 t113) 11 (.bool true)) w114) w108)
          (K62 (F.upd (F.upd (F.upd (F.upd (F.upd (F.upd (F.upd (F.upd (F.upd (F.upd (F.upd (F.upd (F.upd (F.upd (F.upd (F.upd (F.upd (F.upd (F.upd (F.upd (F.upd (F.upd (F.upd (F.upd (F.upd (F.upd (F.upd (F.upd (F.upd (F.upd (F.upd (F.upd (F.upd (F.upd (F.upd (F.upd (F.upd (F.upd (F.upd (F.upd (F.upd (F.upd f58 61 (f58 15)) 62 (f58 2)) 63 t60) 64 t61) 67 (f58 7)) 68 t65) 69 t66) 70 (f58 14)) 71 (f58 15)) 72 t67) 16 t67) 73 (f58 7)) 74 t69) 75 t70) 76 (f58 14)) 77 (f58 15)) 78 t71) 79 t72) 80 t73) 81 t74) 82 t75) 17 t75) 83 t67) 84 t76) 85 t76) 86 t77) 87 t79) 88 t81) 89 t83) 90 t85) 91 t87) 92 t89) 93 t91) 94 t93) 95 t95) 96 t97) 97 t99) 98 t101) 99 t103) 100 t105) 101 t107) 102 t109) w108)) w106) w104) w102) w100) w98) w96) w94) w92) w90) w88) w86) w84) w82) w80) w78) w68.drew.drew) w59) (fun f63 w64 =>
         Rd Try.prog (WS.at w64) (sBin .add 3 true (f63 15) (.int .i64 1)) fun t115 =>
         Q57 .normal (F.upd (F.upd (F.upd f63 65 (f63 15)) 66 t115) 15 t115) w64))
         (Q57 (.exit 12) (F.upd (F.upd (F.upd (F.upd f58 61 (f58 15)) 62 (f58 2)) 63 t60) 64 t61) w59))
        (blockQ 12 (blockQ 11 (seqQ (fun f116 w117 =>
       Rd Try.prog (WS.at w117) (sBin .add 3 true (f116 57) (.int .i64 1)) fun t118 =>
       Q53 .normal (F.upd (F.upd f116 111 t118) 57 t118) w117) Q53)))
        (F.upd (F.upd (F.upd (F.upd (F.upd f54 58 t56) 59 (f54 57)) 14 (f54 57)) 60 (f54 57)) 15 (f54 57)) w55)
       (Q53 (.exit 10) (F.upd f54 58 t56) w55))
      (blockQ 10 (blockQ 9 (seqQ (fun f119 w120 =>
     Rd Try.prog (WS.at w120) (sBin .add 3 true (f119 49) (.int .i64 1)) fun t121 =>
     Q42 .normal (F.upd (F.upd f119 112 t121) 49 t121) w120) Q42)))
      (F.upd (F.upd (F.upd (F.upd (F.upd (F.upd (F.upd (F.upd (F.upd (F.upd f43 50 t45) 51 (f43 49)) 52 t46) 53 t47) 13 t48) 12 (f43 49)) 54 (f43 2)) 55 t51) 56 t52) 57 (.int .i64 0)) w50) w49) w44)
     (Q42 (.exit 8) (F.upd f43 50 t45) w44))
    (blockQ 8 (blockQ 7 Q36))
    (F.upd (F.upd (F.upd (F.upd (F.upd (F.upd f37 45 (f37 11)) 11 (.bool false)) 46 t39) 47 t40) 48 t41) 49 (.int .i64 0)) w38)
   (Q36 (.exit 6) (F.upd f37 45 (f37 11)) w38))
  (blockQ 6 (seqQ (fun f122 w123 =>
 k (f122 7) w123) (bodyQ Try.prog [.tmp 6] k)))
  (F.upd f34 11 (.bool true)) w35) (bodyQ Try.prog [.tmp 6] k)))
  (F.upd (F.upd (F.upd (F.upd (F.upd (F.upd (F.upd (F.upd (F.upd (F.upd (initF [v0, v1, v2]) 3 t1) 6 (.pointer none)) 18 t3) 19 v2) 20 v1) 21 t4) 22 t6) 23 t7) 7 t7) 24 (.int .i64 0)) w8) w5) w2) w
theorem body115 : Try.f115.body = some (bodyOf Try.f115) := by kernel_rfl
theorem same115 (v0 v1 v2 : Value) (k : Value → World → Prop) (w : World) : wpF Try.prog pl115 (bodyOf Try.f115) (bodyQ Try.prog Try.f115.results.toList k) (initF [v0, v1, v2]) w = S115 v0 v1 v2 k w := by kernel_rfl
theorem enter115 {v0 v1 v2 : Value} {k : Value → World → Prop} {w : World} (h : S115 v0 v1 v2 k w) : CallK Try.prog 115 [v0, v1, v2] k w :=
  call_of_wpF (pl := pl115) mixed Try.func115 body115 (by kernel_rfl) (of_decide_eq_true (by kernel_rfl)) (by kernel_rfl) (by kernel_rfl) (same115 v0 v1 v2 k w ▸ h)

/-! loop.example/g00758/spec.l10Best -/
def pl152 : Plans := fun _ => ⟨false, [], .nil⟩
def S152 (v0 v1 v2 v3 v4 : Value) (k : Value → World → Prop) (w : World) : Prop :=
 Rd Try.prog (WS.at w) (sBuiltin .len #[22] 3 [false] [v2]) fun t1 =>
 Rd Try.prog (WS.at w) (sBin .eql 3 true t1 (.int .i64 0)) fun t2 =>
 CondK t2
  (Rd Try.prog (WS.at w) (sBin .eql 3 false v3 v4) fun t3 =>
  CondK t3
   (k (.int .i64 0) w)
   (k (.int .i64 (-1)) w))
  (Rd Try.prog (WS.at w) (sIndexAddr 22 v2 (.int .i64 0)) fun t4 =>
  Rd Try.prog (WS.at w) (sLoad 3 t4) fun t5 =>
  Rd Try.prog (WS.at w) (sBin .lss 3 true t5 (.int .i64 0)) fun t6 =>
  CondK t6
   (Rd Try.prog (WS.at w) (sBin .lss 3 false v3 v4) fun t7 =>
   GuardK t7 true (fun k w' => k v1 w') (fun t8 w9 =>
   GuardK t7 true (fun k w' => k v3 w') (fun t10 w11 =>
   GuardK t7 true (fun k w' => Rd Try.prog (WS.at w11) (sIndexAddr 22 t8 t10) fun v => k v w') (fun t12 w13 =>
   GuardK t7 true (fun k w' => Rd Try.prog (WS.at w13) (sLoad 3 t12) fun v => k v w') (fun t14 w15 =>
   GuardK t7 true (fun k w' => k t5 w') (fun t16 w17 =>
   GuardK t7 true (fun k w' => Rd Try.prog (WS.at w17) (sBin .sub 3 true (.int .i64 (-1)) t16) fun v => k v w') (fun t18 w19 =>
   GuardK t7 true (fun k w' => Rd Try.prog (WS.at w19) (sBin .eql 3 false t14 t18) fun v => k v w') (fun t20 w21 =>
   Rd Try.prog (WS.at w21) (sPick t7 t20 (.bool false)) fun t22 =>
   CondK t22
    (Rd Try.prog (WS.at w21) (sSlice 22 v2 (some (.int .i64 1)) none none) fun t23 =>
    Rd Try.prog (WS.at w21) (sBin .add 3 true v3 (.int .i64 1)) fun t24 =>
    CallK Try.prog 152 [v0, v1, t23, t24, v4] (fun t25 w26 =>
    k t25 w26) w21)
    (k (.int .i64 (-1)) w21)) w19) w17) w15) w13) w11) w9) w)
   (LoopF [48, 49, 50, 53, 54, 55, 56, 57, 58, 59, 60, 61, 62, 63, 64, 65, 14, 66, 67, 68, 69, 70, 71, 72, 73, 74, 15, 75, 76, 77, 78, 79, 80, 81, 82, 83, 84, 85, 86, 87, 88, 89, 90, 12, 51, 52, 13] (fun Q27 f28 w29 =>
    Rd Try.prog (WS.at w29) (sBin .leq 3 false (f28 13) (f28 4)) fun t30 =>
    CondK t30
     (Join (fun K31 =>
     Rd Try.prog (WS.at w29) (sIndexAddr 48 (f28 0) (f28 11)) fun t34 =>
     Rd Try.prog (WS.at w29) (sLoad 22 t34) fun t35 =>
     Rd Try.prog (WS.at w29) (sBuiltin .len #[22] 3 [false] [(f28 1)]) fun t36 =>
     Rd Try.prog (WS.at w29) (sBin .add 3 true t36 (.int .i64 1)) fun t37 =>
     Rd Try.prog (WS.at w29) (sBin .mul 3 false (f28 3) t37) fun t38 =>
     Rd Try.prog (WS.at w29) (sBin .add 3 false t38 (f28 13)) fun t39 =>
     Rd Try.prog (WS.at w29) (sIndexAddr 22 t35 t39) fun t40 =>
     Rd Try.prog (WS.at w29) (sLoad 3 t40) fun t41 =>
     Rd Try.prog (WS.at w29) (sBin .eql 3 true t41 (.int .i64 0)) fun t42 =>
     CondK t42
      (K31 (F.upd (F.upd (F.upd (F.upd (F.upd (F.upd (F.upd (F.upd (F.upd (F.upd (F.upd (F.upd (F.upd (F.upd (F.upd (F.upd (F.upd (F.upd (F.upd f28 48 (f28 13)) 49 (f28 4)) 50 t30) 53 (f28 0)) 54 (f28 11)) 55 t34) 56 t35) 57 (f28 3)) 58 (f28 1)) 59 t36) 60 t37) 61 t38) 62 (f28 13)) 63 t39) 64 t40) 65 t41) 14 t41) 66 t41) 67 t42) w29)
      (Rd Try.prog (WS.at w29) (sSlice 22 (f28 2) (some (.int .i64 1)) none none) fun t43 =>
      CallK Try.prog 152 [(f28 0), (f28 1), t43, (f28 13), (f28 4)] (fun t44 w45 =>
      Rd Try.prog (WS.at w45) (sBin .geq 3 true t44 (.int .i64 0)) fun t46 =>
      GuardK t46 true (fun k w' => k (f28 12) w') (fun t47 w48 =>
      GuardK t46 true (fun k w' => Rd Try.prog (WS.at w48) (sBin .lss 3 true t47 (.int .i64 0)) fun v => k v w') (fun t49 w50 =>
      GuardK t46 true (fun k w' => k t49 w') (fun t51 w52 =>
      GuardK t51 false (fun k w' => k t41 w') (fun t53 w54 =>
      GuardK t51 false (fun k w' => k t44 w') (fun t55 w56 =>
      GuardK t51 false (fun k w' => Rd Try.prog (WS.at w56) (sBin .add 3 false t53 t55) fun v => k v w') (fun t57 w58 =>
      GuardK t51 false (fun k w' => k (f28 12) w') (fun t59 w60 =>
      GuardK t51 false (fun k w' => Rd Try.prog (WS.at w60) (sBin .lss 3 false t57 t59) fun v => k v w') (fun t61 w62 =>
      GuardK t46 true (fun k w' => Rd Try.prog (WS.at w62) (sPick t51 (.bool true) t61) fun v => k v w') (fun t63 w64 =>
      Rd Try.prog (WS.at w64) (sPick t46 t63 (.bool false)) fun t65 =>
      CondK t65
       (Rd Try.prog (WS.at w64) (sBin .add 3 false t41 t44) fun t66 =>
       K31 (F.upd (F.upd (F.upd (F.upd (F.upd (F.upd (F.upd (F.upd (F.upd (F.upd (F.upd (F.upd (F.upd (F.upd (F.upd (F.upd (F.upd (F.upd (F.upd (F.upd (F.upd (F.upd (F.upd (F.upd (F.upd (F.upd (F.upd (F.upd (F.upd (F.upd (F.upd (F.upd (F.upd (F.upd (F.upd (F.upd (F.upd (F.upd (F.upd (F.upd (F.upd (F.upd (F.upd (F.upd f28 48 (f28 13)) 49 (f28 4)) 50 t30) 53 (f28 0)) 54 (f28 11)) 55 t34) 56 t35) 57 (f28 3)) 58 (f28 1)) 59 t36) 60 t37) 61 t38) 62 (f28 13)) 63 t39) 64 t40) 65 t41) 14 t41) 66 t41) 67 t42) 68 (f28 0)) 69 (f28 1)) 70 (f28 2)) 71 t43) 72 (f28 13)) 73 (f28 4)) 74 t44) 15 t44) 75 t44) 76 t46) 77 t46) 78 t47) 79 t49) 80 t51) 81 t53) 82 t55) 83 t57) 84 t59) 85 t61) 86 t63) 87 t65) 88 t41) 89 t44) 90 t66) 12 t66) w64)
       (K31 (F.upd (F.upd (F.upd (F.upd (F.upd (F.upd (F.upd (F.upd (F.upd (F.upd (F.upd (F.upd (F.upd (F.upd (F.upd (F.upd (F.upd (F.upd (F.upd (F.upd (F.upd (F.upd (F.upd (F.upd (F.upd (F.upd (F.upd (F.upd (F.upd (F.upd (F.upd (F.upd (F.upd (F.upd (F.upd (F.upd (F.upd (F.upd (F.upd (F.upd f28 48 (f28 13)) 49 (f28 4)) 50 t30) 53 (f28 0)) 54 (f28 11)) 55 t34) 56 t35) 57 (f28 3)) 58 (f28 1)) 59 t36) 60 t37) 61 t38) 62 (f28 13)) 63 t39) 64 t40) 65 t41) 14 t41) 66 t41) 67 t42) 68 (f28 0)) 69 (f28 1)) 70 (f28 2)) 71 t43) 72 (f28 13)) 73 (f28 4)) 74 t44) 15 t44) 75 t44) 76 t46) 77 t46) 78 t47) 79 t49) 80 t51) 81 t53) 82 t55) 83 t57) 84 t59) 85 t61) 86 t63) 87 t65) w64)) w62) w60) w58) w56) w54) w52) w50) w48) w45) w29)) (fun f32 w33 =>
     Rd Try.prog (WS.at w33) (sBin .add 3 true (f32 13) (.int .i64 1)) fun t67 =>
     Q27 .normal (F.upd (F.upd (F.upd f32 51 (f32 13)) 52 t67) 13 t67) w33))
     (Q27 (.exit 0) (F.upd (F.upd (F.upd f28 48 (f28 13)) 49 (f28 4)) 50 t30) w29))
    (blockQ 0 (seqQ (fun f68 w69 =>
   k (f68 12) w69) (bodyQ Try.prog [.tmp 10] k)))
    (F.upd (F.upd (F.upd (F.upd (F.upd (F.upd (F.upd (F.upd (F.upd (F.upd (F.upd (F.upd (F.upd (initF [v0, v1, v2, v3, v4]) 10 (.int .i64 0)) 16 v2) 17 t1) 18 t2) 22 v2) 23 t4) 24 t5) 11 t5) 25 t5) 26 t6) 12 (.int .i64 (-1))) 47 v3) 13 v3) w))
theorem body152 : Try.f152.body = some (bodyOf Try.f152) := by kernel_rfl
theorem same152 (v0 v1 v2 v3 v4 : Value) (k : Value → World → Prop) (w : World) : wpF Try.prog pl152 (bodyOf Try.f152) (bodyQ Try.prog Try.f152.results.toList k) (initF [v0, v1, v2, v3, v4]) w = S152 v0 v1 v2 v3 v4 k w := by kernel_rfl
theorem enter152 {v0 v1 v2 v3 v4 : Value} {k : Value → World → Prop} {w : World} (h : S152 v0 v1 v2 v3 v4 k w) : CallK Try.prog 152 [v0, v1, v2, v3, v4] k w :=
  call_of_wpF (pl := pl152) mixed Try.func152 body152 (by kernel_rfl) (of_decide_eq_true (by kernel_rfl)) (by kernel_rfl) (by kernel_rfl) (same152 v0 v1 v2 v3 v4 k w ▸ h)

/-! loop.example/g00758/impl.areCosts$1 -/
def pl153 : Plans := fun _ => ⟨false, [], .nil⟩
def S153 (v0 : Value) (k : Value → World → Prop) (w : World) : Prop :=
 CallK Try.prog 103 [v0, (.int .i64 1), (.int .i64 100)] (fun t1 w2 =>
 Rd Try.prog (WS.at w2) (sUn .not t1) fun t3 =>
 k t3 w2) w
theorem body153 : Try.f153.body = some (bodyOf Try.f153) := by kernel_rfl
theorem same153 (v0 : Value) (k : Value → World → Prop) (w : World) : wpF Try.prog pl153 (bodyOf Try.f153) (bodyQ Try.prog Try.f153.results.toList k) (initF [v0]) w = S153 v0 k w := by kernel_rfl
theorem enter153 {v0 : Value} {k : Value → World → Prop} {w : World} (h : S153 v0 k w) : CallK Try.prog 153 [v0] k w :=
  call_of_wpF (pl := pl153) mixed Try.func153 body153 (by kernel_rfl) (of_decide_eq_true (by kernel_rfl)) (by kernel_rfl) (by kernel_rfl) (same153 v0 k w ▸ h)

/-! (*loop.example/g00758/impl.costing).rest -/
def pl154 : Plans := fun _ => ⟨false, [], .nil⟩
def S154 (v0 v1 v2 v3 : Value) (k : Value → World → Prop) (w : World) : Prop :=
 Rd Try.prog (WS.at w) (sBuiltin .len #[22] 3 [false] [v1]) fun t1 =>
 Rd Try.prog (WS.at w) (sBin .eql 3 true t1 (.int .i64 0)) fun t2 =>
 CondK t2
  (Rd Try.prog (WS.at w) (sBin .eql 3 false v2 v3) fun t3 =>
  CondK t3
   (k (.int .i64 0) w)
   (k (.int .i64 (-1)) w))
  (LoopF [20, 21, 22, 25, 26, 27, 28, 29, 30, 31, 11, 32, 33, 34, 35, 36, 37, 38, 39, 12, 40, 41, 42, 43, 44, 45, 46, 47, 48, 49, 50, 51, 52, 53, 54, 55, 9, 23, 24, 10] (fun Q4 f5 w6 =>
   Rd Try.prog (WS.at w6) (sBin .leq 3 false (f5 10) (f5 3)) fun t7 =>
   CondK t7
    (Join (fun K8 =>
    Rd Try.prog (WS.at w6) (sIndexAddr 22 (f5 1) (.int .i64 0)) fun t11 =>
    Rd Try.prog (WS.at w6) (sLoad 3 t11) fun t12 =>
    CallK Try.prog 184 [(f5 0), t12, (f5 2), (f5 10)] (fun t13 w14 =>
    Rd Try.prog (WS.at w14) (sBin .lss 3 true t13 (.int .i64 0)) fun t15 =>
    CondK t15
     (K8 (F.upd (F.upd (F.upd (F.upd (F.upd (F.upd (F.upd (F.upd (F.upd (F.upd (F.upd (F.upd (F.upd f5 20 (f5 10)) 21 (f5 3)) 22 t7) 25 (f5 0)) 26 (f5 1)) 27 t11) 28 t12) 29 (f5 2)) 30 (f5 10)) 31 t13) 11 t13) 32 t13) 33 t15) w14)
     (Rd Try.prog (WS.at w14) (sSlice 22 (f5 1) (some (.int .i64 1)) none none) fun t16 =>
     CallK Try.prog 154 [(f5 0), t16, (f5 10), (f5 3)] (fun t17 w18 =>
     Rd Try.prog (WS.at w18) (sBin .geq 3 true t17 (.int .i64 0)) fun t19 =>
     GuardK t19 true (fun k w' => k (f5 9) w') (fun t20 w21 =>
     GuardK t19 true (fun k w' => Rd Try.prog (WS.at w21) (sBin .lss 3 true t20 (.int .i64 0)) fun v => k v w') (fun t22 w23 =>
     GuardK t19 true (fun k w' => k t22 w') (fun t24 w25 =>
     GuardK t24 false (fun k w' => k t13 w') (fun t26 w27 =>
     GuardK t24 false (fun k w' => k t17 w') (fun t28 w29 =>
     GuardK t24 false (fun k w' => Rd Try.prog (WS.at w29) (sBin .add 3 false t26 t28) fun v => k v w') (fun t30 w31 =>
     GuardK t24 false (fun k w' => k (f5 9) w') (fun t32 w33 =>
     GuardK t24 false (fun k w' => Rd Try.prog (WS.at w33) (sBin .lss 3 false t30 t32) fun v => k v w') (fun t34 w35 =>
     GuardK t19 true (fun k w' => Rd Try.prog (WS.at w35) (sPick t24 (.bool true) t34) fun v => k v w') (fun t36 w37 =>
     Rd Try.prog (WS.at w37) (sPick t19 t36 (.bool false)) fun t38 =>
     CondK t38
      (Rd Try.prog (WS.at w37) (sBin .add 3 false t13 t17) fun t39 =>
      K8 (F.upd (F.upd (F.upd (F.upd (F.upd (F.upd (F.upd (F.upd (F.upd (F.upd (F.upd (F.upd (F.upd (F.upd (F.upd (F.upd (F.upd (F.upd (F.upd (F.upd (F.upd (F.upd (F.upd (F.upd (F.upd (F.upd (F.upd (F.upd (F.upd (F.upd (F.upd (F.upd (F.upd (F.upd (F.upd (F.upd (F.upd f5 20 (f5 10)) 21 (f5 3)) 22 t7) 25 (f5 0)) 26 (f5 1)) 27 t11) 28 t12) 29 (f5 2)) 30 (f5 10)) 31 t13) 11 t13) 32 t13) 33 t15) 34 (f5 0)) 35 (f5 1)) 36 t16) 37 (f5 10)) 38 (f5 3)) 39 t17) 12 t17) 40 t17) 41 t19) 42 t19) 43 t20) 44 t22) 45 t24) 46 t26) 47 t28) 48 t30) 49 t32) 50 t34) 51 t36) 52 t38) 53 t13) 54 t17) 55 t39) 9 t39) w37)
      (K8 (F.upd (F.upd (F.upd (F.upd (F.upd (F.upd (F.upd (F.upd (F.upd (F.upd (F.upd (F.upd (F.upd (F.upd (F.upd (F.upd (F.upd (F.upd (F.upd (F.upd (F.upd (F.upd (F.upd (F.upd (F.upd (F.upd (F.upd (F.upd (F.upd (F.upd (F.upd (F.upd (F.upd f5 20 (f5 10)) 21 (f5 3)) 22 t7) 25 (f5 0)) 26 (f5 1)) 27 t11) 28 t12) 29 (f5 2)) 30 (f5 10)) 31 t13) 11 t13) 32 t13) 33 t15) 34 (f5 0)) 35 (f5 1)) 36 t16) 37 (f5 10)) 38 (f5 3)) 39 t17) 12 t17) 40 t17) 41 t19) 42 t19) 43 t20) 44 t22) 45 t24) 46 t26) 47 t28) 48 t30) 49 t32) 50 t34) 51 t36) 52 t38) w37)) w35) w33) w31) w29) w27) w25) w23) w21) w18) w14)) w6) (fun f9 w10 =>
    Rd Try.prog (WS.at w10) (sBin .add 3 true (f9 10) (.int .i64 1)) fun t40 =>
    Q4 .normal (F.upd (F.upd (F.upd f9 23 (f9 10)) 24 t40) 10 t40) w10))
    (Q4 (.exit 0) (F.upd (F.upd (F.upd f5 20 (f5 10)) 21 (f5 3)) 22 t7) w6))
   (blockQ 0 (seqQ (fun f41 w42 =>
  k (f41 9) w42) (bodyQ Try.prog [.tmp 8] k)))
   (F.upd (F.upd (F.upd (F.upd (F.upd (F.upd (F.upd (initF [v0, v1, v2, v3]) 8 (.int .i64 0)) 13 v1) 14 t1) 15 t2) 9 (.int .i64 (-1))) 19 v2) 10 v2) w)
theorem body154 : Try.f154.body = some (bodyOf Try.f154) := by kernel_rfl
theorem same154 (v0 v1 v2 v3 : Value) (k : Value → World → Prop) (w : World) : wpF Try.prog pl154 (bodyOf Try.f154) (bodyQ Try.prog Try.f154.results.toList k) (initF [v0, v1, v2, v3]) w = S154 v0 v1 v2 v3 k w := by kernel_rfl
theorem enter154 {v0 v1 v2 v3 : Value} {k : Value → World → Prop} {w : World} (h : S154 v0 v1 v2 v3 k w) : CallK Try.prog 154 [v0, v1, v2, v3] k w :=
  call_of_wpF (pl := pl154) mixed Try.func154 body154 (by kernel_rfl) (of_decide_eq_true (by kernel_rfl)) (by kernel_rfl) (by kernel_rfl) (same154 v0 v1 v2 v3 k w ▸ h)

/-! (*loop.example/g00758/impl.costing).one -/
def pl184 : Plans := fun _ => ⟨false, [], .nil⟩
def S184 (v0 v1 v2 v3 : Value) (k : Value → World → Prop) (w : World) : Prop :=
 Rd Try.prog (WS.at w) (sBin .geq 3 true v1 (.int .i64 0)) fun t1 =>
 CondK t1
  (Rd Try.prog (WS.at w) (sNilCheck v0) fun t2 =>
  Rd Try.prog (WS.at w) (sFieldAddr 125 t2 3) fun t3 =>
  Rd Try.prog (WS.at w) (sIndexAddr 122 t3 v1) fun t4 =>
  Rd Try.prog (WS.at w) (sIndexAddr 121 t4 v2) fun t5 =>
  Rd Try.prog (WS.at w) (sIndexAddr 120 t5 v3) fun t6 =>
  Rd Try.prog (WS.at w) (sLoad 3 t6) fun t7 =>
  k t7 w)
  (Rd Try.prog (WS.at w) (sBin .add 3 true v2 (.int .i64 1)) fun t8 =>
  Rd Try.prog (WS.at w) (sBin .eql 3 false v3 t8) fun t9 =>
  GuardK t9 true (fun k w' => k v0 w') (fun t10 w11 =>
  GuardK t9 true (fun k w' => Rd Try.prog (WS.at w11) (sNilCheck t10) fun v => k v w') (fun t12 w13 =>
  GuardK t9 true (fun k w' => Rd Try.prog (WS.at w13) (sFieldAddr 125 t12 1) fun v => k v w') (fun t14 w15 =>
  GuardK t9 true (fun k w' => Rd Try.prog (WS.at w15) (sLoad 22 t14) fun v => k v w') (fun t16 w17 =>
  GuardK t9 true (fun k w' => k v2 w') (fun t18 w19 =>
  GuardK t9 true (fun k w' => Rd Try.prog (WS.at w19) (sIndexAddr 22 t16 t18) fun v => k v w') (fun t20 w21 =>
  GuardK t9 true (fun k w' => Rd Try.prog (WS.at w21) (sLoad 3 t20) fun v => k v w') (fun t22 w23 =>
  GuardK t9 true (fun k w' => CallK Try.prog 179 [t22] k w') (fun t24 w25 =>
  GuardK t9 true (fun k w' => k v1 w') (fun t26 w27 =>
  GuardK t9 true (fun k w' => Rd Try.prog (WS.at w27) (sBin .eql 3 false t24 t26) fun v => k v w') (fun t28 w29 =>
  Rd Try.prog (WS.at w29) (sPick t9 t28 (.bool false)) fun t30 =>
  CondK t30
   (k (.int .i64 0) w29)
   (k (.int .i64 (-1)) w29)) w27) w25) w23) w21) w19) w17) w15) w13) w11) w)
theorem body184 : Try.f184.body = some (bodyOf Try.f184) := by kernel_rfl
theorem same184 (v0 v1 v2 v3 : Value) (k : Value → World → Prop) (w : World) : wpF Try.prog pl184 (bodyOf Try.f184) (bodyQ Try.prog Try.f184.results.toList k) (initF [v0, v1, v2, v3]) w = S184 v0 v1 v2 v3 k w := by kernel_rfl
theorem enter184 {v0 v1 v2 v3 : Value} {k : Value → World → Prop} {w : World} (h : S184 v0 v1 v2 v3 k w) : CallK Try.prog 184 [v0, v1, v2, v3] k w :=
  call_of_wpF (pl := pl184) mixed Try.func184 body184 (by kernel_rfl) (of_decide_eq_true (by kernel_rfl)) (by kernel_rfl) (by kernel_rfl) (same184 v0 v1 v2 v3 k w ▸ h)

end Go.Proofs.Ytiohaeckagjebaa

/- Contracts: least costs of a row of symbols: the reference's l10Best, the program's one and rest. -/
set_option linter.unusedVariables false
set_option linter.unusedSimpArgs false
set_option maxRecDepth 100000
namespace Go.Sh
open Go
theorem enc0_n : enc0 none = 0 := rfl
theorem enc0_s (n : Nat) : enc0 (some n) = (n : Int) := rfl
theorem one_small {T : CT} {ws : List Int} (hS : SmallG T) {x : Int} {i j a : Nat} (hij : i ≤ j) (hj : j ≤ 10) (h : oneG (tokC ws) T x i j = some a) : a ≤ 100000000 := by
  unfold oneG at h
  split at h
  · have := tokC_small ws _ _ _ _ hij h
    omega
  · exact hS.le hij hj h
end Go.Sh
namespace Go.Proofs.Ytiohaeckagjebaa
open Go Go.Sh Go.RowKit
set_option maxHeartbeats 1600000 in
theorem l10Best_c {ws : List Int} (hl : ws.length ≤ 10) (hw : ∀ t ∈ ws, 0 ≤ t ∧ t ≤ 100) {nons : Nat} (hno : nons ≤ 6) : ∀ (xs : List Int) {w : World} {U W R : Option Addr} {cu cw cr : Nat} {T : CT} {i j : Nat} {k : Value → World → Prop}, TabE enc0 w U nons (ws.length + 1) T → SmallG T → PosG T → Ints w W ws → Ints w R xs → xs.length ≤ cr → xs.length ≤ 4 → (∀ x ∈ xs, -100 ≤ x ∧ x < nons) → i ≤ j → j ≤ ws.length → k (.int .i64 (encM (restG (tokC ws) nl0 T xs i j))) w →
    CallK Try.prog 152 [.slice U nons cu, .slice W ws.length cw, .slice R xs.length cr, .int .i64 i, .int .i64 j] k w := by
  intro xs
  induction xs with
  | nil =>
    intro w U W R cu cw cr T i j k hT hS hP hW hR hcr h4 hx hij hj hk
    refine enter152 ?_
    unfold S152
    simp only [List.length_nil, show (((0 : Nat) : Int) = 0) from rfl, decide_true, go_sem, Nat.reduceEqDiff]
    rw [restG, nl0] at hk
    by_cases hij' : i = j
    · subst hij'
      rw [if_pos rfl] at hk
      simp only [decide_true, go_sem, Nat.reduceEqDiff]
      exact hk
    · rw [if_neg hij'] at hk
      simp only [show ¬ ((i : Int) = (j : Int)) from by omega, decide_false, go_sem, Nat.reduceEqDiff]
      exact hk
  | cons x xs ih =>
    intro w U W R cu cw cr T i j k hT hS hP hW hR hcr h4 hx hij hj hk
    refine enter152 ?_
    unfold S152
    have hxx := hx x (List.mem_cons_self ..)
    have hx' : ∀ y ∈ xs, -100 ≤ y ∧ y < nons := fun y hy => hx y (List.mem_cons_of_mem _ hy)
    rw [List.length_cons] at hcr h4
    have hsub := hR.sub (l := 1) (c := cr) (by simp) (by simp; omega) xs.length
    rw [List.drop_one, List.tail_cons, List.take_length] at hsub
    simp only [show ¬ (((x :: xs).length : Int) = 0) from by rw [List.length_cons]; omega, decide_false, bin_add, bin_sub, bin_mul, bin_eql, bin_neq, bin_lss, bin_leq, bin_gtr, bin_geq, un_not, un_neg, pick_true, pick_false, extract_two_0, extract_two_1, nilCheck_pointer, cond_true', cond_false', guard_tt, guard_ff, guard_tf, guard_ft, guard_undef, seqQ_normal, seqQ_ret, seqQ_exit, blockQ_ret, blockQ_normal, blockQ_exit, bodyQ_ret, bodyQ_normal, resK_nil, resK_tmp, ite_T, ite_F, upd_at, add_plain, add_zero', len22, len35, len48, fa37_0, fa37_1, fa37_2, fa77_0, fa77_1, fa103_0, fa103_1, fa125_0, fa125_1, fa125_2, fa125_3, fa125_4, Nat.reduceEqDiff]
    refine rdi (ix22_0 hR.ptr (by simp)) (rdi (ld3 (hR.cell 0 (by simp))) ?_)
    simp only [List.getD_cons_zero, bin_add, bin_sub, bin_mul, bin_eql, bin_neq, bin_lss, bin_leq, bin_gtr, bin_geq, un_not, un_neg, pick_true, pick_false, extract_two_0, extract_two_1, nilCheck_pointer, cond_true', cond_false', guard_tt, guard_ff, guard_tf, guard_ft, guard_undef, seqQ_normal, seqQ_ret, seqQ_exit, blockQ_ret, blockQ_normal, blockQ_exit, bodyQ_ret, bodyQ_normal, resK_nil, resK_tmp, ite_T, ite_F, upd_at, add_plain, add_zero', len22, len35, len48, fa37_0, fa37_1, fa37_2, fa77_0, fa77_1, fa103_0, fa103_1, fa125_0, fa125_1, fa125_2, fa125_3, fa125_4, Nat.reduceEqDiff]
    by_cases hx0 : x < 0
    · simp only [hx0, decide_true, bin_add, bin_sub, bin_mul, bin_eql, bin_neq, bin_lss, bin_leq, bin_gtr, bin_geq, un_not, un_neg, pick_true, pick_false, extract_two_0, extract_two_1, nilCheck_pointer, cond_true', cond_false', guard_tt, guard_ff, guard_tf, guard_ft, guard_undef, seqQ_normal, seqQ_ret, seqQ_exit, blockQ_ret, blockQ_normal, blockQ_exit, bodyQ_ret, bodyQ_normal, resK_nil, resK_tmp, ite_T, ite_F, upd_at, add_plain, add_zero', len22, len35, len48, fa37_0, fa37_1, fa37_2, fa77_0, fa77_1, fa103_0, fa103_1, fa125_0, fa125_1, fa125_2, fa125_3, fa125_4, Nat.reduceEqDiff]
      rw [rest_tok hx0] at hk
      by_cases hij' : i < j
      case neg =>
        simp only [show ¬ ((i : Int) < j) from by omega, decide_false, bin_add, bin_sub, bin_mul, bin_eql, bin_neq, bin_lss, bin_leq, bin_gtr, bin_geq, un_not, un_neg, pick_true, pick_false, extract_two_0, extract_two_1, nilCheck_pointer, cond_true', cond_false', guard_tt, guard_ff, guard_tf, guard_ft, guard_undef, seqQ_normal, seqQ_ret, seqQ_exit, blockQ_ret, blockQ_normal, blockQ_exit, bodyQ_ret, bodyQ_normal, resK_nil, resK_tmp, ite_T, ite_F, upd_at, add_plain, add_zero', len22, len35, len48, fa37_0, fa37_1, fa37_2, fa77_0, fa77_1, fa103_0, fa103_1, fa125_0, fa125_1, fa125_2, fa125_3, fa125_4, Nat.reduceEqDiff]
        rw [if_neg (fun h => hij' h.1)] at hk
        exact hk
      simp only [show ((i : Int) < j) from by omega, decide_true, bin_add, bin_sub, bin_mul, bin_eql, bin_neq, bin_lss, bin_leq, bin_gtr, bin_geq, un_not, un_neg, pick_true, pick_false, extract_two_0, extract_two_1, nilCheck_pointer, cond_true', cond_false', guard_tt, guard_ff, guard_tf, guard_ft, guard_undef, seqQ_normal, seqQ_ret, seqQ_exit, blockQ_ret, blockQ_normal, blockQ_exit, bodyQ_ret, bodyQ_normal, resK_nil, resK_tmp, ite_T, ite_F, upd_at, add_plain, add_zero', len22, len35, len48, fa37_0, fa37_1, fa37_2, fa77_0, fa77_1, fa103_0, fa103_1, fa125_0, fa125_1, fa125_2, fa125_3, fa125_4, Nat.reduceEqDiff]
      refine rdi (ixn22 hW.ptr (by omega)) (rdi (ld3 (hW.cell i (by omega))) ?_)
      simp only [bin_add, bin_sub, bin_mul, bin_eql, bin_neq, bin_lss, bin_leq, bin_gtr, bin_geq, un_not, un_neg, pick_true, pick_false, extract_two_0, extract_two_1, nilCheck_pointer, cond_true', cond_false', guard_tt, guard_ff, guard_tf, guard_ft, guard_undef, seqQ_normal, seqQ_ret, seqQ_exit, blockQ_ret, blockQ_normal, blockQ_exit, bodyQ_ret, bodyQ_normal, resK_nil, resK_tmp, ite_T, ite_F, upd_at, add_plain, add_zero', len22, len35, len48, fa37_0, fa37_1, fa37_2, fa77_0, fa77_1, fa103_0, fa103_1, fa125_0, fa125_1, fa125_2, fa125_3, fa125_4, Nat.reduceEqDiff]
      rw [i64_of (by omega) (by omega)]
      by_cases htk : ws.getD i 0 = -1 - x
      case neg =>
        simp only [htk, decide_false, bin_add, bin_sub, bin_mul, bin_eql, bin_neq, bin_lss, bin_leq, bin_gtr, bin_geq, un_not, un_neg, pick_true, pick_false, extract_two_0, extract_two_1, nilCheck_pointer, cond_true', cond_false', guard_tt, guard_ff, guard_tf, guard_ft, guard_undef, seqQ_normal, seqQ_ret, seqQ_exit, blockQ_ret, blockQ_normal, blockQ_exit, bodyQ_ret, bodyQ_normal, resK_nil, resK_tmp, ite_T, ite_F, upd_at, add_plain, add_zero', len22, len35, len48, fa37_0, fa37_1, fa37_2, fa77_0, fa77_1, fa103_0, fa103_1, fa125_0, fa125_1, fa125_2, fa125_3, fa125_4, Nat.reduceEqDiff]
        rw [if_neg (fun h => htk h.2)] at hk
        exact hk
      simp only [htk, decide_true, bin_add, bin_sub, bin_mul, bin_eql, bin_neq, bin_lss, bin_leq, bin_gtr, bin_geq, un_not, un_neg, pick_true, pick_false, extract_two_0, extract_two_1, nilCheck_pointer, cond_true', cond_false', guard_tt, guard_ff, guard_tf, guard_ft, guard_undef, seqQ_normal, seqQ_ret, seqQ_exit, blockQ_ret, blockQ_normal, blockQ_exit, bodyQ_ret, bodyQ_normal, resK_nil, resK_tmp, ite_T, ite_F, upd_at, add_plain, add_zero', len22, len35, len48, fa37_0, fa37_1, fa37_2, fa77_0, fa77_1, fa103_0, fa103_1, fa125_0, fa125_1, fa125_2, fa125_3, fa125_4, Nat.reduceEqDiff]
      rw [if_pos ⟨hij', htk⟩] at hk
      refine rdi (sll22 (by omega) (by rw [List.length_cons]; omega)) ?_
      rw [i64_of (by omega) (by omega)]
      refine ih (i := i + 1) hT hS hP hW hsub (by show xs.length ≤ cr - 1; omega) (by omega) hx' (by omega) hj ?_
      exact hk
    simp only [hx0, decide_false, bin_add, bin_sub, bin_mul, bin_eql, bin_neq, bin_lss, bin_leq, bin_gtr, bin_geq, un_not, un_neg, pick_true, pick_false, extract_two_0, extract_two_1, nilCheck_pointer, cond_true', cond_false', guard_tt, guard_ff, guard_tf, guard_ft, guard_undef, seqQ_normal, seqQ_ret, seqQ_exit, blockQ_ret, blockQ_normal, blockQ_exit, bodyQ_ret, bodyQ_normal, resK_nil, resK_tmp, ite_T, ite_F, upd_at, add_plain, add_zero', len22, len35, len48, fa37_0, fa37_1, fa37_2, fa77_0, fa77_1, fa103_0, fa103_1, fa125_0, fa125_1, fa125_2, fa125_3, fa125_4, Nat.reduceEqDiff]
    obtain ⟨A, rfl⟩ : ∃ A : Nat, x = A := ⟨x.toNat, by omega⟩
    rw [rest_non hx0, Int.toNat_natCast] at hk
    obtain ⟨F, hF⟩ : ∃ F, F = fun m => addO (T A i (i + m)) (restG (tokC ws) nl0 T xs (i + m) j) := ⟨_, rfl⟩
    rw [← hF] at hk
    have hF' : ∀ m, F m = addO (T A i (i + m)) (restG (tokC ws) nl0 T xs (i + m) j) := fun m => by rw [hF]
    have hFs : ∀ m n, i + m ≤ j → F m = some n → n ≤ 200000000 := fun m n hm h => by
      rw [hF'] at h
      obtain ⟨a, b, h1, h2, rfl⟩ := addO_some h
      have hb := rest_small hS (tokC_small ws) nl0_small (xs := xs) (by omega) hm (by omega) h2
      have ha := hS.le (by omega) (by omega) h1
      omega
    clear hF
    refine loop_to (j + 1 - i) 0 (fun m f w' => m ≤ j + 1 - i ∧ f 13 = .int .i64 ((i + m : Nat) : Int) ∧ w' = w ∧ f 12 = .int .i64 (encM (minF F m)))
      ⟨Nat.zero_le _, rfl, rfl, rfl⟩ ?_
    rintro m f w1 N hag ⟨hm, h13, rfl, h12⟩ hN
    have f0 : f 0 = .slice U nons cu := hag 0 (by decide)
    have f1 : f 1 = .slice W ws.length cw := hag 1 (by decide)
    have f2 : f 2 = .slice R ((A : Int) :: xs).length cr := hag 2 (by decide)
    have f3 : f 3 = .int .i64 i := hag 3 (by decide)
    have f4 : f 4 = .int .i64 j := hag 4 (by decide)
    have f11 : f 11 = .int .i64 (A : Int) := hag 11 (by decide)
    simp only [f0, f1, f2, f3, f4, f11, h12, h13, bin_add, bin_sub, bin_mul, bin_eql, bin_neq, bin_lss, bin_leq, bin_gtr, bin_geq, un_not, un_neg, pick_true, pick_false, extract_two_0, extract_two_1, nilCheck_pointer, cond_true', cond_false', guard_tt, guard_ff, guard_tf, guard_ft, guard_undef, seqQ_normal, seqQ_ret, seqQ_exit, blockQ_ret, blockQ_normal, blockQ_exit, bodyQ_ret, bodyQ_normal, resK_nil, resK_tmp, ite_T, ite_F, upd_at, add_plain, add_zero', len22, len35, len48, fa37_0, fa37_1, fa37_2, fa77_0, fa77_1, fa103_0, fa103_1, fa125_0, fa125_1, fa125_2, fa125_3, fa125_4, Nat.reduceEqDiff]
    by_cases hle : i + m ≤ j
    case neg =>
      simp only [show ¬ (((i + m : Nat) : Int) ≤ j) from by omega, decide_false, go_sem, Nat.reduceEqDiff]
      obtain rfl : m = j + 1 - i := by omega
      exact hk
    simp only [show (((i + m : Nat) : Int) ≤ j) from by omega, decide_true, bin_add, bin_sub, bin_mul, bin_eql, bin_neq, bin_lss, bin_leq, bin_gtr, bin_geq, un_not, un_neg, pick_true, pick_false, extract_two_0, extract_two_1, nilCheck_pointer, cond_true', cond_false', guard_tt, guard_ff, guard_tf, guard_ft, guard_undef, seqQ_normal, seqQ_ret, seqQ_exit, blockQ_ret, blockQ_normal, blockQ_exit, bodyQ_ret, bodyQ_normal, resK_nil, resK_tmp, ite_T, ite_F, upd_at, add_plain, add_zero', len22, len35, len48, fa37_0, fa37_1, fa37_2, fa77_0, fa77_1, fa103_0, fa103_1, fa125_0, fa125_1, fa125_2, fa125_3, fa125_4, Nat.reduceEqDiff]
    refine join_as (fun g w' => g 13 = .int .i64 ((i + m : Nat) : Int) ∧ w' = w1 ∧ g 12 = .int .i64 (encM (minF F (m + 1)))) (fun K8 hK8 => ?_) ?_
    case refine_2 =>
      rintro g w' ⟨g13, rfl, g12⟩
      simp only [g13, go_sem, Nat.reduceEqDiff]
      rw [i64_of (by omega) (by omega)]
      exact hN _ _ (by omega) ⟨by omega, by show Value.int .i64 (((i + m : Nat) : Int) + 1) = _; congr 1, rfl, g12⟩
    obtain ⟨R', c', h1, h2, h3⟩ := hT.row A (by omega)
    have hab := place_lt (n := ws.length + 1) (show i < ws.length + 1 by omega) (show i + m < ws.length + 1 by omega)
    have hnn : (ws.length + 1) * (ws.length + 1) ≤ 11 * 11 := Nat.mul_le_mul (by omega) (by omega)
    refine rdi (ixn48 (fun h => hT.ptr h) (by omega)) (rdi (ld22 h1) ?_)
    rw [i64_of (n := (ws.length : Int) + 1) (by omega) (by omega), show (i : Int) * ((ws.length : Int) + 1) = ((i * (ws.length + 1) : Nat) : Int) from by push_cast; rfl, i64_of (n := ((i * (ws.length + 1) : Nat) : Int)) (by omega) (by omega), i64_of (by omega) (by omega)]
    rw [show (((i * (ws.length + 1) : Nat) : Int) + ((i + m : Nat) : Int)) = ((i * (ws.length + 1) + (i + m) : Nat) : Int) from by push_cast; rfl]
    refine rdi (ixn22 (fun _ => h2) hab) (rdi (ld3 (h3 i (i + m) (by omega) (by omega))) ?_)
    have hmin : minF F (m + 1) = minO (minF F m) (F m) := rfl
    have stay : F m = none → ∀ (f' : Sh.F), f' 13 = .int .i64 ((i + m : Nat) : Int) → f' 12 = .int .i64 (encM (minF F m)) → K8 f' w1 := fun hn f' q10 q9 => hK8 _ _ ⟨q10, rfl, by rw [hmin, hn]; exact q9⟩
    have take : ∀ n, F m = some n → ∀ (f' : Sh.F), f' 13 = .int .i64 ((i + m : Nat) : Int) → (better n (minF F m) = true → f' 12 = .int .i64 (n : Int)) → (¬ better n (minF F m) = true → f' 12 = .int .i64 (encM (minF F m))) → K8 f' w1 := fun n hn f' q10 q1 q2 => hK8 _ _ ⟨q10, rfl, by
      rw [hmin, hn]
      show f' 12 = .int .i64 (encM (if better n (minF F m) = true then some n else minF F m))
      by_cases hb : better n (minF F m) = true
      · rw [if_pos hb, q1 hb]; rfl
      · rw [if_neg hb, q2 hb]⟩
    cases ha : T A i (i + m) with
    | none =>
      simp only [enc0_n, decide_true, bin_add, bin_sub, bin_mul, bin_eql, bin_neq, bin_lss, bin_leq, bin_gtr, bin_geq, un_not, un_neg, pick_true, pick_false, extract_two_0, extract_two_1, nilCheck_pointer, cond_true', cond_false', guard_tt, guard_ff, guard_tf, guard_ft, guard_undef, seqQ_normal, seqQ_ret, seqQ_exit, blockQ_ret, blockQ_normal, blockQ_exit, bodyQ_ret, bodyQ_normal, resK_nil, resK_tmp, ite_T, ite_F, upd_at, add_plain, add_zero', len22, len35, len48, fa37_0, fa37_1, fa37_2, fa77_0, fa77_1, fa103_0, fa103_1, fa125_0, fa125_1, fa125_2, fa125_3, fa125_4, Nat.reduceEqDiff]
      exact stay (by rw [hF', ha]; rfl) _ h13 h12
    | some a =>
      have hpos := hP _ _ _ _ ha
      simp only [enc0_s, show ¬ ((a : Int) = 0) from by omega, decide_false, bin_add, bin_sub, bin_mul, bin_eql, bin_neq, bin_lss, bin_leq, bin_gtr, bin_geq, un_not, un_neg, pick_true, pick_false, extract_two_0, extract_two_1, nilCheck_pointer, cond_true', cond_false', guard_tt, guard_ff, guard_tf, guard_ft, guard_undef, seqQ_normal, seqQ_ret, seqQ_exit, blockQ_ret, blockQ_normal, blockQ_exit, bodyQ_ret, bodyQ_normal, resK_nil, resK_tmp, ite_T, ite_F, upd_at, add_plain, add_zero', len22, len35, len48, fa37_0, fa37_1, fa37_2, fa77_0, fa77_1, fa103_0, fa103_1, fa125_0, fa125_1, fa125_2, fa125_3, fa125_4, Nat.reduceEqDiff]
      refine rdi (sll22 (by decide) (by rw [List.length_cons]; omega)) ?_
      rw [show (1 : Int).toNat = 1 from rfl, List.length_cons, Nat.add_sub_cancel]
      refine ih hT hS hP hW hsub (by omega) (by omega) hx' hle hj ?_
      cases hb : restG (tokC ws) nl0 T xs (i + m) j with
      | none =>
        simp only [encM_n, show ¬ ((0 : Int) ≤ -1) from by omega, decide_false, bin_add, bin_sub, bin_mul, bin_eql, bin_neq, bin_lss, bin_leq, bin_gtr, bin_geq, un_not, un_neg, pick_true, pick_false, extract_two_0, extract_two_1, nilCheck_pointer, cond_true', cond_false', guard_tt, guard_ff, guard_tf, guard_ft, guard_undef, seqQ_normal, seqQ_ret, seqQ_exit, blockQ_ret, blockQ_normal, blockQ_exit, bodyQ_ret, bodyQ_normal, resK_nil, resK_tmp, ite_T, ite_F, upd_at, add_plain, add_zero', len22, len35, len48, fa37_0, fa37_1, fa37_2, fa77_0, fa77_1, fa103_0, fa103_1, fa125_0, fa125_1, fa125_2, fa125_3, fa125_4, Nat.reduceEqDiff]
        exact stay (by rw [hF', ha, hb]; rfl) _ h13 h12
      | some b =>
        have hFm : F m = some (a + b) := by rw [hF', ha, hb]; rfl
        have hsm := hFs m _ hle hFm
        simp only [encM_s, show ((0 : Int) ≤ (b : Int)) from by omega, decide_true, bin_add, bin_sub, bin_mul, bin_eql, bin_neq, bin_lss, bin_leq, bin_gtr, bin_geq, un_not, un_neg, pick_true, pick_false, extract_two_0, extract_two_1, nilCheck_pointer, cond_true', cond_false', guard_tt, guard_ff, guard_tf, guard_ft, guard_undef, seqQ_normal, seqQ_ret, seqQ_exit, blockQ_ret, blockQ_normal, blockQ_exit, bodyQ_ret, bodyQ_normal, resK_nil, resK_tmp, ite_T, ite_F, upd_at, add_plain, add_zero', len22, len35, len48, fa37_0, fa37_1, fa37_2, fa77_0, fa77_1, fa103_0, fa103_1, fa125_0, fa125_1, fa125_2, fa125_3, fa125_4, Nat.reduceEqDiff]
        cases ho : minF F m with
        | none =>
          rw [ho] at take
          simp only [encM_n, show ((-1 : Int) < 0) from by omega, decide_true, bin_add, bin_sub, bin_mul, bin_eql, bin_neq, bin_lss, bin_leq, bin_gtr, bin_geq, un_not, un_neg, pick_true, pick_false, extract_two_0, extract_two_1, nilCheck_pointer, cond_true', cond_false', guard_tt, guard_ff, guard_tf, guard_ft, guard_undef, seqQ_normal, seqQ_ret, seqQ_exit, blockQ_ret, blockQ_normal, blockQ_exit, bodyQ_ret, bodyQ_normal, resK_nil, resK_tmp, ite_T, ite_F, upd_at, add_plain, add_zero', len22, len35, len48, fa37_0, fa37_1, fa37_2, fa77_0, fa77_1, fa103_0, fa103_1, fa125_0, fa125_1, fa125_2, fa125_3, fa125_4, Nat.reduceEqDiff]
          rw [i64_of (by omega) (by omega)]
          exact take _ hFm _ h13 (fun _ => by show Value.int .i64 ((a : Int) + (b : Int)) = .int .i64 ((a + b : Nat) : Int); congr 1) (fun h => absurd rfl h)
        | some o =>
          rw [ho] at take
          simp only [encM_s, show ¬ ((o : Int) < 0) from by omega, decide_false, bin_add, bin_sub, bin_mul, bin_eql, bin_neq, bin_lss, bin_leq, bin_gtr, bin_geq, un_not, un_neg, pick_true, pick_false, extract_two_0, extract_two_1, nilCheck_pointer, cond_true', cond_false', guard_tt, guard_ff, guard_tf, guard_ft, guard_undef, seqQ_normal, seqQ_ret, seqQ_exit, blockQ_ret, blockQ_normal, blockQ_exit, bodyQ_ret, bodyQ_normal, resK_nil, resK_tmp, ite_T, ite_F, upd_at, add_plain, add_zero', len22, len35, len48, fa37_0, fa37_1, fa37_2, fa77_0, fa77_1, fa103_0, fa103_1, fa125_0, fa125_1, fa125_2, fa125_3, fa125_4, Nat.reduceEqDiff]
          rw [i64_of (by omega) (by omega)]
          by_cases hlt : a + b < o
          · simp only [show ((a : Int) + (b : Int) < (o : Int)) from by omega, decide_true, bin_add, bin_sub, bin_mul, bin_eql, bin_neq, bin_lss, bin_leq, bin_gtr, bin_geq, un_not, un_neg, pick_true, pick_false, extract_two_0, extract_two_1, nilCheck_pointer, cond_true', cond_false', guard_tt, guard_ff, guard_tf, guard_ft, guard_undef, seqQ_normal, seqQ_ret, seqQ_exit, blockQ_ret, blockQ_normal, blockQ_exit, bodyQ_ret, bodyQ_normal, resK_nil, resK_tmp, ite_T, ite_F, upd_at, add_plain, add_zero', len22, len35, len48, fa37_0, fa37_1, fa37_2, fa77_0, fa77_1, fa103_0, fa103_1, fa125_0, fa125_1, fa125_2, fa125_3, fa125_4, Nat.reduceEqDiff]
            exact take _ hFm _ h13 (fun _ => by show Value.int .i64 ((a : Int) + (b : Int)) = .int .i64 ((a + b : Nat) : Int); congr 1) (fun h => absurd (decide_eq_true hlt) h)
          · simp only [show ¬ ((a : Int) + (b : Int) < (o : Int)) from by omega, decide_false, bin_add, bin_sub, bin_mul, bin_eql, bin_neq, bin_lss, bin_leq, bin_gtr, bin_geq, un_not, un_neg, pick_true, pick_false, extract_two_0, extract_two_1, nilCheck_pointer, cond_true', cond_false', guard_tt, guard_ff, guard_tf, guard_ft, guard_undef, seqQ_normal, seqQ_ret, seqQ_exit, blockQ_ret, blockQ_normal, blockQ_exit, bodyQ_ret, bodyQ_normal, resK_nil, resK_tmp, ite_T, ite_F, upd_at, add_plain, add_zero', len22, len35, len48, fa37_0, fa37_1, fa37_2, fa77_0, fa77_1, fa103_0, fa103_1, fa125_0, fa125_1, fa125_2, fa125_3, fa125_4, Nat.reduceEqDiff]
            exact take _ hFm _ h13 (fun h => absurd (of_decide_eq_true h) hlt) (fun _ => by rw [← ho]; exact h12)
/-- The program's record: grammar, word, costs, best, what is known. -/
abbrev boxC (b : Nat) (gm : Gram) (Y : Option Addr) (cy : Nat) (X : Option Addr) (cx : Nat) (ws : List Int) (Z : Option Addr) (cz : Nat) (cs : List Int) (T : CT) (bm : Nat) : List Value :=
  .int .i64 gm.nons :: .int .i64 gm.toks :: .slice Y gm.rules.length cy :: .slice X ws.length cx :: .slice Z cs.length cz :: (cellsE 11 T ++ [.map (some bm)])
theorem boxC_at {b : Nat} {gm : Gram} {Y : Option Addr} {cy : Nat} {X : Option Addr} {cx : Nat} {ws : List Int} {Z : Option Addr} {cz : Nat} {cs : List Int} {T : CT} {bm A i j : Nat} (hA : A < 6) (hi : i < 11) (hj : j < 11) : (boxC b gm Y cy X cx ws Z cz cs T bm)[0 + 5 + A * 121 + i * 11 + j]? = some (.int .i64 (encM (T A i j))) := by
  rw [show 0 + 5 + A * 121 + i * 11 + j = A * (11 * 11) + (i * 11 + j) + 1 + 1 + 1 + 1 + 1 from by omega]
  simp only [boxC, List.getElem?_cons_succ]
  rw [List.getElem?_append_left (by rw [cellsE_length]; exact spot_lt hA hi hj)]
  exact cellsE_at hA hi hj
theorem costOne_c {w : World} {b : Nat} {gm : Gram} {Y X Z : Option Addr} {cy cx cz bm i j : Nat} {ws cs : List Int} {T : CT} {x : Int} (hB : Box w b (boxC b gm Y cy X cx ws Z cz cs T bm) 125) (hX : Ints w X ws) (hl : ws.length ≤ 10) (hw : ∀ t ∈ ws, 0 ≤ t ∧ t ≤ 100) (hx : -100 ≤ x ∧ x < 6) (hij : i ≤ j) (hj : j ≤ ws.length) {k : Value → World → Prop}
    (hk : k (.int .i64 (encM (oneG (tokC ws) T x i j))) w) :
    CallK Try.prog 184 [ptrv b, .int .i64 x, .int .i64 i, .int .i64 j] k w := by
  refine enter184 ?_
  unfold S184
  simp only [go_sem, Nat.reduceEqDiff]
  by_cases hx0 : x < 0
  case neg =>
    simp only [show (0 : Int) ≤ x from by omega, decide_true, go_sem, Nat.reduceEqDiff]
    obtain ⟨A, rfl⟩ : ∃ A : Nat, x = A := ⟨x.toNat, by omega⟩
    rw [ixa122 (by omega) (by omega), ixa121 (by omega) (by omega), ixa120 (by omega) (by omega)]
    simp only [Int.toNat_natCast, go_sem, Nat.reduceEqDiff]
    rw [ldB3 (off := 0 + 5 + A * 121 + i * 11 + j) hB (boxC_at (by omega) (by omega) (by omega))]
    rw [oneG, if_neg hx0, Int.toNat_natCast] at hk
    exact hk
  simp only [show ¬ (0 : Int) ≤ x from by omega, decide_false, go_sem, Nat.reduceEqDiff]
  rw [oneG, if_pos hx0, tokC] at hk
  rw [i64_of (by omega) (by omega)]
  by_cases hji : j = i + 1
  case neg =>
    simp only [show ¬ ((j : Int) = (i : Int) + 1) from by omega, decide_false, go_sem, Nat.reduceEqDiff]
    rw [if_neg (fun h => hji h.1)] at hk
    exact hk
  simp only [show ((j : Int) = (i : Int) + 1) from by omega, decide_true, go_sem, Nat.reduceEqDiff]
  rw [ldB22 hB rfl]
  refine rdi (ixn22 hX.ptr (by omega)) (rdi (ld3 (hX.cell i (by omega))) ?_)
  refine symbolOf_c ?_
  have hwi := hw _ (getD_mem (show i < ws.length by omega))
  rw [i64_of (by omega) (by omega)]
  simp only [go_sem, Nat.reduceEqDiff]
  by_cases he : ws.getD i 0 = -1 - x
  · simp only [show (-1 - ws.getD i 0 = x) from by omega, decide_true, go_sem, Nat.reduceEqDiff]
    rw [if_pos ⟨hji, he⟩] at hk
    exact hk
  · simp only [show ¬ (-1 - ws.getD i 0 = x) from by omega, decide_false, go_sem, Nat.reduceEqDiff]
    rw [if_neg (fun h => he h.2)] at hk
    exact hk
set_option maxHeartbeats 1600000 in
theorem costRest_c {ws : List Int} (hl : ws.length ≤ 10) (hw : ∀ t ∈ ws, 0 ≤ t ∧ t ≤ 100) : ∀ (xs : List Int) {w : World} {b : Nat} {gm : Gram} {Y X Z R : Option Addr} {cy cx cz bm cr : Nat} {cs : List Int} {T : CT} {i j : Nat} {k : Value → World → Prop}, Box w b (boxC b gm Y cy X cx ws Z cz cs T bm) 125 → SmallG T → Ints w X ws → Ints w R xs → xs.length ≤ cr → xs.length ≤ 4 → (∀ x ∈ xs, -100 ≤ x ∧ x < 6) → i ≤ j → j ≤ ws.length → k (.int .i64 (encM (restG (tokC ws) nl0 T xs i j))) w →
    CallK Try.prog 154 [ptrv b, .slice R xs.length cr, .int .i64 i, .int .i64 j] k w := by
  intro xs
  induction xs with
  | nil =>
    intro w b gm Y X Z R cy cx cz bm cr cs T i j k hB hS hX hR hcr h4 hx hij hj hk
    refine enter154 ?_
    unfold S154
    simp only [List.length_nil, show (((0 : Nat) : Int) = 0) from rfl, decide_true, go_sem, Nat.reduceEqDiff]
    rw [restG, nl0] at hk
    by_cases hij' : i = j
    · subst hij'
      rw [if_pos rfl] at hk
      simp only [decide_true, go_sem, Nat.reduceEqDiff]
      exact hk
    · rw [if_neg hij'] at hk
      simp only [show ¬ ((i : Int) = (j : Int)) from by omega, decide_false, go_sem, Nat.reduceEqDiff]
      exact hk
  | cons x xs ih =>
    intro w b gm Y X Z R cy cx cz bm cr cs T i j k hB hS hX hR hcr h4 hx hij hj hk
    refine enter154 ?_
    unfold S154
    have hxx := hx x (List.mem_cons_self ..)
    have hx' : ∀ y ∈ xs, -100 ≤ y ∧ y < 6 := fun y hy => hx y (List.mem_cons_of_mem _ hy)
    rw [List.length_cons] at hcr h4
    have hsub := hR.sub (l := 1) (c := cr) (by simp) (by simp; omega) xs.length
    rw [List.drop_one, List.tail_cons, List.take_length] at hsub
    simp only [show ¬ (((x :: xs).length : Int) = 0) from by rw [List.length_cons]; omega, decide_false, bin_add, bin_sub, bin_mul, bin_eql, bin_neq, bin_lss, bin_leq, bin_gtr, bin_geq, un_not, un_neg, pick_true, pick_false, extract_two_0, extract_two_1, nilCheck_pointer, cond_true', cond_false', guard_tt, guard_ff, guard_tf, guard_ft, guard_undef, seqQ_normal, seqQ_ret, seqQ_exit, blockQ_ret, blockQ_normal, blockQ_exit, bodyQ_ret, bodyQ_normal, resK_nil, resK_tmp, ite_T, ite_F, upd_at, add_plain, add_zero', len22, len35, len48, fa37_0, fa37_1, fa37_2, fa77_0, fa77_1, fa103_0, fa103_1, fa125_0, fa125_1, fa125_2, fa125_3, fa125_4, Nat.reduceEqDiff]
    rw [restG] at hk
    obtain ⟨F, hF⟩ : ∃ F, F = fun m => addO (oneG (tokC ws) T x i (i + m)) (restG (tokC ws) nl0 T xs (i + m) j) := ⟨_, rfl⟩
    rw [← hF] at hk
    have hF' : ∀ m, F m = addO (oneG (tokC ws) T x i (i + m)) (restG (tokC ws) nl0 T xs (i + m) j) := fun m => by rw [hF]
    have hFs : ∀ m n, i + m ≤ j → F m = some n → n ≤ 200000000 := fun m n hm h => by
      rw [hF'] at h
      obtain ⟨a, b, h1, h2, rfl⟩ := addO_some h
      have hb := rest_small hS (tokC_small ws) nl0_small (xs := xs) (by omega) hm (by omega) h2
      have ha := one_small hS (by omega) (by omega) h1
      omega
    clear hF
    refine loop_to (j + 1 - i) 0 (fun m f w' => m ≤ j + 1 - i ∧ f 10 = .int .i64 ((i + m : Nat) : Int) ∧ w' = w ∧ f 9 = .int .i64 (encM (minF F m)))
      ⟨Nat.zero_le _, rfl, rfl, rfl⟩ ?_
    rintro m f w1 N hag ⟨hm, h10, rfl, h9⟩ hN
    have f0 : f 0 = ptrv b := hag 0 (by decide)
    have f1 : f 1 = .slice R (x :: xs).length cr := hag 1 (by decide)
    have f2 : f 2 = .int .i64 i := hag 2 (by decide)
    have f3 : f 3 = .int .i64 j := hag 3 (by decide)
    simp only [f0, f1, f2, f3, h10, h9, bin_add, bin_sub, bin_mul, bin_eql, bin_neq, bin_lss, bin_leq, bin_gtr, bin_geq, un_not, un_neg, pick_true, pick_false, extract_two_0, extract_two_1, nilCheck_pointer, cond_true', cond_false', guard_tt, guard_ff, guard_tf, guard_ft, guard_undef, seqQ_normal, seqQ_ret, seqQ_exit, blockQ_ret, blockQ_normal, blockQ_exit, bodyQ_ret, bodyQ_normal, resK_nil, resK_tmp, ite_T, ite_F, upd_at, add_plain, add_zero', len22, len35, len48, fa37_0, fa37_1, fa37_2, fa77_0, fa77_1, fa103_0, fa103_1, fa125_0, fa125_1, fa125_2, fa125_3, fa125_4, Nat.reduceEqDiff]
    by_cases hle : i + m ≤ j
    case neg =>
      simp only [show ¬ (((i + m : Nat) : Int) ≤ j) from by omega, decide_false, go_sem, Nat.reduceEqDiff]
      obtain rfl : m = j + 1 - i := by omega
      exact hk
    simp only [show (((i + m : Nat) : Int) ≤ j) from by omega, decide_true, bin_add, bin_sub, bin_mul, bin_eql, bin_neq, bin_lss, bin_leq, bin_gtr, bin_geq, un_not, un_neg, pick_true, pick_false, extract_two_0, extract_two_1, nilCheck_pointer, cond_true', cond_false', guard_tt, guard_ff, guard_tf, guard_ft, guard_undef, seqQ_normal, seqQ_ret, seqQ_exit, blockQ_ret, blockQ_normal, blockQ_exit, bodyQ_ret, bodyQ_normal, resK_nil, resK_tmp, ite_T, ite_F, upd_at, add_plain, add_zero', len22, len35, len48, fa37_0, fa37_1, fa37_2, fa77_0, fa77_1, fa103_0, fa103_1, fa125_0, fa125_1, fa125_2, fa125_3, fa125_4, Nat.reduceEqDiff]
    refine join_as (fun g w' => g 10 = .int .i64 ((i + m : Nat) : Int) ∧ w' = w1 ∧ g 9 = .int .i64 (encM (minF F (m + 1)))) (fun K8 hK8 => ?_) ?_
    case refine_2 =>
      rintro g w' ⟨g10, rfl, g9⟩
      simp only [g10, go_sem, Nat.reduceEqDiff]
      rw [i64_of (by omega) (by omega)]
      exact hN _ _ (by omega) ⟨by omega, by show Value.int .i64 (((i + m : Nat) : Int) + 1) = _; congr 1, rfl, g9⟩
    refine rdi (ix22_0 hR.ptr (by simp)) (rdi (ld3 (hR.cell 0 (by simp))) ?_)
    simp only [List.getD_cons_zero, bin_add, bin_sub, bin_mul, bin_eql, bin_neq, bin_lss, bin_leq, bin_gtr, bin_geq, un_not, un_neg, pick_true, pick_false, extract_two_0, extract_two_1, nilCheck_pointer, cond_true', cond_false', guard_tt, guard_ff, guard_tf, guard_ft, guard_undef, seqQ_normal, seqQ_ret, seqQ_exit, blockQ_ret, blockQ_normal, blockQ_exit, bodyQ_ret, bodyQ_normal, resK_nil, resK_tmp, ite_T, ite_F, upd_at, add_plain, add_zero', len22, len35, len48, fa37_0, fa37_1, fa37_2, fa77_0, fa77_1, fa103_0, fa103_1, fa125_0, fa125_1, fa125_2, fa125_3, fa125_4, Nat.reduceEqDiff]
    refine costOne_c hB hX hl hw hxx (by omega) (by omega) ?_
    have hmin : minF F (m + 1) = minO (minF F m) (F m) := rfl
    have stay : F m = none → ∀ (f' : Sh.F), f' 10 = .int .i64 ((i + m : Nat) : Int) → f' 9 = .int .i64 (encM (minF F m)) → K8 f' w1 := fun hn f' q10 q9 => hK8 _ _ ⟨q10, rfl, by rw [hmin, hn]; exact q9⟩
    have take : ∀ n, F m = some n → ∀ (f' : Sh.F), f' 10 = .int .i64 ((i + m : Nat) : Int) → (better n (minF F m) = true → f' 9 = .int .i64 (n : Int)) → (¬ better n (minF F m) = true → f' 9 = .int .i64 (encM (minF F m))) → K8 f' w1 := fun n hn f' q10 q1 q2 => hK8 _ _ ⟨q10, rfl, by
      rw [hmin, hn]
      show f' 9 = .int .i64 (encM (if better n (minF F m) = true then some n else minF F m))
      by_cases hb : better n (minF F m) = true
      · rw [if_pos hb, q1 hb]; rfl
      · rw [if_neg hb, q2 hb]⟩
    cases ha : oneG (tokC ws) T x i (i + m) with
    | none =>
      simp only [encM_n, show ((-1 : Int) < 0) from by omega, decide_true, bin_add, bin_sub, bin_mul, bin_eql, bin_neq, bin_lss, bin_leq, bin_gtr, bin_geq, un_not, un_neg, pick_true, pick_false, extract_two_0, extract_two_1, nilCheck_pointer, cond_true', cond_false', guard_tt, guard_ff, guard_tf, guard_ft, guard_undef, seqQ_normal, seqQ_ret, seqQ_exit, blockQ_ret, blockQ_normal, blockQ_exit, bodyQ_ret, bodyQ_normal, resK_nil, resK_tmp, ite_T, ite_F, upd_at, add_plain, add_zero', len22, len35, len48, fa37_0, fa37_1, fa37_2, fa77_0, fa77_1, fa103_0, fa103_1, fa125_0, fa125_1, fa125_2, fa125_3, fa125_4, Nat.reduceEqDiff]
      exact stay (by rw [hF', ha]; rfl) _ h10 h9
    | some a =>
      simp only [encM_s, show ¬ ((a : Int) < 0) from by omega, decide_false, bin_add, bin_sub, bin_mul, bin_eql, bin_neq, bin_lss, bin_leq, bin_gtr, bin_geq, un_not, un_neg, pick_true, pick_false, extract_two_0, extract_two_1, nilCheck_pointer, cond_true', cond_false', guard_tt, guard_ff, guard_tf, guard_ft, guard_undef, seqQ_normal, seqQ_ret, seqQ_exit, blockQ_ret, blockQ_normal, blockQ_exit, bodyQ_ret, bodyQ_normal, resK_nil, resK_tmp, ite_T, ite_F, upd_at, add_plain, add_zero', len22, len35, len48, fa37_0, fa37_1, fa37_2, fa77_0, fa77_1, fa103_0, fa103_1, fa125_0, fa125_1, fa125_2, fa125_3, fa125_4, Nat.reduceEqDiff]
      refine rdi (sll22 (by decide) (by rw [List.length_cons]; omega)) ?_
      rw [show (1 : Int).toNat = 1 from rfl, List.length_cons, Nat.add_sub_cancel]
      refine ih hB hS hX hsub (by omega) (by omega) hx' hle hj ?_
      cases hb : restG (tokC ws) nl0 T xs (i + m) j with
      | none =>
        simp only [encM_n, show ¬ ((0 : Int) ≤ -1) from by omega, decide_false, bin_add, bin_sub, bin_mul, bin_eql, bin_neq, bin_lss, bin_leq, bin_gtr, bin_geq, un_not, un_neg, pick_true, pick_false, extract_two_0, extract_two_1, nilCheck_pointer, cond_true', cond_false', guard_tt, guard_ff, guard_tf, guard_ft, guard_undef, seqQ_normal, seqQ_ret, seqQ_exit, blockQ_ret, blockQ_normal, blockQ_exit, bodyQ_ret, bodyQ_normal, resK_nil, resK_tmp, ite_T, ite_F, upd_at, add_plain, add_zero', len22, len35, len48, fa37_0, fa37_1, fa37_2, fa77_0, fa77_1, fa103_0, fa103_1, fa125_0, fa125_1, fa125_2, fa125_3, fa125_4, Nat.reduceEqDiff]
        exact stay (by rw [hF', ha, hb]; rfl) _ h10 h9
      | some b =>
        have hFm : F m = some (a + b) := by rw [hF', ha, hb]; rfl
        have hsm := hFs m _ hle hFm
        simp only [encM_s, show ((0 : Int) ≤ (b : Int)) from by omega, decide_true, bin_add, bin_sub, bin_mul, bin_eql, bin_neq, bin_lss, bin_leq, bin_gtr, bin_geq, un_not, un_neg, pick_true, pick_false, extract_two_0, extract_two_1, nilCheck_pointer, cond_true', cond_false', guard_tt, guard_ff, guard_tf, guard_ft, guard_undef, seqQ_normal, seqQ_ret, seqQ_exit, blockQ_ret, blockQ_normal, blockQ_exit, bodyQ_ret, bodyQ_normal, resK_nil, resK_tmp, ite_T, ite_F, upd_at, add_plain, add_zero', len22, len35, len48, fa37_0, fa37_1, fa37_2, fa77_0, fa77_1, fa103_0, fa103_1, fa125_0, fa125_1, fa125_2, fa125_3, fa125_4, Nat.reduceEqDiff]
        cases ho : minF F m with
        | none =>
          rw [ho] at take
          simp only [encM_n, show ((-1 : Int) < 0) from by omega, decide_true, bin_add, bin_sub, bin_mul, bin_eql, bin_neq, bin_lss, bin_leq, bin_gtr, bin_geq, un_not, un_neg, pick_true, pick_false, extract_two_0, extract_two_1, nilCheck_pointer, cond_true', cond_false', guard_tt, guard_ff, guard_tf, guard_ft, guard_undef, seqQ_normal, seqQ_ret, seqQ_exit, blockQ_ret, blockQ_normal, blockQ_exit, bodyQ_ret, bodyQ_normal, resK_nil, resK_tmp, ite_T, ite_F, upd_at, add_plain, add_zero', len22, len35, len48, fa37_0, fa37_1, fa37_2, fa77_0, fa77_1, fa103_0, fa103_1, fa125_0, fa125_1, fa125_2, fa125_3, fa125_4, Nat.reduceEqDiff]
          rw [i64_of (by omega) (by omega)]
          exact take _ hFm _ h10 (fun _ => by show Value.int .i64 ((a : Int) + (b : Int)) = .int .i64 ((a + b : Nat) : Int); congr 1) (fun h => absurd rfl h)
        | some o =>
          rw [ho] at take
          simp only [encM_s, show ¬ ((o : Int) < 0) from by omega, decide_false, bin_add, bin_sub, bin_mul, bin_eql, bin_neq, bin_lss, bin_leq, bin_gtr, bin_geq, un_not, un_neg, pick_true, pick_false, extract_two_0, extract_two_1, nilCheck_pointer, cond_true', cond_false', guard_tt, guard_ff, guard_tf, guard_ft, guard_undef, seqQ_normal, seqQ_ret, seqQ_exit, blockQ_ret, blockQ_normal, blockQ_exit, bodyQ_ret, bodyQ_normal, resK_nil, resK_tmp, ite_T, ite_F, upd_at, add_plain, add_zero', len22, len35, len48, fa37_0, fa37_1, fa37_2, fa77_0, fa77_1, fa103_0, fa103_1, fa125_0, fa125_1, fa125_2, fa125_3, fa125_4, Nat.reduceEqDiff]
          rw [i64_of (by omega) (by omega)]
          by_cases hlt : a + b < o
          · simp only [show ((a : Int) + (b : Int) < (o : Int)) from by omega, decide_true, bin_add, bin_sub, bin_mul, bin_eql, bin_neq, bin_lss, bin_leq, bin_gtr, bin_geq, un_not, un_neg, pick_true, pick_false, extract_two_0, extract_two_1, nilCheck_pointer, cond_true', cond_false', guard_tt, guard_ff, guard_tf, guard_ft, guard_undef, seqQ_normal, seqQ_ret, seqQ_exit, blockQ_ret, blockQ_normal, blockQ_exit, bodyQ_ret, bodyQ_normal, resK_nil, resK_tmp, ite_T, ite_F, upd_at, add_plain, add_zero', len22, len35, len48, fa37_0, fa37_1, fa37_2, fa77_0, fa77_1, fa103_0, fa103_1, fa125_0, fa125_1, fa125_2, fa125_3, fa125_4, Nat.reduceEqDiff]
            exact take _ hFm _ h10 (fun _ => by show Value.int .i64 ((a : Int) + (b : Int)) = .int .i64 ((a + b : Nat) : Int); congr 1) (fun h => absurd (decide_eq_true hlt) h)
          · simp only [show ¬ ((a : Int) + (b : Int) < (o : Int)) from by omega, decide_false, bin_add, bin_sub, bin_mul, bin_eql, bin_neq, bin_lss, bin_leq, bin_gtr, bin_geq, un_not, un_neg, pick_true, pick_false, extract_two_0, extract_two_1, nilCheck_pointer, cond_true', cond_false', guard_tt, guard_ff, guard_tf, guard_ft, guard_undef, seqQ_normal, seqQ_ret, seqQ_exit, blockQ_ret, blockQ_normal, blockQ_exit, bodyQ_ret, bodyQ_normal, resK_nil, resK_tmp, ite_T, ite_F, upd_at, add_plain, add_zero', len22, len35, len48, fa37_0, fa37_1, fa37_2, fa77_0, fa77_1, fa103_0, fa103_1, fa125_0, fa125_1, fa125_2, fa125_3, fa125_4, Nat.reduceEqDiff]
            exact take _ hFm _ h10 (fun h => absurd (of_decide_eq_true h) hlt) (fun _ => by rw [← ho]; exact h9)
end Go.Proofs.Ytiohaeckagjebaa

/- Bh: bodies of functions as terms of the frame calculus, printed by shgen.py of this repository. -/
set_option linter.unusedVariables false
set_option maxRecDepth 100000
namespace Go.Proofs.Ytiohaeckagjebaa
open Go Go.Sh

/-! loop.example/g00758/laws.FnExactLeastMend -/
/-! loop.example/g00758/laws.FnExactMendTable -/
/-! loop.example/g00758/spec.LeastMend -/
/-! loop.example/g00758/impl.LeastMend -/
/-! loop.example/g00758/spec.MendTable -/
/-! loop.example/g00758/impl.MendTable -/
/-! loop.example/g00758/spec.l17Word -/
/-! loop.example/g00758/spec.l17Table -/
/-! (loop.example/g00758/impl.Grammar).mends -/
/-! loop.example/g00758/spec.l17Row -/
/-! (*loop.example/g00758/impl.mending).rest -/
/-! loop.example/g00758/spec.l17Token -/
/-! (*loop.example/g00758/impl.mending).one -/
/-! slices.Contains[[]int,int] -/
/-! slices.Index[[]int,int] -/
end Go.Proofs.Ytiohaeckagjebaa

/- Contracts: how few changes make a token, a row of symbols (the reference's l17Token, l17Row). -/
set_option linter.unusedVariables false
set_option linter.unusedSimpArgs false
set_option maxRecDepth 100000
namespace Go.Sh
open Go
end Go.Sh
namespace Go.Proofs.Ytiohaeckagjebaa
open Go Go.Sh Go.RowKit
end Go.Proofs.Ytiohaeckagjebaa

/- Contract: the reference's table of mending (l17Table). -/
set_option linter.unusedVariables false
set_option linter.unusedSimpArgs false
set_option maxRecDepth 100000
namespace Go.Sh
open Go
section
variable {c : CandG} {rs : List RuleL} {n : Nat}
theorem stepG_none {q i j : Nat} {s : GS} (h : c s.1 q i j = none) : stepG c rs q i s j = s := by
  unfold stepG
  rw [h]
theorem stepG_put {q i j m : Nat} {s : GS} (h : c s.1 q i j = some m) (hb : better m (s.1 (rul rs q).1.toNat i j) = true) : stepG c rs q i s j = (s.1.put (rul rs q).1.toNat i j m, true) := by
  unfold stepG
  rw [h]
  dsimp only
  rw [if_pos hb]
theorem stepG_stay {q i j m : Nat} {s : GS} (h : c s.1 q i j = some m) (hb : ¬ better m (s.1 (rul rs q).1.toNat i j) = true) : stepG c rs q i s j = s := by
  unfold stepG
  rw [h]
  dsimp only
  rw [if_neg hb]
end
theorem part_set (nn a : Nat) (u v : Value) (h : a < nn) : (List.replicate a u ++ List.replicate (nn - a) v).set a u = List.replicate (a + 1) u ++ List.replicate (nn - (a + 1)) v := by
  rw [List.set_append_right _ _ (by simp), List.length_replicate, Nat.sub_self, show nn - a = nn - (a + 1) + 1 from by omega, List.replicate_succ (n := nn - (a + 1)), List.set_cons_zero, List.replicate_succ', List.append_assoc]
  rfl
theorem good_rules {gm : Gram} (hg : goodG gm = true) : ∀ q, q < gm.rules.length → (rul gm.rules q).1.toNat < 6 ∧ (rul gm.rules q).2.length ≤ 4 := fun q hq => by
  have h1 := good_left hg hq
  have h2 := good_nons hg
  exact ⟨by omega, good_rule hg q hq⟩
end Go.Sh
namespace Go.Proofs.Ytiohaeckagjebaa
open Go Go.Sh Go.RowKit
end Go.Proofs.Ytiohaeckagjebaa

/- Contract: the reference's table of least costs (l12Table). -/
set_option linter.unusedVariables false
set_option linter.unusedSimpArgs false
set_option maxRecDepth 100000
namespace Go.Sh
open Go
/-- Small, and at least 1. -/
def FineC (T : CT) : Prop := SmallG T ∧ PosG T
section
variable {ws cs : List Int} {rs : List RuleL} {n : Nat}
theorem stepC_drop (hO : OfferG (candC rs ws cs) rs n) (hp : ∀ q, q < rs.length → 0 < costQ cs q) {q i j : Nat} (hq : q < rs.length) (hij : i ≤ j) (hj : j < n) {s : GS} (hs : FineC s.1) : FineC (stepG (candC rs ws cs) rs q i s j).1 ∧ DropG s (stepG (candC rs ws cs) rs q i s j) := by
  obtain ⟨h1, h2⟩ := stepG_drop hO hq hij hj hs.1
  refine ⟨⟨h1, ?_⟩, h2⟩
  unfold stepG
  split
  · exact hs.2
  · rename_i m hm
    split
    · exact posG_put hs.2 (candC_pos (hp q hq) hm)
    · exact hs.2
theorem rowC_drop (hO : OfferG (candC rs ws cs) rs n) (hp : ∀ q, q < rs.length → 0 < costQ cs q) {q : Nat} (hq : q < rs.length) {s : GS} (hs : FineC s.1) (i : Nat) : FineC (rowG (candC rs ws cs) rs n q s i).1 ∧ DropG s (rowG (candC rs ws cs) rs n q s i) :=
  DropG.fold (I := FineC) (fun j hj s hs => by
    rw [List.mem_range'_1] at hj
    exact stepC_drop hO hp hq hj.1 (by omega) hs) hs
theorem ruleC_drop (hO : OfferG (candC rs ws cs) rs n) (hp : ∀ q, q < rs.length → 0 < costQ cs q) {q : Nat} (hq : q < rs.length) {s : GS} (hs : FineC s.1) : FineC (ruleG (candC rs ws cs) rs n s q).1 ∧ DropG s (ruleG (candC rs ws cs) rs n s q) :=
  DropG.fold (I := FineC) (fun i hi s hs => rowC_drop hO hp hq hs i) hs
theorem passC_drop (hO : OfferG (candC rs ws cs) rs n) (hp : ∀ q, q < rs.length → 0 < costQ cs q) {s : GS} (hs : FineC s.1) : FineC (passG (candC rs ws cs) rs n s).1 ∧ DropG s (passG (candC rs ws cs) rs n s) :=
  DropG.fold (I := FineC) (fun q hq s hs => ruleC_drop hO hp (List.mem_range.1 hq) hs) hs
theorem fine_rules (hO : OfferG (candC rs ws cs) rs n) (hp : ∀ q, q < rs.length → 0 < costQ cs q) {s : GS} (hs : FineC s.1) {q : Nat} (hq : q ≤ rs.length) : FineC ((List.range q).foldl (ruleG (candC rs ws cs) rs n) s).1 :=
  (DropG.fold (I := FineC) (fun q' hq' s hs => ruleC_drop hO hp (by have := List.mem_range.1 hq'; omega) hs) hs).1
theorem fine_rows (hO : OfferG (candC rs ws cs) rs n) (hp : ∀ q, q < rs.length → 0 < costQ cs q) {s : GS} (hs : FineC s.1) {q a : Nat} (hq : q < rs.length) : FineC ((List.range a).foldl (rowG (candC rs ws cs) rs n q) s).1 :=
  (DropG.fold (I := FineC) (fun i hi s hs => rowC_drop hO hp hq hs i) hs).1
theorem fine_steps (hO : OfferG (candC rs ws cs) rs n) (hp : ∀ q, q < rs.length → 0 < costQ cs q) {s : GS} (hs : FineC s.1) {q a b : Nat} (hq : q < rs.length) (hb : b ≤ n) : FineC ((List.range' a (b - a)).foldl (stepG (candC rs ws cs) rs q a) s).1 :=
  (DropG.fold (I := FineC) (fun j hj s hs => by
    rw [List.mem_range'_1] at hj
    exact stepC_drop hO hp hq hj.1 (by omega) hs) hs).1
theorem fineC_none : FineC noCT := ⟨smallG_none, posG_none⟩
end
/-- Costs that are asked for. -/
structure CostsOk (gm : Gram) (cs : List Int) : Prop where
  len : cs.length = gm.rules.length
  all : ∀ c ∈ cs, 1 ≤ c ∧ c ≤ 100
theorem CostsOk.at {gm : Gram} {cs : List Int} (h : CostsOk gm cs) {q : Nat} (hq : q < gm.rules.length) : cs.getD q 0 = (costQ cs q : Int) ∧ 0 < costQ cs q ∧ costQ cs q ≤ 100 := by
  have hq' : q < cs.length := by rw [h.len]; exact hq
  have hm : cs.getD q 0 ∈ cs := by
    rw [List.getD_eq_getElem?_getD, List.getElem?_eq_getElem hq', Option.getD_some]
    exact List.getElem_mem hq'
  have := h.all _ hm
  unfold costQ
  omega
theorem candC_none {rs : List RuleL} {ws cs : List Int} {T : CT} {q i j : Nat} (h : restG (tokC ws) nl0 T (rul rs q).2 i j = none) : candC rs ws cs T q i j = none := by
  unfold candC
  rw [h]
  rfl
theorem candC_some {rs : List RuleL} {ws cs : List Int} {T : CT} {q i j r : Nat} (h : restG (tokC ws) nl0 T (rul rs q).2 i j = some r) : candC rs ws cs T q i j = some (r + costQ cs q) := by
  unfold candC
  rw [h]
  rfl
end Go.Sh
namespace Go.Proofs.Ytiohaeckagjebaa
open Go Go.Sh Go.RowKit
set_option maxHeartbeats 3200000 in
theorem l12Table_c {F : Nat → Prop} {w : World} {v : Value} {gm : Gram} {X Q : Option Addr} {cx n0 cq m0 : Nat} {ws cs : List Int} (hv : GramV F w v gm) (hg : goodG gm = true) (hQ : Ints w Q cs) (hm0 : m0 = cs.length) (hcs : CostsOk gm cs) (hX : Ints w X ws) (hn : n0 = ws.length) (hl : ws.length ≤ 10) (hw : ∀ t ∈ ws, 0 ≤ t ∧ t ≤ 100) {k : Value → World → Prop}
    (hk : ∀ w' U c nons T, Gr w w' → gm.nons = (nons : Nat) → TabE enc0 w' U nons (ws.length + 1) T → FineC T → FixG (candC gm.rules ws cs) gm.rules (ws.length + 1) noCT T → k (.slice U nons c) w') :
    CallK Try.prog 113 [v, .slice Q m0 cq, .slice X n0 cx] k w := by
  subst hn hm0
  obtain ⟨Y, cy, rfl, hc, hy⟩ := hv
  have hn6 := good_nons hg
  have hr16 := good_len hg
  have hleft6 := good_left6 hg
  obtain ⟨nons, hnn⟩ : ∃ n : Nat, gm.nons = n := ⟨gm.nons.toNat, by omega⟩
  refine enter113 ?_
  unfold S113
  have H := Apt.nil w
  refine boxH H fun b1 w1 H => ?_
  rw [hnn] at H
  simp only [bin_add, bin_sub, bin_mul, bin_eql, bin_neq, bin_lss, bin_leq, bin_gtr, bin_geq, un_not, un_neg, pick_true, pick_false, extract_two_0, extract_two_1, nilCheck_pointer, cond_true', cond_false', guard_tt, guard_ff, guard_tf, guard_ft, guard_undef, seqQ_normal, seqQ_ret, seqQ_exit, blockQ_ret, blockQ_normal, blockQ_exit, bodyQ_ret, bodyQ_normal, resK_nil, resK_tmp, ite_T, ite_F, upd_at, add_plain, add_zero', len22, len35, len48, fa37_0, fa37_1, fa37_2, fa77_0, fa77_1, fa103_0, fa103_1, fa125_0, fa125_1, fa125_2, fa125_3, fa125_4, Nat.reduceEqDiff]
  rw [ldB3 (H.box 0 rfl) rfl]
  rw [i64_of (by omega) (by omega)]
  refine makeH H u48 inf22 (by omega) (by omega) fun b2 w2 H => ?_
  rw [show (Value.slice none 0 0).cells = #[.slice none 0 0] from rfl, madeCells_one] at H
  have H := H.nilVV 1 3 rfl
  simp only [List.nil_append, List.cons_append, List.set_cons_zero, List.set_cons_succ] at H
  simp only [bin_add, bin_sub, bin_mul, bin_eql, bin_neq, bin_lss, bin_leq, bin_gtr, bin_geq, un_not, un_neg, pick_true, pick_false, extract_two_0, extract_two_1, nilCheck_pointer, cond_true', cond_false', guard_tt, guard_ff, guard_tf, guard_ft, guard_undef, seqQ_normal, seqQ_ret, seqQ_exit, blockQ_ret, blockQ_normal, blockQ_exit, bodyQ_ret, bodyQ_normal, resK_nil, resK_tmp, ite_T, ite_F, upd_at, add_plain, add_zero', len22, len35, len48, fa37_0, fa37_1, fa37_2, fa77_0, fa77_1, fa103_0, fa103_1, fa125_0, fa125_1, fa125_2, fa125_3, fa125_4, Nat.reduceEqDiff]
  generalize hN : ws.length + 1 = n at *
  have hNi : ((ws.length : Int) + 1) = (n : Int) := by omega
  rw [hNi]
  have hnn11 : n * n ≤ 11 * 11 := Nat.mul_le_mul (by omega) (by omega)
  have hrl : (rowsE enc0 noCT nons n).length = nons := rowsE_length _ _
  refine loop_to nons 0 (fun i f w' => i ≤ nons ∧ f 24 = .int .i64 i ∧ ∃ (ps : Nat → Option Addr × Nat), Apt w w' [bx b1 [.int .i64 nons, .int .i64 gm.toks, .slice Y gm.rules.length cy] 37, vvi 22 3 (some ⟨b2, 0, none⟩) nons ((rowsE enc0 noCT nons n).take i ++ (List.replicate nons []).drop i) ps])
    ⟨Nat.zero_le _, rfl, _, by rw [List.take_zero, List.drop_zero, List.nil_append]; exact H⟩ ?_
  rintro i f w3 N hag ⟨hi, h24, ps, H⟩ hN'
  have f23 : f 23 = .int .i64 nons := hag 23 (by decide)
  have f7 : f 7 = .int .i64 n := hag 7 (by decide)
  have f8 : f 8 = .slice (some ⟨b2, 0, none⟩) nons nons := hag 8 (by decide)
  have f3 : f 3 = ptrv b1 := hag 3 (by decide)
  have f2 : f 2 = .slice X ws.length cx := hag 2 (by decide)
  have f1 : f 1 = .slice Q cs.length cq := hag 1 (by decide)
  simp only [f23, f7, f8, h24, bin_add, bin_sub, bin_mul, bin_eql, bin_neq, bin_lss, bin_leq, bin_gtr, bin_geq, un_not, un_neg, pick_true, pick_false, extract_two_0, extract_two_1, nilCheck_pointer, cond_true', cond_false', guard_tt, guard_ff, guard_tf, guard_ft, guard_undef, seqQ_normal, seqQ_ret, seqQ_exit, blockQ_ret, blockQ_normal, blockQ_exit, bodyQ_ret, bodyQ_normal, resK_nil, resK_tmp, ite_T, ite_F, upd_at, add_plain, add_zero', len22, len35, len48, fa37_0, fa37_1, fa37_2, fa77_0, fa77_1, fa103_0, fa103_1, fa125_0, fa125_1, fa125_2, fa125_3, fa125_4, Nat.reduceEqDiff]
  by_cases hlt : i < nons
  · simp only [show (i : Int) < nons from by omega, decide_true, bin_add, bin_sub, bin_mul, bin_eql, bin_neq, bin_lss, bin_leq, bin_gtr, bin_geq, un_not, un_neg, pick_true, pick_false, extract_two_0, extract_two_1, nilCheck_pointer, cond_true', cond_false', guard_tt, guard_ff, guard_tf, guard_ft, guard_undef, seqQ_normal, seqQ_ret, seqQ_exit, blockQ_ret, blockQ_normal, blockQ_exit, bodyQ_ret, bodyQ_normal, resK_nil, resK_tmp, ite_T, ite_F, upd_at, add_plain, add_zero', len22, len35, len48, fa37_0, fa37_1, fa37_2, fa77_0, fa77_1, fa103_0, fa103_1, fa125_0, fa125_1, fa125_2, fa125_3, fa125_4, Nat.reduceEqDiff]
    rw [show (n : Int) * (n : Int) = ((n * n : Nat) : Int) from by push_cast; rfl, i64_of (by omega) (by omega)]
    refine makeH H (n := n * n) u22 inf3 (by omega) (by omega) fun b3 w4 H => ?_
    rw [show (Value.int .i64 0).cells = #[.int .i64 0] from rfl, madeCells_one] at H
    rw [ixn48 (fun _ => rfl) hlt]
    refine setRowVV H 1 2 i (by decide) rfl rfl (by simp) (by decide) sz22 (by simp; omega) fun w5 ps' H => ?_
    have H := H.erase 2
    simp only [List.nil_append, List.cons_append, List.set_cons_zero, List.set_cons_succ, List.eraseIdx_cons_zero, List.eraseIdx_cons_succ] at H
    rw [show List.replicate (n * n) (Value.int .i64 0) = rowE enc0 noCT n i from (rowE_none enc0 n i).symm, set_td (by simp; omega) (by simp [hrl]) (by simp [rowsE, hlt])] at H
    rw [i64_of (by omega) (by omega)]
    exact hN' _ _ hlt ⟨hlt, rfl, ps', H⟩
  have hin : i = nons := by omega
  simp only [show ¬ ((i : Int) < nons) from by omega, decide_false, bin_add, bin_sub, bin_mul, bin_eql, bin_neq, bin_lss, bin_leq, bin_gtr, bin_geq, un_not, un_neg, pick_true, pick_false, extract_two_0, extract_two_1, nilCheck_pointer, cond_true', cond_false', guard_tt, guard_ff, guard_tf, guard_ft, guard_undef, seqQ_normal, seqQ_ret, seqQ_exit, blockQ_ret, blockQ_normal, blockQ_exit, bodyQ_ret, bodyQ_normal, resK_nil, resK_tmp, ite_T, ite_F, upd_at, add_plain, add_zero', len22, len35, len48, fa37_0, fa37_1, fa37_2, fa77_0, fa77_1, fa103_0, fa103_1, fa125_0, fa125_1, fa125_2, fa125_3, fa125_4, Nat.reduceEqDiff]
  rw [hin, List.drop_eq_nil_of_le (by simp), List.append_nil, List.take_of_length_le (by rw [hrl]; exact Nat.le_refl _)] at H
  clear hN' hin h24 hi hlt
  have hO := offerC (ws := ws) (cs := cs) (good_rules hg) (n := n) (by omega) (fun q hq => (hcs.at hq).2.2)
  have hp0 : ∀ q, q < gm.rules.length → 0 < costQ cs q := fun q hq => (hcs.at hq).2.1
  refine loop_ghost (fun (s : GS) f w' => fixSt (candC gm.rules ws cs) gm.rules n s ∧ FineC s.1 ∧ f 10 = .bool s.2 ∧ ∃ (ps : Nat → Option Addr × Nat), Apt w w' [bx b1 [.int .i64 nons, .int .i64 gm.toks, .slice Y gm.rules.length cy] 37, vvi 22 3 (some ⟨b2, 0, none⟩) nons (rowsE enc0 s.1 nons n) ps]) (fun s => if s.2 = true then sumG s.1 + 1 else 0) (noCT, true)
    ⟨by unfold fixSt; rw [if_pos rfl]; exact fun U h => h, fineC_none, rfl, ps, H⟩ ?_
  clear H
  rintro ⟨T, more⟩ fr w6 N2 hag2 ⟨hst, hS, h10, ps, H⟩ hN2
  have f3' : fr 3 = ptrv b1 := (hag2 3 (by decide)).trans f3
  have f8' : fr 8 = .slice (some ⟨b2, 0, none⟩) nons nons := (hag2 8 (by decide)).trans f8
  have f7' : fr 7 = .int .i64 n := (hag2 7 (by decide)).trans f7
  have f2' : fr 2 = .slice X ws.length cx := (hag2 2 (by decide)).trans f2
  have f1' : fr 1 = .slice Q cs.length cq := (hag2 1 (by decide)).trans f1
  simp only [h10, f3', bin_add, bin_sub, bin_mul, bin_eql, bin_neq, bin_lss, bin_leq, bin_gtr, bin_geq, un_not, un_neg, pick_true, pick_false, extract_two_0, extract_two_1, nilCheck_pointer, cond_true', cond_false', guard_tt, guard_ff, guard_tf, guard_ft, guard_undef, seqQ_normal, seqQ_ret, seqQ_exit, blockQ_ret, blockQ_normal, blockQ_exit, bodyQ_ret, bodyQ_normal, resK_nil, resK_tmp, ite_T, ite_F, upd_at, add_plain, add_zero', len22, len35, len48, fa37_0, fa37_1, fa37_2, fa77_0, fa77_1, fa103_0, fa103_1, fa125_0, fa125_1, fa125_2, fa125_3, fa125_4, Nat.reduceEqDiff]
  cases more
  · simp only [bin_add, bin_sub, bin_mul, bin_eql, bin_neq, bin_lss, bin_leq, bin_gtr, bin_geq, un_not, un_neg, pick_true, pick_false, extract_two_0, extract_two_1, nilCheck_pointer, cond_true', cond_false', guard_tt, guard_ff, guard_tf, guard_ft, guard_undef, seqQ_normal, seqQ_ret, seqQ_exit, blockQ_ret, blockQ_normal, blockQ_exit, bodyQ_ret, bodyQ_normal, resK_nil, resK_tmp, ite_T, ite_F, upd_at, add_plain, add_zero', len22, len35, len48, fa37_0, fa37_1, fa37_2, fa77_0, fa77_1, fa103_0, fa103_1, fa125_0, fa125_1, fa125_2, fa125_3, fa125_4, Nat.reduceEqDiff]
    rw [f8']
    refine hk _ _ nons _ T H.gr hnn ((H.vv 1 rfl).tabE (by omega)) hS ?_
    unfold fixSt at hst
    rw [if_neg Bool.false_ne_true] at hst
    exact hst
  simp only [bin_add, bin_sub, bin_mul, bin_eql, bin_neq, bin_lss, bin_leq, bin_gtr, bin_geq, un_not, un_neg, pick_true, pick_false, extract_two_0, extract_two_1, nilCheck_pointer, cond_true', cond_false', guard_tt, guard_ff, guard_tf, guard_ft, guard_undef, seqQ_normal, seqQ_ret, seqQ_exit, blockQ_ret, blockQ_normal, blockQ_exit, bodyQ_ret, bodyQ_normal, resK_nil, resK_tmp, ite_T, ite_F, upd_at, add_plain, add_zero', len22, len35, len48, fa37_0, fa37_1, fa37_2, fa77_0, fa77_1, fa103_0, fa103_1, fa125_0, fa125_1, fa125_2, fa125_3, fa125_4, Nat.reduceEqDiff]
  rw [ldB35 (H.box 0 rfl) rfl]
  simp only [bin_add, bin_sub, bin_mul, bin_eql, bin_neq, bin_lss, bin_leq, bin_gtr, bin_geq, un_not, un_neg, pick_true, pick_false, extract_two_0, extract_two_1, nilCheck_pointer, cond_true', cond_false', guard_tt, guard_ff, guard_tf, guard_ft, guard_undef, seqQ_normal, seqQ_ret, seqQ_exit, blockQ_ret, blockQ_normal, blockQ_exit, bodyQ_ret, bodyQ_normal, resK_nil, resK_tmp, ite_T, ite_F, upd_at, add_plain, add_zero', len22, len35, len48, fa37_0, fa37_1, fa37_2, fa77_0, fa77_1, fa103_0, fa103_1, fa125_0, fa125_1, fa125_2, fa125_3, fa125_4, Nat.reduceEqDiff]
  refine loop_to gm.rules.length 0 (fun q f w' => q ≤ gm.rules.length ∧ f 39 = .int .i64 q ∧ f 10 = .bool ((List.range q).foldl (ruleG (candC gm.rules ws cs) gm.rules n) (T, false)).2 ∧ ∃ (ps : Nat → Option Addr × Nat), Apt w w' [bx b1 [.int .i64 nons, .int .i64 gm.toks, .slice Y gm.rules.length cy] 37, vvi 22 3 (some ⟨b2, 0, none⟩) nons (rowsE enc0 ((List.range q).foldl (ruleG (candC gm.rules ws cs) gm.rules n) (T, false)).1 nons n) ps])
    ⟨Nat.zero_le _, rfl, rfl, ps, H⟩ ?_
  clear H
  rintro q g1 w7 N3 hag3 ⟨hq, h39, h10', ps, H⟩ hN3
  have e37 : g1 37 = .slice Y gm.rules.length cy := hag3 37 (by decide)
  have e38 : g1 38 = .int .i64 gm.rules.length := hag3 38 (by decide)
  have e7 : g1 7 = .int .i64 n := (hag3 7 (by decide)).trans f7'
  have e8 : g1 8 = .slice (some ⟨b2, 0, none⟩) nons nons := (hag3 8 (by decide)).trans f8'
  have e2 : g1 2 = .slice X ws.length cx := (hag3 2 (by decide)).trans f2'
  have e1 : g1 1 = .slice Q cs.length cq := (hag3 1 (by decide)).trans f1'
  simp only [e37, e38, h39, bin_add, bin_sub, bin_mul, bin_eql, bin_neq, bin_lss, bin_leq, bin_gtr, bin_geq, un_not, un_neg, pick_true, pick_false, extract_two_0, extract_two_1, nilCheck_pointer, cond_true', cond_false', guard_tt, guard_ff, guard_tf, guard_ft, guard_undef, seqQ_normal, seqQ_ret, seqQ_exit, blockQ_ret, blockQ_normal, blockQ_exit, bodyQ_ret, bodyQ_normal, resK_nil, resK_tmp, ite_T, ite_F, upd_at, add_plain, add_zero', len22, len35, len48, fa37_0, fa37_1, fa37_2, fa77_0, fa77_1, fa103_0, fa103_1, fa125_0, fa125_1, fa125_2, fa125_3, fa125_4, Nat.reduceEqDiff]
  by_cases hlq : q < gm.rules.length
  case neg =>
    simp only [show ¬ ((q : Int) < gm.rules.length) from by omega, decide_false, bin_add, bin_sub, bin_mul, bin_eql, bin_neq, bin_lss, bin_leq, bin_gtr, bin_geq, un_not, un_neg, pick_true, pick_false, extract_two_0, extract_two_1, nilCheck_pointer, cond_true', cond_false', guard_tt, guard_ff, guard_tf, guard_ft, guard_undef, seqQ_normal, seqQ_ret, seqQ_exit, blockQ_ret, blockQ_normal, blockQ_exit, bodyQ_ret, bodyQ_normal, resK_nil, resK_tmp, ite_T, ite_F, upd_at, add_plain, add_zero', len22, len35, len48, fa37_0, fa37_1, fa37_2, fa77_0, fa77_1, fa103_0, fa103_1, fa125_0, fa125_1, fa125_2, fa125_3, fa125_4, Nat.reduceEqDiff]
    obtain rfl : q = gm.rules.length := by omega
    obtain ⟨hS', hdrop⟩ := passC_drop hO hp0 (s := (T, false)) hS
    refine hN2 (passG (candC gm.rules ws cs) gm.rules n (T, false)) _ _ ⟨fixSt_next hst, hS', h10', ps, H⟩ ?_
    rw [if_pos rfl]
    rcases hdrop with he | ⟨h1, h2⟩
    · rw [he, if_neg Bool.false_ne_true]
      omega
    · rw [if_pos h1]
      dsimp only at h2 ⊢
      omega
  simp only [show ((q : Int) < gm.rules.length) from by omega, decide_true, bin_add, bin_sub, bin_mul, bin_eql, bin_neq, bin_lss, bin_leq, bin_gtr, bin_geq, un_not, un_neg, pick_true, pick_false, extract_two_0, extract_two_1, nilCheck_pointer, cond_true', cond_false', guard_tt, guard_ff, guard_tf, guard_ft, guard_undef, seqQ_normal, seqQ_ret, seqQ_exit, blockQ_ret, blockQ_normal, blockQ_exit, bodyQ_ret, bodyQ_normal, resK_nil, resK_tmp, ite_T, ite_F, upd_at, add_plain, add_zero', len22, len35, len48, fa37_0, fa37_1, fa37_2, fa77_0, fa77_1, fa103_0, fa103_1, fa125_0, fa125_1, fa125_2, fa125_3, fa125_4, Nat.reduceEqDiff]
  obtain ⟨Z, cz, t1, t2, t3, t4⟩ := hy.row q hlq
  have hleft := good_left hg hlq
  have hright := good_right hg hlq
  have hR4 := good_rule hg q hlq
  obtain ⟨xl, hxl⟩ : ∃ x : Nat, (rul gm.rules q).1 = x := ⟨(rul gm.rules q).1.toNat, by omega⟩
  rw [hxl] at t1 hleft
  refine rdi (ixn35 hy.ptr hlq) ?_
  rw [ld_agg agg77 sz77 (cs := [.int .i64 xl, .slice Z (rul gm.rules q).2.length cz]) rfl (fun j hj => by
    match j, hj with
    | 0, _ => rw [add_add, Nat.add_zero]; exact H.gr.cell t1
    | 1, _ => rw [add_add]; exact H.gr.cell t2)]
  refine allocH H inf77 fun b3 w8 H => ?_
  refine storeH H 2 rfl sz77 rfl rfl rfl fun w9 H => ?_
  simp only [List.nil_append, List.cons_append, List.set_cons_zero, List.set_cons_succ] at H
  have hS0 := fine_rules hO hp0 (s := (T, false)) hS hq
  generalize hs0 : (List.range q).foldl (ruleG (candC gm.rules ws cs) gm.rules n) (T, false) = s0 at *
  refine loop_to n 0 (fun a f w' => a ≤ n ∧ f 13 = .int .i64 a ∧ f 10 = .bool ((List.range a).foldl (rowG (candC gm.rules ws cs) gm.rules n q) s0).2 ∧ ∃ (ps : Nat → Option Addr × Nat), Apt w w' [bx b1 [.int .i64 nons, .int .i64 gm.toks, .slice Y gm.rules.length cy] 37, vvi 22 3 (some ⟨b2, 0, none⟩) nons (rowsE enc0 ((List.range a).foldl (rowG (candC gm.rules ws cs) gm.rules n q) s0).1 nons n) ps, bx b3 [.int .i64 xl, .slice Z (rul gm.rules q).2.length cz] 77])
    ⟨Nat.zero_le _, rfl, h10', ps, H⟩ ?_
  clear H
  rintro a g2 w10 N4 hag4 ⟨ha, h13, h10a, ps, H⟩ hN4
  have k7 : g2 7 = .int .i64 n := (hag4 7 (by decide)).trans e7
  have k8 : g2 8 = .slice (some ⟨b2, 0, none⟩) nons nons := (hag4 8 (by decide)).trans e8
  have k2 : g2 2 = .slice X ws.length cx := (hag4 2 (by decide)).trans e2
  have k1 : g2 1 = .slice Q cs.length cq := (hag4 1 (by decide)).trans e1
  have k12 : g2 12 = ptrv b3 := hag4 12 (by decide)
  have k11 : g2 11 = .int .i64 q := hag4 11 (by decide)
  have k39 : g2 39 = .int .i64 q := (hag4 39 (by decide)).trans h39
  simp only [k7, h13, k39, bin_add, bin_sub, bin_mul, bin_eql, bin_neq, bin_lss, bin_leq, bin_gtr, bin_geq, un_not, un_neg, pick_true, pick_false, extract_two_0, extract_two_1, nilCheck_pointer, cond_true', cond_false', guard_tt, guard_ff, guard_tf, guard_ft, guard_undef, seqQ_normal, seqQ_ret, seqQ_exit, blockQ_ret, blockQ_normal, blockQ_exit, bodyQ_ret, bodyQ_normal, resK_nil, resK_tmp, ite_T, ite_F, upd_at, add_plain, add_zero', len22, len35, len48, fa37_0, fa37_1, fa37_2, fa77_0, fa77_1, fa103_0, fa103_1, fa125_0, fa125_1, fa125_2, fa125_3, fa125_4, Nat.reduceEqDiff]
  by_cases hla : a < n
  case neg =>
    simp only [show ¬ ((a : Int) < n) from by omega, decide_false, bin_add, bin_sub, bin_mul, bin_eql, bin_neq, bin_lss, bin_leq, bin_gtr, bin_geq, un_not, un_neg, pick_true, pick_false, extract_two_0, extract_two_1, nilCheck_pointer, cond_true', cond_false', guard_tt, guard_ff, guard_tf, guard_ft, guard_undef, seqQ_normal, seqQ_ret, seqQ_exit, blockQ_ret, blockQ_normal, blockQ_exit, bodyQ_ret, bodyQ_normal, resK_nil, resK_tmp, ite_T, ite_F, upd_at, add_plain, add_zero', len22, len35, len48, fa37_0, fa37_1, fa37_2, fa77_0, fa77_1, fa103_0, fa103_1, fa125_0, fa125_1, fa125_2, fa125_3, fa125_4, Nat.reduceEqDiff]
    rw [i64_of (by omega) (by omega)]
    have han : a = n := by omega
    rw [han] at h10a H
    have hstep : (List.range (q + 1)).foldl (ruleG (candC gm.rules ws cs) gm.rules n) (T, false) = (List.range n).foldl (rowG (candC gm.rules ws cs) gm.rules n q) s0 := by
      rw [foldl_range, hs0]
      rfl
    refine hN3 _ _ hlq ⟨hlq, rfl, ?_, ps, ?_⟩
    · rw [hstep]
      exact h10a
    · rw [hstep]
      exact H.take 2
  simp only [show ((a : Int) < n) from by omega, decide_true, bin_add, bin_sub, bin_mul, bin_eql, bin_neq, bin_lss, bin_leq, bin_gtr, bin_geq, un_not, un_neg, pick_true, pick_false, extract_two_0, extract_two_1, nilCheck_pointer, cond_true', cond_false', guard_tt, guard_ff, guard_tf, guard_ft, guard_undef, seqQ_normal, seqQ_ret, seqQ_exit, blockQ_ret, blockQ_normal, blockQ_exit, bodyQ_ret, bodyQ_normal, resK_nil, resK_tmp, ite_T, ite_F, upd_at, add_plain, add_zero', len22, len35, len48, fa37_0, fa37_1, fa37_2, fa77_0, fa77_1, fa103_0, fa103_1, fa125_0, fa125_1, fa125_2, fa125_3, fa125_4, Nat.reduceEqDiff]
  have hS1 := fine_rows hO hp0 hS0 (a := a) hlq
  generalize hs1 : (List.range a).foldl (rowG (candC gm.rules ws cs) gm.rules n q) s0 = s1 at *
  refine loop_to n a (fun b f w' => a ≤ b ∧ b ≤ n ∧ f 14 = .int .i64 b ∧ f 10 = .bool ((List.range' a (b - a)).foldl (Sh.stepG (candC gm.rules ws cs) gm.rules q a) s1).2 ∧ ∃ (ps : Nat → Option Addr × Nat), Apt w w' [bx b1 [.int .i64 nons, .int .i64 gm.toks, .slice Y gm.rules.length cy] 37, vvi 22 3 (some ⟨b2, 0, none⟩) nons (rowsE enc0 ((List.range' a (b - a)).foldl (Sh.stepG (candC gm.rules ws cs) gm.rules q a) s1).1 nons n) ps, bx b3 [.int .i64 xl, .slice Z (rul gm.rules q).2.length cz] 77])
    ⟨Nat.le_refl _, by omega, rfl, by rw [Nat.sub_self]; exact h10a, ps, by rw [Nat.sub_self]; exact H⟩ ?_
  clear H
  rintro b g3 w11 N5 hag5 ⟨hb1, hb2, h14, h10b, ps, H⟩ hN5
  have m7 : g3 7 = .int .i64 n := (hag5 7 (by decide)).trans k7
  have m8 : g3 8 = .slice (some ⟨b2, 0, none⟩) nons nons := (hag5 8 (by decide)).trans k8
  have m2 : g3 2 = .slice X ws.length cx := (hag5 2 (by decide)).trans k2
  have m1 : g3 1 = .slice Q cs.length cq := (hag5 1 (by decide)).trans k1
  have m12 : g3 12 = ptrv b3 := (hag5 12 (by decide)).trans k12
  have m11 : g3 11 = .int .i64 q := (hag5 11 (by decide)).trans k11
  have m13 : g3 13 = .int .i64 a := (hag5 13 (by decide)).trans h13
  simp only [m7, m8, m2, m1, m12, m11, m13, h14, bin_add, bin_sub, bin_mul, bin_eql, bin_neq, bin_lss, bin_leq, bin_gtr, bin_geq, un_not, un_neg, pick_true, pick_false, extract_two_0, extract_two_1, nilCheck_pointer, cond_true', cond_false', guard_tt, guard_ff, guard_tf, guard_ft, guard_undef, seqQ_normal, seqQ_ret, seqQ_exit, blockQ_ret, blockQ_normal, blockQ_exit, bodyQ_ret, bodyQ_normal, resK_nil, resK_tmp, ite_T, ite_F, upd_at, add_plain, add_zero', len22, len35, len48, fa37_0, fa37_1, fa37_2, fa77_0, fa77_1, fa103_0, fa103_1, fa125_0, fa125_1, fa125_2, fa125_3, fa125_4, Nat.reduceEqDiff]
  by_cases hlb : b < n
  case neg =>
    simp only [show ¬ ((b : Int) < n) from by omega, decide_false, bin_add, bin_sub, bin_mul, bin_eql, bin_neq, bin_lss, bin_leq, bin_gtr, bin_geq, un_not, un_neg, pick_true, pick_false, extract_two_0, extract_two_1, nilCheck_pointer, cond_true', cond_false', guard_tt, guard_ff, guard_tf, guard_ft, guard_undef, seqQ_normal, seqQ_ret, seqQ_exit, blockQ_ret, blockQ_normal, blockQ_exit, bodyQ_ret, bodyQ_normal, resK_nil, resK_tmp, ite_T, ite_F, upd_at, add_plain, add_zero', len22, len35, len48, fa37_0, fa37_1, fa37_2, fa77_0, fa77_1, fa103_0, fa103_1, fa125_0, fa125_1, fa125_2, fa125_3, fa125_4, Nat.reduceEqDiff]
    rw [i64_of (by omega) (by omega)]
    have hbn : b = n := by omega
    rw [hbn] at h10b H
    have hstep : (List.range (a + 1)).foldl (rowG (candC gm.rules ws cs) gm.rules n q) s0 = (List.range' a (n - a)).foldl (Sh.stepG (candC gm.rules ws cs) gm.rules q a) s1 := by
      rw [foldl_range, hs1]
      rfl
    refine hN4 _ _ hla ⟨hla, rfl, ?_, ps, ?_⟩
    · rw [hstep]
      exact h10b
    · rw [hstep]
      exact H
  simp only [show ((b : Int) < n) from by omega, decide_true, bin_add, bin_sub, bin_mul, bin_eql, bin_neq, bin_lss, bin_leq, bin_gtr, bin_geq, un_not, un_neg, pick_true, pick_false, extract_two_0, extract_two_1, nilCheck_pointer, cond_true', cond_false', guard_tt, guard_ff, guard_tf, guard_ft, guard_undef, seqQ_normal, seqQ_ret, seqQ_exit, blockQ_ret, blockQ_normal, blockQ_exit, bodyQ_ret, bodyQ_normal, resK_nil, resK_tmp, ite_T, ite_F, upd_at, add_plain, add_zero', len22, len35, len48, fa37_0, fa37_1, fa37_2, fa77_0, fa77_1, fa103_0, fa103_1, fa125_0, fa125_1, fa125_2, fa125_3, fa125_4, Nat.reduceEqDiff]
  have hstep : (List.range' a (b + 1 - a)).foldl (Sh.stepG (candC gm.rules ws cs) gm.rules q a) s1 = Sh.stepG (candC gm.rules ws cs) gm.rules q a ((List.range' a (b - a)).foldl (Sh.stepG (candC gm.rules ws cs) gm.rules q a) s1) b := by
    rw [show b + 1 - a = b - a + 1 from by omega, foldl_range', show a + (b - a) = b from by omega]
  have hS2 := fine_steps hO hp0 hS1 (a := a) hlq hb2
  generalize hs2 : (List.range' a (b - a)).foldl (Sh.stepG (candC gm.rules ws cs) gm.rules q a) s1 = s2 at *
  have hxn : xl < nons := by omega
  have hab := place_lt (n := n) (show a < n by omega) hlb
  have hT := (H.vv 1 rfl).tabE (by omega)
  have hxr : xl < (rowsE enc0 s2.1 nons n).length := by rw [rowsE_length]; exact hxn
  have hcell := (H.vv 1 rfl).cell hxr
  have hown := (H.vv 1 rfl).own xl hxr
  rw [vls_rowsE hxn, rowE_length] at hcell hown
  have hR0 : (ps xl).1 = some (ad (ps xl).1) := hown.ptr (by omega)
  have hab' : (a : Int) * (n : Int) = ((a * n : Nat) : Int) := by push_cast; rfl
  have hidx : IntKind.i64.wrap (IntKind.i64.wrap ((a : Int) * (n : Int)) + (b : Int)) = ((a * n + b : Nat) : Int) := by
    rw [hab', i64_of (n := ((a * n : Nat) : Int)) (by omega) (by omega), i64_of (by omega) (by omega)]
    rfl
  refine join_as (fun g w' => g 14 = .int .i64 (b : Int) ∧ g 10 = .bool (Sh.stepG (candC gm.rules ws cs) gm.rules q a s2 b).2 ∧ ∃ (ps : Nat → Option Addr × Nat), Apt w w' [bx b1 [.int .i64 nons, .int .i64 gm.toks, .slice Y gm.rules.length cy] 37, vvi 22 3 (some ⟨b2, 0, none⟩) nons (rowsE enc0 (Sh.stepG (candC gm.rules ws cs) gm.rules q a s2 b).1 nons n) ps, bx b3 [.int .i64 xl, .slice Z (rul gm.rules q).2.length cz] 77]) (fun K hK => ?_) ?_
  case refine_2 =>
    rintro g w' ⟨g14, g10, ps, H⟩
    simp only [g14, go_sem, Nat.reduceEqDiff]
    rw [i64_of (by omega) (by omega)]
    refine hN5 _ _ hlb ⟨by omega, hlb, rfl, ?_, ps, ?_⟩
    · rw [hstep]
      exact g10
    · rw [hstep]
      exact H
  rw [ldB22 (H.box 2 rfl) rfl]
  rw [← hN] at hT
  refine l10Best_c hl hw (by omega) (rul gm.rules q).2 hT hS2.1 hS2.2 (hX.gr H.gr) (t4.is.gr H.gr) t3 hR4 (fun x hx => by have := hright x hx; omega) hb1 (by omega) ?_
  have H := H.drew
  have hcell := (H.vv 1 rfl).cell hxr
  have hown := (H.vv 1 rfl).own xl hxr
  rw [vls_rowsE hxn, rowE_length] at hcell hown
  obtain ⟨hcq, hc0, hc1⟩ := hcs.at hlq
  have hQc := (hQ.gr H.gr).cell q (by rw [hcs.len]; exact hlq)
  rw [hcq] at hQc
  have hQp : 0 < cs.length → Q = some (ad Q) := hQ.ptr
  have hql : q < cs.length := by rw [hcs.len]; exact hlq
  have stay : Sh.stepG (candC gm.rules ws cs) gm.rules q a s2 b = s2 → ∀ f', f' 14 = .int .i64 (b : Int) → f' 10 = .bool s2.2 → K f' w11.drew := fun he f' q13 q9 => hK f' _ ⟨q13, by rw [he]; exact q9, ps, by rw [he]; exact H⟩
  cases hr : restG (tokC ws) nl0 s2.1 (rul gm.rules q).2 a b with
  | none =>
    simp only [encM_n, show ¬ ((0 : Int) ≤ -1) from by omega, decide_false, bin_add, bin_sub, bin_mul, bin_eql, bin_neq, bin_lss, bin_leq, bin_gtr, bin_geq, un_not, un_neg, pick_true, pick_false, extract_two_0, extract_two_1, nilCheck_pointer, cond_true', cond_false', guard_tt, guard_ff, guard_tf, guard_ft, guard_undef, seqQ_normal, seqQ_ret, seqQ_exit, blockQ_ret, blockQ_normal, blockQ_exit, bodyQ_ret, bodyQ_normal, resK_nil, resK_tmp, ite_T, ite_F, upd_at, add_plain, add_zero', len22, len35, len48, fa37_0, fa37_1, fa37_2, fa77_0, fa77_1, fa103_0, fa103_1, fa125_0, fa125_1, fa125_2, fa125_3, fa125_4, Nat.reduceEqDiff]
    exact stay (stepG_none (candC_none hr)) _ h14 h10b
  | some r =>
    have hcand := candC_some (cs := cs) hr
    have hrs := rest_small hS2.1 (tokC_small ws) nl0_small hR4 hb1 (by omega) hr
    simp only [encM_s, show ((0 : Int) ≤ (r : Int)) from by omega, decide_true, bin_add, bin_sub, bin_mul, bin_eql, bin_neq, bin_lss, bin_leq, bin_gtr, bin_geq, un_not, un_neg, pick_true, pick_false, extract_two_0, extract_two_1, nilCheck_pointer, cond_true', cond_false', guard_tt, guard_ff, guard_tf, guard_ft, guard_undef, seqQ_normal, seqQ_ret, seqQ_exit, blockQ_ret, blockQ_normal, blockQ_exit, bodyQ_ret, bodyQ_normal, resK_nil, resK_tmp, ite_T, ite_F, upd_at, add_plain, add_zero', len22, len35, len48, fa37_0, fa37_1, fa37_2, fa77_0, fa77_1, fa103_0, fa103_1, fa125_0, fa125_1, fa125_2, fa125_3, fa125_4, Nat.reduceEqDiff]
    rw [ldB3 (H.box 2 rfl) rfl]
    refine rdi (ixn48 (fun _ => rfl) hxn) (rdi (ld22 hcell) ?_)
    rw [hidx]
    refine rdi (ixn22 (fun _ => hR0) hab) (rdi (ld3 (hown.src.cell _ _ (rowE_at hla hlb))) ?_)
    have put : better (r + costQ cs q) (s2.1 xl a b) = true → ∀ (f' : Sh.F) (w' : World), f' 14 = .int .i64 (b : Int) → f' 10 = .bool true → Apt w w' [bx b1 [.int .i64 nons, .int .i64 gm.toks, .slice Y gm.rules.length cy] 37, vvi 22 3 (some ⟨b2, 0, none⟩) nons ((rowsE enc0 s2.1 nons n).set xl ((vls (rowsE enc0 s2.1 nons n) xl).set (a * n + b) (.int .i64 (enc0 (some (r + costQ cs q)))))) ps, bx b3 [.int .i64 xl, .slice Z (rul gm.rules q).2.length cz] 77] → K f' w' := fun hb f' w' q13 q9 H' => by
      have he := stepG_put (rs := gm.rules) hcand (by rw [hxl, Int.toNat_natCast]; exact hb)
      rw [hxl, Int.toNat_natCast] at he
      rw [rowsE_put hxn hla hlb] at H'
      exact hK f' w' ⟨q13, by rw [he]; exact q9, ps, by rw [he]; exact H'⟩
    have dont : ¬ better (r + costQ cs q) (s2.1 xl a b) = true → Sh.stepG (candC gm.rules ws cs) gm.rules q a s2 b = s2 := fun hb => stepG_stay hcand (by rw [hxl, Int.toNat_natCast]; exact hb)
    have henc : (r : Int) + (costQ cs q : Int) = enc0 (some (r + costQ cs q)) := by rw [enc0_s]; push_cast; rfl
    cases ho : s2.1 xl a b with
    | none =>
      simp only [enc0_n, decide_true, bin_add, bin_sub, bin_mul, bin_eql, bin_neq, bin_lss, bin_leq, bin_gtr, bin_geq, un_not, un_neg, pick_true, pick_false, extract_two_0, extract_two_1, nilCheck_pointer, cond_true', cond_false', guard_tt, guard_ff, guard_tf, guard_ft, guard_undef, seqQ_normal, seqQ_ret, seqQ_exit, blockQ_ret, blockQ_normal, blockQ_exit, bodyQ_ret, bodyQ_normal, resK_nil, resK_tmp, ite_T, ite_F, upd_at, add_plain, add_zero', len22, len35, len48, fa37_0, fa37_1, fa37_2, fa77_0, fa77_1, fa103_0, fa103_1, fa125_0, fa125_1, fa125_2, fa125_3, fa125_4, Nat.reduceEqDiff]
      have H := H.drew
      have hcell := (H.vv 1 rfl).cell hxr
      rw [vls_rowsE hxn, rowE_length] at hcell
      have hQc := (hQ.gr H.gr).cell q (by rw [hcs.len]; exact hlq)
      rw [hcq] at hQc
      rw [ldB3 (H.box 2 rfl) rfl]
      refine rdi (ixn48 (fun _ => rfl) hxn) (rdi (ld22 hcell) ?_)
      refine rdi (ixn22 hQp hql) (rdi (ld3 hQc) ?_)
      simp only [bin_add, bin_sub, bin_mul, bin_eql, bin_neq, bin_lss, bin_leq, bin_gtr, bin_geq, un_not, un_neg, pick_true, pick_false, extract_two_0, extract_two_1, nilCheck_pointer, cond_true', cond_false', guard_tt, guard_ff, guard_tf, guard_ft, guard_undef, seqQ_normal, seqQ_ret, seqQ_exit, blockQ_ret, blockQ_normal, blockQ_exit, bodyQ_ret, bodyQ_normal, resK_nil, resK_tmp, ite_T, ite_F, upd_at, add_plain, add_zero', len22, len35, len48, fa37_0, fa37_1, fa37_2, fa77_0, fa77_1, fa103_0, fa103_1, fa125_0, fa125_1, fa125_2, fa125_3, fa125_4, Nat.reduceEqDiff]
      rw [i64_of (n := (r : Int) + (costQ cs q : Int)) (by omega) (by omega), henc]
      refine rdi (ixn22 (fun _ => hR0) hab) ?_
      refine storeVV H 1 xl (m := a * n + b) rfl (by decide) sz3 rfl rfl hxr (by rw [vls_rowsE hxn, rowE_length]; exact hab) fun w12 H => ?_
      simp only [List.nil_append, List.cons_append, List.set_cons_zero, List.set_cons_succ] at H
      exact put (by rw [ho]; rfl) _ _ h14 rfl H
    | some o =>
      have hpos := hS2.2 _ _ _ _ ho
      simp only [enc0_s, show ¬ ((o : Int) = 0) from by omega, decide_false, bin_add, bin_sub, bin_mul, bin_eql, bin_neq, bin_lss, bin_leq, bin_gtr, bin_geq, un_not, un_neg, pick_true, pick_false, extract_two_0, extract_two_1, nilCheck_pointer, cond_true', cond_false', guard_tt, guard_ff, guard_tf, guard_ft, guard_undef, seqQ_normal, seqQ_ret, seqQ_exit, blockQ_ret, blockQ_normal, blockQ_exit, bodyQ_ret, bodyQ_normal, resK_nil, resK_tmp, ite_T, ite_F, upd_at, add_plain, add_zero', len22, len35, len48, fa37_0, fa37_1, fa37_2, fa77_0, fa77_1, fa103_0, fa103_1, fa125_0, fa125_1, fa125_2, fa125_3, fa125_4, Nat.reduceEqDiff]
      have hcv := hown.src.cell _ _ (rowE_at (enc := enc0) (T := s2.1) (x := xl) hla hlb)
      rw [ho, enc0_s] at hcv
      refine rdi (ixn22 hQp hql) (rdi (ld3 hQc) ?_)
      simp only [bin_add, bin_sub, bin_mul, bin_eql, bin_neq, bin_lss, bin_leq, bin_gtr, bin_geq, un_not, un_neg, pick_true, pick_false, extract_two_0, extract_two_1, nilCheck_pointer, cond_true', cond_false', guard_tt, guard_ff, guard_tf, guard_ft, guard_undef, seqQ_normal, seqQ_ret, seqQ_exit, blockQ_ret, blockQ_normal, blockQ_exit, bodyQ_ret, bodyQ_normal, resK_nil, resK_tmp, ite_T, ite_F, upd_at, add_plain, add_zero', len22, len35, len48, fa37_0, fa37_1, fa37_2, fa77_0, fa77_1, fa103_0, fa103_1, fa125_0, fa125_1, fa125_2, fa125_3, fa125_4, Nat.reduceEqDiff]
      rw [i64_of (n := (r : Int) + (costQ cs q : Int)) (by omega) (by omega)]
      rw [ldB3 (H.box 2 rfl) rfl]
      refine rdi (ixn48 (fun _ => rfl) hxn) (rdi (ld22 hcell) ?_)
      rw [hidx]
      refine rdi (ixn22 (fun _ => hR0) hab) (rdi (ld3 hcv) ?_)
      simp only [bin_add, bin_sub, bin_mul, bin_eql, bin_neq, bin_lss, bin_leq, bin_gtr, bin_geq, un_not, un_neg, pick_true, pick_false, extract_two_0, extract_two_1, nilCheck_pointer, cond_true', cond_false', guard_tt, guard_ff, guard_tf, guard_ft, guard_undef, seqQ_normal, seqQ_ret, seqQ_exit, blockQ_ret, blockQ_normal, blockQ_exit, bodyQ_ret, bodyQ_normal, resK_nil, resK_tmp, ite_T, ite_F, upd_at, add_plain, add_zero', len22, len35, len48, fa37_0, fa37_1, fa37_2, fa77_0, fa77_1, fa103_0, fa103_1, fa125_0, fa125_1, fa125_2, fa125_3, fa125_4, Nat.reduceEqDiff]
      by_cases hmo : r + costQ cs q < o
      · simp only [show ((r : Int) + (costQ cs q : Int) < (o : Int)) from by omega, decide_true, bin_add, bin_sub, bin_mul, bin_eql, bin_neq, bin_lss, bin_leq, bin_gtr, bin_geq, un_not, un_neg, pick_true, pick_false, extract_two_0, extract_two_1, nilCheck_pointer, cond_true', cond_false', guard_tt, guard_ff, guard_tf, guard_ft, guard_undef, seqQ_normal, seqQ_ret, seqQ_exit, blockQ_ret, blockQ_normal, blockQ_exit, bodyQ_ret, bodyQ_normal, resK_nil, resK_tmp, ite_T, ite_F, upd_at, add_plain, add_zero', len22, len35, len48, fa37_0, fa37_1, fa37_2, fa77_0, fa77_1, fa103_0, fa103_1, fa125_0, fa125_1, fa125_2, fa125_3, fa125_4, Nat.reduceEqDiff]
        have H := H.drew
        have hcell := (H.vv 1 rfl).cell hxr
        rw [vls_rowsE hxn, rowE_length] at hcell
        have hQc := (hQ.gr H.gr).cell q (by rw [hcs.len]; exact hlq)
        rw [hcq] at hQc
        rw [ldB3 (H.box 2 rfl) rfl]
        refine rdi (ixn48 (fun _ => rfl) hxn) (rdi (ld22 hcell) ?_)
        refine rdi (ixn22 hQp hql) (rdi (ld3 hQc) ?_)
        simp only [bin_add, bin_sub, bin_mul, bin_eql, bin_neq, bin_lss, bin_leq, bin_gtr, bin_geq, un_not, un_neg, pick_true, pick_false, extract_two_0, extract_two_1, nilCheck_pointer, cond_true', cond_false', guard_tt, guard_ff, guard_tf, guard_ft, guard_undef, seqQ_normal, seqQ_ret, seqQ_exit, blockQ_ret, blockQ_normal, blockQ_exit, bodyQ_ret, bodyQ_normal, resK_nil, resK_tmp, ite_T, ite_F, upd_at, add_plain, add_zero', len22, len35, len48, fa37_0, fa37_1, fa37_2, fa77_0, fa77_1, fa103_0, fa103_1, fa125_0, fa125_1, fa125_2, fa125_3, fa125_4, Nat.reduceEqDiff]
        rw [i64_of (n := (r : Int) + (costQ cs q : Int)) (by omega) (by omega), henc]
        refine rdi (ixn22 (fun _ => hR0) hab) ?_
        refine storeVV H 1 xl (m := a * n + b) rfl (by decide) sz3 rfl rfl hxr (by rw [vls_rowsE hxn, rowE_length]; exact hab) fun w12 H => ?_
        simp only [List.nil_append, List.cons_append, List.set_cons_zero, List.set_cons_succ] at H
        exact put (by rw [ho]; exact decide_eq_true hmo) _ _ h14 rfl H
      · simp only [show ¬ ((r : Int) + (costQ cs q : Int) < (o : Int)) from by omega, decide_false, bin_add, bin_sub, bin_mul, bin_eql, bin_neq, bin_lss, bin_leq, bin_gtr, bin_geq, un_not, un_neg, pick_true, pick_false, extract_two_0, extract_two_1, nilCheck_pointer, cond_true', cond_false', guard_tt, guard_ff, guard_tf, guard_ft, guard_undef, seqQ_normal, seqQ_ret, seqQ_exit, blockQ_ret, blockQ_normal, blockQ_exit, bodyQ_ret, bodyQ_normal, resK_nil, resK_tmp, ite_T, ite_F, upd_at, add_plain, add_zero', len22, len35, len48, fa37_0, fa37_1, fa37_2, fa77_0, fa77_1, fa103_0, fa103_1, fa125_0, fa125_1, fa125_2, fa125_3, fa125_4, Nat.reduceEqDiff]
        exact stay (dont (by rw [ho]; intro h; exact hmo (of_decide_eq_true h))) _ h14 h10b
end Go.Proofs.Ytiohaeckagjebaa

/- Bo: bodies of functions as terms of the frame calculus, printed by shgen.py of this repository. -/
set_option linter.unusedVariables false
set_option maxRecDepth 100000
namespace Go.Proofs.Ytiohaeckagjebaa
open Go Go.Sh

/-! loop.example/g00758/laws.FnExactBestTree -/
def pl21 : Plans := fun i => match i with
  | 16 => ⟨true, [3], .step 0 .held (.step 1 .held (.step 2 .one (.step 3 .last (.step 4 .any (.nil)))))⟩
  | _ => ⟨false, [], .nil⟩
def S21 (v0 v1 v2 : Value) (k : Value → World → Prop) (w : World) : Prop :=
 Do Try.prog (sBox 31 v0) (fun t1 w2 =>
 Rd Try.prog (WS.at w2) (sBuiltin .len #[22] 3 [false] [v1]) fun t3 =>
 Rd Try.prog (WS.at w2) (sBin .gtr 3 true t3 (.int .i64 1048576)) fun t4 =>
 CondK t4
  (k (.bool true) w2)
  (Rd Try.prog (WS.at w2) (sBuiltin .len #[22] 3 [false] [v2]) fun t5 =>
  Rd Try.prog (WS.at w2) (sBin .gtr 3 true t5 (.int .i64 1048576)) fun t6 =>
  CondK t6
   (k (.bool true) w2)
   (Rd Try.prog (WS.at w2) (sLoad 31 t1) fun t7 =>
   CallK Try.prog 29 [t7, (.int .i64 1048576)] (fun t8 w9 =>
   Rd Try.prog (WS.at w9) (sBin .lss 3 true t8 (.int .i64 0)) fun t10 =>
   CondK t10
    (k (.bool true) w9)
    (Rd Try.prog (WS.at w9) (sLoad 31 t1) fun t11 =>
    CallK Try.prog 31 [t11] (fun t12 w13 =>
    CallK Try.prog 24 [v1] (fun t14 w15 =>
    CallK Try.prog 24 [v2] (fun t16 w17 =>
    CallK Try.prog 71 [t12, t14, t16] (fun t18 w19 =>
    Rd Try.prog (WS.at w19) (sExtract t18 0) fun t20 =>
    Rd Try.prog (WS.at w19) (sExtract t18 1) fun t21 =>
    Rd Try.prog (WS.at w19) (sLoad 31 t1) fun t22 =>
    CallK Try.prog 31 [t22] (fun t23 w24 =>
    Do Try.prog (sAlloc 37) (fun t25 w26 =>
    Do Try.prog (sStore 37 t25 t23) (fun _ w27 =>
    CallK Try.prog 24 [v1] (fun t28 w29 =>
    CallK Try.prog 24 [v2] (fun t30 w31 =>
    Rd Try.prog (WS.at w31) (sLoad 37 t25) fun t32 =>
    CallK Try.prog 72 [t32, t28, t30] (fun t33 w34 =>
    Rd Try.prog (WS.at w34) (sExtract t33 0) fun t35 =>
    Rd Try.prog (WS.at w34) (sExtract t33 1) fun t36 =>
    CallK Try.prog 26 [t35, t20] (fun t37 w38 =>
    Rd Try.prog (WS.at w38) (sUn .not t37) fun t39 =>
    GuardK t39 false (fun k w' => k t36 w') (fun t40 w41 =>
    GuardK t39 false (fun k w' => k t21 w') (fun t42 w43 =>
    GuardK t39 false (fun k w' => Rd Try.prog (WS.at w43) (sBin .neq 4 false t40 t42) fun v => k v w') (fun t44 w45 =>
    Rd Try.prog (WS.at w45) (sPick t39 (.bool true) t44) fun t46 =>
    CondK t46
     (k (.bool false) w45)
     (∃ S47 : World → Prop, ∃ h48 : S47 w45.drew,
     Rd Try.prog ⟨S47, w45.drew, h48⟩ (sLoad 37 t25) fun t49 =>
     Rd Try.prog ⟨S47, w45.drew, h48⟩ (sLoad 31 t1) fun t50 =>
     CallK Try.prog 31 [t50] (fun t51 w52 =>
     S47 w52 ∧ CallK Try.prog 33 [t49, t51] (fun t53 w54 =>
     Rd Try.prog WS.any (sUn .not t53) fun t55 =>
     CondK t55
      (k (.bool false) w54)
      (CallK Try.prog 24 [v1] (fun t56 w57 =>
      CallK Try.prog 26 [t28, t56] (fun t58 w59 =>
      Rd Try.prog (WS.at w59) (sUn .not t58) fun t60 =>
      CondK t60
       (k (.bool false) w59)
       (CallK Try.prog 24 [v2] (fun t61 w62 =>
       CallK Try.prog 26 [t30, t61] (fun t63 w64 =>
       Rd Try.prog (WS.at w64) (sUn .not t63) fun t65 =>
       CondK t65
        (k (.bool false) w64)
        (Rd Try.prog (WS.at w64) (sLoad 37 t25) fun t66 =>
        CallK Try.prog 36 [t66, (.int .i64 1)] (fun t67 w68 =>
        CallK Try.prog 27 [t28, t67] (fun t69 w70 =>
        CallK Try.prog 27 [t30, t69] (fun t71 w72 =>
        Rd Try.prog (WS.at w72) (sBin .lss 3 true t71 (.int .i64 0)) fun t73 =>
        GuardK t73 false (fun k w' => k t35 w') (fun t74 w75 =>
        GuardK t73 false (fun k w' => k t20 w') (fun t76 w77 =>
        GuardK t73 false (fun k w' => CallK Try.prog 26 [t74, t76] k w') (fun t78 w79 =>
        GuardK t73 false (fun k w' => Rd Try.prog (WS.at w79) (sUn .not t78) fun v => k v w') (fun t80 w81 =>
        Rd Try.prog (WS.at w81) (sPick t73 (.bool true) t80) fun t82 =>
        GuardK t82 false (fun k w' => k t36 w') (fun t83 w84 =>
        GuardK t82 false (fun k w' => k t21 w') (fun t85 w86 =>
        GuardK t82 false (fun k w' => Rd Try.prog (WS.at w86) (sBin .neq 4 false t83 t85) fun v => k v w') (fun t87 w88 =>
        Rd Try.prog (WS.at w88) (sPick t82 (.bool true) t87) fun t89 =>
        CondK t89
         (k (.bool false) w88)
         (CallK Try.prog 27 [t35, (.int .i64 1)] (fun t90 w91 =>
         CallK Try.prog 28 [t35, (.int .i64 1)] (fun t92 w93 =>
         Rd Try.prog (WS.at w93) (sBin .lss 3 true t92 (.int .i64 0)) fun t94 =>
         CondK t94
          (k (.bool false) w93)
          (Rd Try.prog (WS.at w93) (sBin .neq 3 false t92 t90) fun t95 =>
          CondK t95
           (k (.bool false) w93)
           (Rd Try.prog (WS.at w93) (sLoad 31 t1) fun t96 =>
           CallK Try.prog 31 [t96] (fun t97 w98 =>
           CallK Try.prog 24 [v1] (fun t99 w100 =>
           CallK Try.prog 24 [v2] (fun t101 w102 =>
           CallK Try.prog 72 [t97, t99, t101] (fun t103 w104 =>
           Rd Try.prog (WS.at w104) (sExtract t103 0) fun t105 =>
           Rd Try.prog (WS.at w104) (sExtract t103 1) fun t106 =>
           CallK Try.prog 26 [t105, t20] (fun t107 w108 =>
           Rd Try.prog (WS.at w108) (sUn .not t107) fun t109 =>
           GuardK t109 false (fun k w' => k t106 w') (fun t110 w111 =>
           GuardK t109 false (fun k w' => k t21 w') (fun t112 w113 =>
           GuardK t109 false (fun k w' => Rd Try.prog (WS.at w113) (sBin .neq 4 false t110 t112) fun v => k v w') (fun t114 w115 =>
           Rd Try.prog (WS.at w115) (sPick t109 (.bool true) t114) fun t116 =>
           CondK t116
            (k (.bool false) w115)
            (CallK Try.prog 28 [t35, (.int .i64 1)] (fun t117 w118 =>
            Rd Try.prog (WS.at w118) (sBin .lss 3 true t117 (.int .i64 0)) fun t119 =>
            CondK t119
             (k (.bool false) w118)
             (Rd Try.prog (WS.at w118) (sBin .neq 3 false t117 t90) fun t120 =>
             CondK t120
              (k (.bool false) w118)
              (k (.bool true) w118))) w115)) w113) w111) w108) w104) w102) w100) w98) w93))) w91) w88)) w86) w84) w81) w79) w77) w75) w72) w70) w68) w64)) w62) w59)) w57) w54)) w52) w45.drew)) w43) w41) w38) w34) w31) w29) w27) w26) w24) w19) w17) w15) w13) w9)) w2))) w
theorem body21 : Try.f21.body = some (bodyOf Try.f21) := by kernel_rfl
theorem same21 (v0 v1 v2 : Value) (k : Value → World → Prop) (w : World) : wpF Try.prog pl21 (bodyOf Try.f21) (bodyQ Try.prog Try.f21.results.toList k) (initF [v0, v1, v2]) w = S21 v0 v1 v2 k w := by kernel_rfl
theorem enter21 {v0 v1 v2 : Value} {k : Value → World → Prop} {w : World} (h : S21 v0 v1 v2 k w) : CallK Try.prog 21 [v0, v1, v2] k w :=
  call_of_wpF (pl := pl21) mixed Try.func21 body21 (by kernel_rfl) (of_decide_eq_true (by kernel_rfl)) (by kernel_rfl) (by kernel_rfl) (same21 v0 v1 v2 k w ▸ h)

/-! loop.example/g00758/spec.BestTree -/
def pl71 : Plans := fun i => match i with
  | 4 => ⟨true, [9], .step 0 .held (.step 1 .any (.step 2 .any (.step 3 .held (.step 4 .any (.step 5 .any (.step 7 .any (.step 8 .any (.step 6 .one (.step 9 .last (.step 10 .any (.nil)))))))))))⟩
  | _ => ⟨false, [], .nil⟩
def S71 (v0 v1 v2 : Value) (k : Value → World → Prop) (w : World) : Prop :=
 Do Try.prog (sBox 37 v0) (fun t1 w2 =>
 Rd Try.prog (WS.at w2) (sLoad 37 t1) fun t3 =>
 CallK Try.prog 124 [t3, v1, v2] (fun t4 w5 =>
 Rd Try.prog (WS.at w5) (sExtract t4 0) fun t6 =>
 Rd Try.prog (WS.at w5) (sExtract t4 1) fun t7 =>
 Rd Try.prog (WS.at w5) (sUn .not t7) fun t8 =>
 GuardK t8 false (fun k w' => k t6 w') (fun t9 w10 =>
 GuardK t8 false (fun k w' => Rd Try.prog (WS.at w10) (sBin .eql 3 true t9 (.int .i64 0)) fun v => k v w') (fun t11 w12 =>
 Rd Try.prog (WS.at w12) (sPick t8 (.bool true) t11) fun t13 =>
 CondK t13
  (k (.tuple #[(.slice none 0 0), (.bool false)]) w12)
  (∃ S14 : World → Prop, ∃ h15 : S14 w12.drew,
  Rd Try.prog ⟨S14, w12.drew, h15⟩ (sLoad 37 t1) fun t16 =>
  Rd Try.prog ⟨S14, w12.drew, h15⟩ (sLoad 37 t1) fun t17 =>
  Rd Try.prog WS.any (sBuiltin .len #[22] 3 [false] [v2]) fun t18 =>
  CallK Try.prog 113 [t17, v1, v2] (fun t19 w20 =>
  S14 w20 ∧ CallK Try.prog 125 [t16, v1, v2, t19, (.int .i64 0), (.int .i64 0), t18] (fun t21 w22 =>
  Rd Try.prog (WS.at w22) (sBuiltin .len #[22] 3 [false] [t21]) fun t23 =>
  Rd Try.prog (WS.at w22) (sBin .gtr 3 true t23 (.int .i64 60)) fun t24 =>
  CondK t24
   (k (.tuple #[(.slice none 0 0), (.bool false)]) w22)
   (k (.tuple #[t21, (.bool true)]) w22)) w20) w12.drew)) w10) w5) w2) w
theorem body71 : Try.f71.body = some (bodyOf Try.f71) := by kernel_rfl
theorem same71 (v0 v1 v2 : Value) (k : Value → World → Prop) (w : World) : wpF Try.prog pl71 (bodyOf Try.f71) (bodyQ Try.prog Try.f71.results.toList k) (initF [v0, v1, v2]) w = S71 v0 v1 v2 k w := by kernel_rfl
theorem enter71 {v0 v1 v2 : Value} {k : Value → World → Prop} {w : World} (h : S71 v0 v1 v2 k w) : CallK Try.prog 71 [v0, v1, v2] k w :=
  call_of_wpF (pl := pl71) mixed Try.func71 body71 (by kernel_rfl) (of_decide_eq_true (by kernel_rfl)) (by kernel_rfl) (by kernel_rfl) (same71 v0 v1 v2 k w ▸ h)

/-! loop.example/g00758/impl.BestTree -/
def pl72 : Plans := fun _ => ⟨false, [], .nil⟩
def S72 (v0 v1 v2 : Value) (k : Value → World → Prop) (w : World) : Prop :=
 Do Try.prog (sBox 37 v0) (fun t1 w2 =>
 Rd Try.prog (WS.at w2) (sLoad 37 t1) fun t3 =>
 CallK Try.prog 114 [t3, v1] (fun t4 w5 =>
 Rd Try.prog (WS.at w5) (sUn .not t4) fun t6 =>
 GuardK t6 false (fun k w' => Rd Try.prog (WS.at w5) (sFieldAddr 37 t1 1) fun v => k v w') (fun t7 w8 =>
 GuardK t6 false (fun k w' => Rd Try.prog (WS.at w8) (sLoad 3 t7) fun v => k v w') (fun t9 w10 =>
 GuardK t6 false (fun k w' => k v2 w') (fun t11 w12 =>
 GuardK t6 false (fun k w' => CallK Try.prog 99 [t9, t11] k w') (fun t13 w14 =>
 GuardK t6 false (fun k w' => Rd Try.prog (WS.at w14) (sUn .not t13) fun v => k v w') (fun t15 w16 =>
 Rd Try.prog (WS.at w16) (sPick t6 (.bool true) t15) fun t17 =>
 CondK t17
  (k (.tuple #[(.slice none 0 0), (.bool false)]) w16)
  (Rd Try.prog (WS.at w16) (sLoad 37 t1) fun t18 =>
  CallK Try.prog 115 [t18, v1, v2] (fun t19 w20 =>
  Rd Try.prog (WS.at w20) (sBuiltin .len #[22] 3 [false] [v2]) fun t21 =>
  Rd Try.prog (WS.at w20) (sNilCheck t19) fun t22 =>
  Rd Try.prog (WS.at w20) (sFieldAddr 125 t22 3) fun t23 =>
  Rd Try.prog (WS.at w20) (sIndexAddr 122 t23 (.int .i64 0)) fun t24 =>
  Rd Try.prog (WS.at w20) (sIndexAddr 121 t24 (.int .i64 0)) fun t25 =>
  Rd Try.prog (WS.at w20) (sIndexAddr 120 t25 t21) fun t26 =>
  Rd Try.prog (WS.at w20) (sLoad 3 t26) fun t27 =>
  Rd Try.prog (WS.at w20) (sBin .lss 3 true t27 (.int .i64 0)) fun t28 =>
  CondK t28
   (k (.tuple #[(.slice none 0 0), (.bool false)]) w20)
   (Rd Try.prog (WS.at w20) (sBuiltin .len #[22] 3 [false] [v2]) fun t29 =>
   CallK Try.prog 126 [t19, (.int .i64 0), (.int .i64 0), t29] (fun t30 w31 =>
   Rd Try.prog (WS.at w31) (sBuiltin .len #[22] 3 [false] [t30]) fun t32 =>
   Rd Try.prog (WS.at w31) (sBin .gtr 3 true t32 (.int .i64 60)) fun t33 =>
   CondK t33
    (k (.tuple #[(.slice none 0 0), (.bool false)]) w31)
    (Do Try.prog (sBuildSlice 22 0 []) (fun t34 w35 =>
    Do Try.prog (sBuiltin .append #[22, 22] 22 [false, false] [t34, t30]) (fun t36 w37 =>
    k (.tuple #[t36, (.bool true)]) w37) w35) w31)) w20)) w16)) w14) w12) w10) w8) w5) w2) w
theorem body72 : Try.f72.body = some (bodyOf Try.f72) := by kernel_rfl
theorem same72 (v0 v1 v2 : Value) (k : Value → World → Prop) (w : World) : wpF Try.prog pl72 (bodyOf Try.f72) (bodyQ Try.prog Try.f72.results.toList k) (initF [v0, v1, v2]) w = S72 v0 v1 v2 k w := by kernel_rfl
theorem enter72 {v0 v1 v2 : Value} {k : Value → World → Prop} {w : World} (h : S72 v0 v1 v2 k w) : CallK Try.prog 72 [v0, v1, v2] k w :=
  call_of_wpF (pl := pl72) mixed Try.func72 body72 (by kernel_rfl) (of_decide_eq_true (by kernel_rfl)) (by kernel_rfl) (by kernel_rfl) (same72 v0 v1 v2 k w ▸ h)

/-! loop.example/g00758/spec.BestCost -/
def pl124 : Plans := fun _ => ⟨false, [], .nil⟩
def S124 (v0 v1 v2 : Value) (k : Value → World → Prop) (w : World) : Prop :=
 Do Try.prog (sBox 37 v0) (fun t1 w2 =>
 Rd Try.prog (WS.at w2) (sLoad 37 t1) fun t3 =>
 CallK Try.prog 111 [t3, v1] (fun t4 w5 =>
 Rd Try.prog (WS.at w5) (sUn .not t4) fun t6 =>
 GuardK t6 false (fun k w' => Rd Try.prog (WS.at w5) (sLoad 37 t1) fun v => k v w') (fun t7 w8 =>
 GuardK t6 false (fun k w' => k v2 w') (fun t9 w10 =>
 GuardK t6 false (fun k w' => CallK Try.prog 112 [t7, t9] k w') (fun t11 w12 =>
 GuardK t6 false (fun k w' => Rd Try.prog (WS.at w12) (sUn .not t11) fun v => k v w') (fun t13 w14 =>
 Rd Try.prog (WS.at w14) (sPick t6 (.bool true) t13) fun t15 =>
 CondK t15
  (k (.tuple #[(.int .i64 0), (.bool false)]) w14)
  (Rd Try.prog (WS.at w14) (sLoad 37 t1) fun t16 =>
  CallK Try.prog 113 [t16, v1, v2] (fun t17 w18 =>
  Rd Try.prog (WS.at w18) (sIndexAddr 48 t17 (.int .i64 0)) fun t19 =>
  Rd Try.prog (WS.at w18) (sLoad 22 t19) fun t20 =>
  Rd Try.prog (WS.at w18) (sBuiltin .len #[22] 3 [false] [v2]) fun t21 =>
  Rd Try.prog (WS.at w18) (sIndexAddr 22 t20 t21) fun t22 =>
  Rd Try.prog (WS.at w18) (sLoad 3 t22) fun t23 =>
  Rd Try.prog (WS.at w18) (sBin .gtr 3 true t23 (.int .i64 0)) fun t24 =>
  k (.tuple #[t23, t24]) w18) w14)) w12) w10) w8) w5) w2) w
theorem body124 : Try.f124.body = some (bodyOf Try.f124) := by kernel_rfl
theorem same124 (v0 v1 v2 : Value) (k : Value → World → Prop) (w : World) : wpF Try.prog pl124 (bodyOf Try.f124) (bodyQ Try.prog Try.f124.results.toList k) (initF [v0, v1, v2]) w = S124 v0 v1 v2 k w := by kernel_rfl
theorem enter124 {v0 v1 v2 : Value} {k : Value → World → Prop} {w : World} (h : S124 v0 v1 v2 k w) : CallK Try.prog 124 [v0, v1, v2] k w :=
  call_of_wpF (pl := pl124) mixed Try.func124 body124 (by kernel_rfl) (of_decide_eq_true (by kernel_rfl)) (by kernel_rfl) (by kernel_rfl) (same124 v0 v1 v2 k w ▸ h)

/-! loop.example/g00758/spec.l12Tree -/
def pl125 : Plans := fun i => match i with
  | 7 => ⟨true, [], .step 0 .any (.step 2 .held (.step 3 .any (.step 4 .any (.step 5 .any (.step 6 .any (.step 7 .held (.step 8 .any (.step 9 .any (.step 10 .any (.step 11 .held (.step 12 .any (.step 13 .any (.fork 1 (.step 14 .one (.step 15 .one (.step 16 .any (.nil)))) 14 (.step 1 .one (.step 15 .one (.step 16 .any (.nil)))))))))))))))))⟩
  | _ => ⟨false, [], .nil⟩
def S125 (v0 v1 v2 v3 v4 v5 v6 : Value) (k : Value → World → Prop) (w : World) : Prop :=
 Do Try.prog (sBox 37 v0) (fun t1 w2 =>
 Rd Try.prog (WS.at w2) (sIndexAddr 48 v3 v4) fun t3 =>
 Rd Try.prog (WS.at w2) (sLoad 22 t3) fun t4 =>
 Rd Try.prog (WS.at w2) (sBuiltin .len #[22] 3 [false] [v2]) fun t5 =>
 Rd Try.prog (WS.at w2) (sBin .add 3 true t5 (.int .i64 1)) fun t6 =>
 Rd Try.prog (WS.at w2) (sBin .mul 3 false v5 t6) fun t7 =>
 Rd Try.prog (WS.at w2) (sBin .add 3 false t7 v6) fun t8 =>
 Rd Try.prog (WS.at w2) (sIndexAddr 22 t4 t8) fun t9 =>
 Rd Try.prog (WS.at w2) (sLoad 3 t9) fun t10 =>
 Rd Try.prog (WS.at w2) (sLoad 37 t1) fun t11 =>
 CallK Try.prog 165 [t11, v4] (fun t12 w13 =>
 Rd Try.prog (WS.at w13) (sBuiltin .len #[22] 3 [false] [t12]) fun t14 =>
 LoopF [37, 38, 39, 17, 40, 41, 42, 43, 44, 45, 46, 47, 48, 49, 50, 18, 51, 52, 53, 54, 55, 56, 57, 58, 59, 60, 61, 62, 63, 64, 65, 66, 67, 68, 69, 70, 71, 72, 73, 74, 75, 76, 77, 78, 14, 79, 36] (fun Q15 f16 w17 =>
  Rd Try.prog (WS.at w17) (sBin .lss 3 false (f16 36) (f16 35)) fun t18 =>
  CondK t18
   (Rd Try.prog (WS.at w17) (sIndexAddr 22 (f16 34) (f16 36)) fun t19 =>
   Rd Try.prog (WS.at w17) (sLoad 3 t19) fun t20 =>
   Rd Try.prog (WS.at w17) (sFieldAddr 37 (f16 7) 2) fun t21 =>
   Rd Try.prog (WS.at w17) (sLoad 35 t21) fun t22 =>
   Rd Try.prog (WS.at w17) (sIndexAddr 35 t22 t20) fun t23 =>
   Rd Try.prog (WS.at w17) (sFieldAddr 77 t23 1) fun t24 =>
   Rd Try.prog (WS.at w17) (sLoad 22 t24) fun t25 =>
   CallK Try.prog 152 [(f16 3), (f16 2), t25, (f16 5), (f16 6)] (fun t26 w27 =>
   Rd Try.prog (WS.at w27) (sBin .geq 3 true t26 (.int .i64 0)) fun t28 =>
   GuardK t28 true (fun k w' => k t26 w') (fun t29 w30 =>
   GuardK t28 true (fun k w' => k (f16 1) w') (fun t31 w32 =>
   GuardK t28 true (fun k w' => k t20 w') (fun t33 w34 =>
   GuardK t28 true (fun k w' => Rd Try.prog (WS.at w34) (sIndexAddr 22 t31 t33) fun v => k v w') (fun t35 w36 =>
   GuardK t28 true (fun k w' => Rd Try.prog (WS.at w36) (sLoad 3 t35) fun v => k v w') (fun t37 w38 =>
   GuardK t28 true (fun k w' => Rd Try.prog (WS.at w38) (sBin .add 3 false t29 t37) fun v => k v w') (fun t39 w40 =>
   GuardK t28 true (fun k w' => k (f16 15) w') (fun t41 w42 =>
   GuardK t28 true (fun k w' => Rd Try.prog (WS.at w42) (sBin .eql 3 false t39 t41) fun v => k v w') (fun t43 w44 =>
   Rd Try.prog (WS.at w44) (sPick t28 t43 (.bool false)) fun t45 =>
   CondK t45
    (Join (fun K48 =>
    ∃ S46 : World → Prop, ∃ h47 : S46 w44.drew,
    Rd Try.prog ⟨S46, w44.drew, h47⟩ (sLoad 37 (f16 7)) fun t51 =>
    Rd Try.prog WS.any (sFieldAddr 37 (f16 7) 2) fun t52 =>
    Rd Try.prog ⟨S46, w44.drew, h47⟩ (sLoad 35 t52) fun t53 =>
    Rd Try.prog WS.any (sIndexAddr 35 t53 t20) fun t54 =>
    Rd Try.prog WS.any (sFieldAddr 77 t54 1) fun t55 =>
    Rd Try.prog ⟨S46, w44.drew, h47⟩ (sLoad 22 t55) fun t56 =>
    ((Do Try.prog (sBuildSlice 22 1 [(0, t20)]) (fun t57 w58 =>
    S46 w58 ∧ CallK Try.prog 166 [t51, (f16 1), (f16 2), (f16 3), t56, (f16 5), (f16 6)] (fun t59 w60 =>
    S46 w60 ∧ Do Try.prog (sBuiltin .append #[22, 22] 22 [false, false] [t57, t59]) (fun t61 w62 =>
    S46 w62 ∧ K48 (F.upd (F.upd (F.upd (F.upd (F.upd (F.upd (F.upd (F.upd (F.upd (F.upd (F.upd (F.upd (F.upd (F.upd (F.upd (F.upd (F.upd (F.upd (F.upd (F.upd (F.upd (F.upd (F.upd (F.upd (F.upd (F.upd (F.upd (F.upd (F.upd (F.upd (F.upd (F.upd (F.upd (F.upd (F.upd (F.upd (F.upd (F.upd (F.upd (F.upd (F.upd (F.upd (F.upd (F.upd (F.upd f16 37 t18) 38 t19) 39 t20) 17 t20) 40 (f16 3)) 41 (f16 2)) 42 t21) 43 t22) 44 t20) 45 t23) 46 t24) 47 t25) 48 (f16 5)) 49 (f16 6)) 50 t26) 18 t26) 51 t26) 52 t28) 53 t28) 54 t29) 55 t31) 56 t33) 57 t35) 58 t37) 59 t39) 60 t41) 61 t43) 62 t45) 63 t20) 65 t51) 66 (f16 1)) 67 (f16 2)) 68 (f16 3)) 69 t52) 70 t53) 71 t20) 72 t54) 73 t55) 74 t56) 75 (f16 5)) 76 (f16 6)) 64 t57) 77 t59) 78 t61) 14 t61) w62) w60) w58) w44.drew) ∧
    (CallK Try.prog 166 [t51, (f16 1), (f16 2), (f16 3), t56, (f16 5), (f16 6)] (fun t63 w64 =>
    S46 w64 ∧ Do Try.prog (sBuildSlice 22 1 [(0, t20)]) (fun t65 w66 =>
    S46 w66 ∧ Do Try.prog (sBuiltin .append #[22, 22] 22 [false, false] [t65, t63]) (fun t67 w68 =>
    S46 w68 ∧ K48 (F.upd (F.upd (F.upd (F.upd (F.upd (F.upd (F.upd (F.upd (F.upd (F.upd (F.upd (F.upd (F.upd (F.upd (F.upd (F.upd (F.upd (F.upd (F.upd (F.upd (F.upd (F.upd (F.upd (F.upd (F.upd (F.upd (F.upd (F.upd (F.upd (F.upd (F.upd (F.upd (F.upd (F.upd (F.upd (F.upd (F.upd (F.upd (F.upd (F.upd (F.upd (F.upd (F.upd (F.upd (F.upd f16 37 t18) 38 t19) 39 t20) 17 t20) 40 (f16 3)) 41 (f16 2)) 42 t21) 43 t22) 44 t20) 45 t23) 46 t24) 47 t25) 48 (f16 5)) 49 (f16 6)) 50 t26) 18 t26) 51 t26) 52 t28) 53 t28) 54 t29) 55 t31) 56 t33) 57 t35) 58 t37) 59 t39) 60 t41) 61 t43) 62 t45) 63 t20) 65 t51) 66 (f16 1)) 67 (f16 2)) 68 (f16 3)) 69 t52) 70 t53) 71 t20) 72 t54) 73 t55) 74 t56) 75 (f16 5)) 76 (f16 6)) 77 t63) 64 t65) 78 t67) 14 t67) w68) w66) w64) w44.drew))) (fun f49 w50 =>
    Q15 .ret f49 w50))
    (Rd Try.prog (WS.at w44) (sBin .add 3 true (f16 36) (.int .i64 1)) fun t69 =>
    Q15 .normal (F.upd (F.upd (F.upd (F.upd (F.upd (F.upd (F.upd (F.upd (F.upd (F.upd (F.upd (F.upd (F.upd (F.upd (F.upd (F.upd (F.upd (F.upd (F.upd (F.upd (F.upd (F.upd (F.upd (F.upd (F.upd (F.upd (F.upd (F.upd (F.upd (F.upd f16 37 t18) 38 t19) 39 t20) 17 t20) 40 (f16 3)) 41 (f16 2)) 42 t21) 43 t22) 44 t20) 45 t23) 46 t24) 47 t25) 48 (f16 5)) 49 (f16 6)) 50 t26) 18 t26) 51 t26) 52 t28) 53 t28) 54 t29) 55 t31) 56 t33) 57 t35) 58 t37) 59 t39) 60 t41) 61 t43) 62 t45) 79 t69) 36 t69) w44)) w42) w40) w38) w36) w34) w32) w30) w27) w17)
   (Q15 (.exit 0) (F.upd f16 37 t18) w17))
  (blockQ 0 (seqQ (fun f70 w71 =>
 k (.slice none 0 0) w71) (bodyQ Try.prog [.tmp 14] k)))
  (F.upd (F.upd (F.upd (F.upd (F.upd (F.upd (F.upd (F.upd (F.upd (F.upd (F.upd (F.upd (F.upd (F.upd (F.upd (F.upd (F.upd (F.upd (F.upd (F.upd (F.upd (initF [v0, v1, v2, v3, v4, v5, v6]) 7 t1) 14 (.slice none 0 0)) 19 v3) 20 v4) 21 t3) 22 t4) 23 v5) 24 v2) 25 t5) 26 t6) 27 t7) 28 v6) 29 t8) 30 t9) 31 t10) 15 t10) 32 t11) 33 v4) 34 t12) 35 t14) 36 (.int .i64 0)) w13) w2) w
theorem body125 : Try.f125.body = some (bodyOf Try.f125) := by kernel_rfl
theorem same125 (v0 v1 v2 v3 v4 v5 v6 : Value) (k : Value → World → Prop) (w : World) : wpF Try.prog pl125 (bodyOf Try.f125) (bodyQ Try.prog Try.f125.results.toList k) (initF [v0, v1, v2, v3, v4, v5, v6]) w = S125 v0 v1 v2 v3 v4 v5 v6 k w := by kernel_rfl
theorem enter125 {v0 v1 v2 v3 v4 v5 v6 : Value} {k : Value → World → Prop} {w : World} (h : S125 v0 v1 v2 v3 v4 v5 v6 k w) : CallK Try.prog 125 [v0, v1, v2, v3, v4, v5, v6] k w :=
  call_of_wpF (pl := pl125) mixed Try.func125 body125 (by kernel_rfl) (of_decide_eq_true (by kernel_rfl)) (by kernel_rfl) (by kernel_rfl) (same125 v0 v1 v2 v3 v4 v5 v6 k w ▸ h)

/-! (*loop.example/g00758/impl.costing).least -/
def pl126 : Plans := fun i => match i with
  | 2 => ⟨false, [5], .step 0 .any (.step 1 .any (.step 2 .any (.step 3 .held (.step 4 .held (.step 5 .last (.step 6 .any (.step 7 .any (.step 8 .any (.step 9 .any (.step 10 .any (.nil)))))))))))⟩
  | 11 => ⟨false, [], .step 0 .any (.step 1 .any (.step 2 .any (.step 3 .any (.step 4 .any (.step 5 .any (.step 6 .any (.step 7 .held (.step 8 .any (.step 9 .any (.step 10 .held (.step 11 .any (.step 12 .any (.step 13 .any (.step 14 .any (.step 15 .any (.step 16 .any (.step 17 .any (.step 18 .any (.step 19 .any (.step 20 .any (.step 21 .held (.step 22 .any (.step 23 .any (.nil))))))))))))))))))))))))⟩
  | 12 => ⟨true, [], .step 0 .any (.step 1 .any (.step 2 .any (.step 3 .held (.step 4 .held (.step 5 .any (.step 7 .any (.step 8 .any (.step 9 .held (.step 10 .any (.step 11 .any (.fork 6 (.step 12 .one (.step 13 .one (.step 14 .one (.nil)))) 12 (.step 6 .one (.step 13 .one (.step 14 .one (.nil)))))))))))))))⟩
  | 14 => ⟨false, [5], .step 0 .any (.step 1 .any (.step 2 .any (.step 3 .held (.step 4 .held (.step 5 .last (.step 6 .any (.nil)))))))⟩
  | _ => ⟨false, [], .nil⟩
def S126 (v0 v1 v2 v3 : Value) (k : Value → World → Prop) (w : World) : Prop :=
 Rd Try.prog (WS.at w) (sBuild 172 [(0, v1), (1, v2), (2, v3)]) fun t1 =>
 Do Try.prog (sAlloc 172) (fun t2 w3 =>
 Do Try.prog (sStore 172 t2 t1) (fun _ w4 =>
 Rd Try.prog WS.any (sNilCheck v0) fun t5 =>
 Rd Try.prog WS.any (sFieldAddr 125 t5 4) fun t6 =>
 Rd Try.prog (WS.at w4.drew) (sLoad 123 t6) fun t7 =>
 Rd Try.prog (WS.at w4.drew) (sLoad 172 t2) fun t8 =>
 Do Try.prog (sLookup 123 t7 t8 true) (fun t9 w10 =>
 Rd Try.prog WS.any (sExtract t9 0) fun t11 =>
 Rd Try.prog WS.any (sExtract t9 1) fun t12 =>
 CondK t12
  (k t11 w10)
  (Join (fun K13 =>
  Rd Try.prog (WS.at w10) (sNilCheck v0) fun t16 =>
  Rd Try.prog (WS.at w10) (sFieldAddr 125 t16 0) fun t17 =>
  Rd Try.prog (WS.at w10) (sFieldAddr 37 t17 2) fun t18 =>
  Rd Try.prog (WS.at w10) (sLoad 35 t18) fun t19 =>
  Rd Try.prog (WS.at w10) (sBuiltin .len #[35] 3 [false] [t19]) fun t20 =>
  LoopF [37, 38, 39, 40, 13, 12, 14, 41, 42, 43, 44, 45, 46, 47, 48, 49, 50, 14, 51, 52, 53, 54, 55, 56, 57, 58, 59, 60, 61, 62, 63, 64, 65, 66, 67, 68, 69, 70, 71, 72, 73, 74, 75, 76, 77, 78, 79, 80, 81, 82, 83, 84, 85, 86, 87, 88, 89, 36] (fun Q21 f22 w23 =>
   Rd Try.prog (WS.at w23) (sBin .lss 3 false (f22 36) (f22 35)) fun t24 =>
   CondK t24
    (Join (fun K25 =>
    Rd Try.prog (WS.at w23) (sIndexAddr 35 (f22 34) (f22 36)) fun t28 =>
    Rd Try.prog (WS.at w23) (sLoad 77 t28) fun t29 =>
    Do Try.prog (sAlloc 77) (fun t30 w31 =>
    Do Try.prog (sStore 77 t30 t29) (fun _ w32 =>
    Join (fun K33 =>
    Rd Try.prog (WS.at w32) (sFieldAddr 77 t30 0) fun t36 =>
    Rd Try.prog (WS.at w32) (sLoad 3 t36) fun t37 =>
    Rd Try.prog (WS.at w32) (sBin .eql 3 false t37 (f22 1)) fun t38 =>
    CondK t38
     (Rd Try.prog (WS.at w32) (sFieldAddr 77 t30 1) fun t39 =>
     Rd Try.prog (WS.at w32) (sLoad 22 t39) fun t40 =>
     CallK Try.prog 154 [(f22 0), t40, (f22 2), (f22 3)] (fun t41 w42 =>
     K33 (F.upd (F.upd (F.upd (F.upd (F.upd (F.upd (F.upd (F.upd (F.upd (F.upd (F.upd (F.upd (F.upd (F.upd (F.upd (F.upd (F.upd (F.upd f22 37 t24) 38 (f22 36)) 39 t28) 40 t29) 13 t30) 12 (f22 36)) 14 (.int .i64 (-1))) 41 t36) 42 t37) 43 (f22 1)) 44 t38) 45 (f22 0)) 46 t39) 47 t40) 48 (f22 2)) 49 (f22 3)) 50 t41) 14 t41) w42) w32)
     (K33 (F.upd (F.upd (F.upd (F.upd (F.upd (F.upd (F.upd (F.upd (F.upd (F.upd (F.upd f22 37 t24) 38 (f22 36)) 39 t28) 40 t29) 13 t30) 12 (f22 36)) 14 (.int .i64 (-1))) 41 t36) 42 t37) 43 (f22 1)) 44 t38) w32)) (fun f34 w35 =>
    Rd Try.prog WS.any (sBin .geq 3 true (f34 14) (.int .i64 0)) fun t43 =>
    GuardK t43 true (fun k w' => k (f34 14) w') (fun t44 w45 =>
    GuardK t43 true (fun k w' => k (f34 0) w') (fun t46 w47 =>
    GuardK t43 true (fun k w' => Rd Try.prog WS.any (sNilCheck t46) fun v => k v w') (fun t48 w49 =>
    GuardK t43 true (fun k w' => Rd Try.prog WS.any (sFieldAddr 125 t48 2) fun v => k v w') (fun t50 w51 =>
    GuardK t43 true (fun k w' => Rd Try.prog (WS.at w35.drew) (sLoad 22 t50) fun v => k v w') (fun t52 w53 =>
    GuardK t43 true (fun k w' => k (f34 12) w') (fun t54 w55 =>
    GuardK t43 true (fun k w' => Rd Try.prog WS.any (sIndexAddr 22 t52 t54) fun v => k v w') (fun t56 w57 =>
    GuardK t43 true (fun k w' => Rd Try.prog (WS.at w35.drew) (sLoad 3 t56) fun v => k v w') (fun t58 w59 =>
    GuardK t43 true (fun k w' => Rd Try.prog WS.any (sBin .add 3 false t44 t58) fun v => k v w') (fun t60 w61 =>
    GuardK t43 true (fun k w' => k (f34 0) w') (fun t62 w63 =>
    GuardK t43 true (fun k w' => k (f34 1) w') (fun t64 w65 =>
    GuardK t43 true (fun k w' => k (f34 2) w') (fun t66 w67 =>
    GuardK t43 true (fun k w' => k (f34 3) w') (fun t68 w69 =>
    GuardK t43 true (fun k w' => Rd Try.prog WS.any (sNilCheck t62) fun v => k v w') (fun t70 w71 =>
    GuardK t43 true (fun k w' => Rd Try.prog WS.any (sFieldAddr 125 t70 3) fun v => k v w') (fun t72 w73 =>
    GuardK t43 true (fun k w' => Rd Try.prog WS.any (sIndexAddr 122 t72 t64) fun v => k v w') (fun t74 w75 =>
    GuardK t43 true (fun k w' => Rd Try.prog WS.any (sIndexAddr 121 t74 t66) fun v => k v w') (fun t76 w77 =>
    GuardK t43 true (fun k w' => Rd Try.prog WS.any (sIndexAddr 120 t76 t68) fun v => k v w') (fun t78 w79 =>
    GuardK t43 true (fun k w' => Rd Try.prog (WS.at w35.drew) (sLoad 3 t78) fun v => k v w') (fun t80 w81 =>
    GuardK t43 true (fun k w' => Rd Try.prog WS.any (sBin .eql 3 false t60 t80) fun v => k v w') (fun t82 w83 =>
    Rd Try.prog WS.any (sPick t43 t82 (.bool false)) fun t84 =>
    CondK t84
     (Join (fun K87 =>
     ∃ S85 : World → Prop, ∃ h86 : S85 w83.drew,
     Rd Try.prog WS.any (sNilCheck (f34 0)) fun t90 =>
     Rd Try.prog WS.any (sFieldAddr 125 t90 4) fun t91 =>
     Rd Try.prog ⟨S85, w83.drew, h86⟩ (sLoad 123 t91) fun t92 =>
     Rd Try.prog ⟨S85, w83.drew, h86⟩ (sLoad 172 (f34 9)) fun t93 =>
     Rd Try.prog WS.any (sFieldAddr 77 (f34 13) 1) fun t94 =>
     Rd Try.prog ⟨S85, w83.drew, h86⟩ (sLoad 22 t94) fun t95 =>
     ((Do Try.prog (sBuildSlice 22 1 [(0, (f34 12))]) (fun t96 w97 =>
     S85 w97 ∧ CallK Try.prog 167 [(f34 0), t95, (f34 2), (f34 3)] (fun t98 w99 =>
     S85 w99 ∧ Do Try.prog (sBuiltin .append #[22, 22] 22 [false, false] [t96, t98]) (fun t100 w101 =>
     S85 w101 ∧ Do Try.prog (sMapUpdate 123 t92 t93 t100) (fun _ w102 =>
     S85 w102 ∧ K87 (F.upd (F.upd (F.upd (F.upd (F.upd (F.upd (F.upd (F.upd (F.upd (F.upd (F.upd (F.upd (F.upd (F.upd (F.upd (F.upd (F.upd (F.upd (F.upd (F.upd (F.upd (F.upd (F.upd (F.upd (F.upd (F.upd (F.upd (F.upd (F.upd (F.upd (F.upd (F.upd (F.upd (F.upd (F.upd (F.upd (F.upd (F.upd f34 51 (f34 14)) 52 t43) 53 t43) 54 t44) 55 t46) 56 t48) 57 t50) 58 t52) 59 t54) 60 t56) 61 t58) 62 t60) 63 t62) 64 t64) 65 t66) 66 t68) 67 t70) 68 t72) 69 t74) 70 t76) 71 t78) 72 t80) 73 t82) 74 t84) 75 (f34 0)) 76 t90) 77 t91) 78 t92) 79 t93) 80 (f34 12)) 82 (f34 0)) 83 t94) 84 t95) 85 (f34 2)) 86 (f34 3)) 81 t96) 87 t98) 88 t100) w102) w101) w99) w97) w83.drew) ∧
     (CallK Try.prog 167 [(f34 0), t95, (f34 2), (f34 3)] (fun t103 w104 =>
     S85 w104 ∧ Do Try.prog (sBuildSlice 22 1 [(0, (f34 12))]) (fun t105 w106 =>
     S85 w106 ∧ Do Try.prog (sBuiltin .append #[22, 22] 22 [false, false] [t105, t103]) (fun t107 w108 =>
     S85 w108 ∧ Do Try.prog (sMapUpdate 123 t92 t93 t107) (fun _ w109 =>
     S85 w109 ∧ K87 (F.upd (F.upd (F.upd (F.upd (F.upd (F.upd (F.upd (F.upd (F.upd (F.upd (F.upd (F.upd (F.upd (F.upd (F.upd (F.upd (F.upd (F.upd (F.upd (F.upd (F.upd (F.upd (F.upd (F.upd (F.upd (F.upd (F.upd (F.upd (F.upd (F.upd (F.upd (F.upd (F.upd (F.upd (F.upd (F.upd (F.upd (F.upd f34 51 (f34 14)) 52 t43) 53 t43) 54 t44) 55 t46) 56 t48) 57 t50) 58 t52) 59 t54) 60 t56) 61 t58) 62 t60) 63 t62) 64 t64) 65 t66) 66 t68) 67 t70) 68 t72) 69 t74) 70 t76) 71 t78) 72 t80) 73 t82) 74 t84) 75 (f34 0)) 76 t90) 77 t91) 78 t92) 79 t93) 80 (f34 12)) 82 (f34 0)) 83 t94) 84 t95) 85 (f34 2)) 86 (f34 3)) 87 t103) 81 t105) 88 t107) w109) w108) w106) w104) w83.drew))) (fun f88 w89 =>
     Q21 (.exit 0) f88 w89))
     (K25 (F.upd (F.upd (F.upd (F.upd (F.upd (F.upd (F.upd (F.upd (F.upd (F.upd (F.upd (F.upd (F.upd (F.upd (F.upd (F.upd (F.upd (F.upd (F.upd (F.upd (F.upd (F.upd (F.upd (F.upd f34 51 (f34 14)) 52 t43) 53 t43) 54 t44) 55 t46) 56 t48) 57 t50) 58 t52) 59 t54) 60 t56) 61 t58) 62 t60) 63 t62) 64 t64) 65 t66) 66 t68) 67 t70) 68 t72) 69 t74) 70 t76) 71 t78) 72 t80) 73 t82) 74 t84) w83)) w81) w79) w77) w75) w73) w71) w69) w67) w65) w63) w61) w59) w57) w55) w53) w51) w49) w47) w45) w35.drew)) w31) w23) (fun f26 w27 =>
    Rd Try.prog (WS.at w27) (sBin .add 3 true (f26 36) (.int .i64 1)) fun t110 =>
    Q21 .normal (F.upd (F.upd f26 89 t110) 36 t110) w27))
    (Q21 (.exit 0) (F.upd f22 37 t24) w23))
   (blockQ 0 (seqQ K13 (bodyQ Try.prog [.tmp 8] k)))
   (F.upd (F.upd (F.upd (F.upd (F.upd (F.upd (F.upd (F.upd (F.upd (F.upd (F.upd (F.upd (F.upd (F.upd (F.upd (F.upd (F.upd (F.upd (F.upd (F.upd (F.upd (F.upd (F.upd (F.upd (F.upd (initF [v0, v1, v2, v3]) 8 (.slice none 0 0)) 15 v1) 16 v2) 17 v3) 18 t1) 9 t2) 20 v0) 21 t5) 22 t6) 23 t7) 24 t8) 25 t9) 19 t9) 26 t11) 27 t12) 10 t11) 11 t12) 28 t12) 30 v0) 31 t16) 32 t17) 33 t18) 34 t19) 35 t20) 36 (.int .i64 0)) w10) (fun f14 w15 =>
  Rd Try.prog WS.any (sNilCheck (f14 0)) fun t113 =>
  Rd Try.prog WS.any (sFieldAddr 125 t113 4) fun t114 =>
  Rd Try.prog (WS.at w15.drew) (sLoad 123 t114) fun t115 =>
  Rd Try.prog (WS.at w15.drew) (sLoad 172 (f14 9)) fun t116 =>
  Do Try.prog (sLookup 123 t115 t116 false) (fun t117 w118 =>
  k t117 w118) w15.drew))) w4.drew) w3) w
theorem body126 : Try.f126.body = some (bodyOf Try.f126) := by kernel_rfl
theorem same126 (v0 v1 v2 v3 : Value) (k : Value → World → Prop) (w : World) : wpF Try.prog pl126 (bodyOf Try.f126) (bodyQ Try.prog Try.f126.results.toList k) (initF [v0, v1, v2, v3]) w = S126 v0 v1 v2 v3 k w := by kernel_rfl
theorem enter126 {v0 v1 v2 v3 : Value} {k : Value → World → Prop} {w : World} (h : S126 v0 v1 v2 v3 k w) : CallK Try.prog 126 [v0, v1, v2, v3] k w :=
  call_of_wpF (pl := pl126) mixed Try.func126 body126 (by kernel_rfl) (of_decide_eq_true (by kernel_rfl)) (by kernel_rfl) (by kernel_rfl) (same126 v0 v1 v2 v3 k w ▸ h)

/-! loop.example/g00758/spec.l1Rules -/
def pl165 : Plans := fun _ => ⟨false, [], .nil⟩
def S165 (v0 v1 : Value) (k : Value → World → Prop) (w : World) : Prop :=
 Do Try.prog (sBox 37 v0) (fun t1 w2 =>
 Rd Try.prog (WS.at w2) (sFieldAddr 37 t1 2) fun t3 =>
 Rd Try.prog (WS.at w2) (sLoad 35 t3) fun t4 =>
 Rd Try.prog (WS.at w2) (sBuiltin .len #[35] 3 [false] [t4]) fun t5 =>
 LoopF [12, 13, 14, 15, 7, 6, 16, 17, 18, 19, 20, 21, 22, 23, 5, 24, 11] (fun Q6 f7 w8 =>
  Rd Try.prog (WS.at w8) (sBin .lss 3 false (f7 11) (f7 10)) fun t9 =>
  CondK t9
   (Join (fun K10 =>
   Rd Try.prog (WS.at w8) (sIndexAddr 35 (f7 9) (f7 11)) fun t13 =>
   Rd Try.prog (WS.at w8) (sLoad 77 t13) fun t14 =>
   Do Try.prog (sAlloc 77) (fun t15 w16 =>
   Do Try.prog (sStore 77 t15 t14) (fun _ w17 =>
   Rd Try.prog (WS.at w17) (sFieldAddr 77 t15 0) fun t18 =>
   Rd Try.prog (WS.at w17) (sLoad 3 t18) fun t19 =>
   Rd Try.prog (WS.at w17) (sBin .eql 3 false t19 (f7 1)) fun t20 =>
   CondK t20
    (Do Try.prog (sBuildSlice 22 1 [(0, (f7 11))]) (fun t21 w22 =>
    Do Try.prog (sBuiltin .append #[22, 22] 22 [false, false] [(f7 5), t21]) (fun t23 w24 =>
    K10 (F.upd (F.upd (F.upd (F.upd (F.upd (F.upd (F.upd (F.upd (F.upd (F.upd (F.upd (F.upd (F.upd (F.upd (F.upd f7 12 t9) 13 (f7 11)) 14 t13) 15 t14) 7 t15) 6 (f7 11)) 16 t18) 17 t19) 18 (f7 1)) 19 t20) 20 (f7 5)) 21 (f7 11)) 22 t21) 23 t23) 5 t23) w24) w22) w17)
    (K10 (F.upd (F.upd (F.upd (F.upd (F.upd (F.upd (F.upd (F.upd (F.upd (F.upd f7 12 t9) 13 (f7 11)) 14 t13) 15 t14) 7 t15) 6 (f7 11)) 16 t18) 17 t19) 18 (f7 1)) 19 t20) w17)) w16) w8) (fun f11 w12 =>
   Rd Try.prog (WS.at w12) (sBin .add 3 true (f11 11) (.int .i64 1)) fun t25 =>
   Q6 .normal (F.upd (F.upd f11 24 t25) 11 t25) w12))
   (Q6 (.exit 0) (F.upd f7 12 t9) w8))
  (blockQ 0 (seqQ (fun f26 w27 =>
 k (f26 5) w27) (bodyQ Try.prog [.tmp 4] k)))
  (F.upd (F.upd (F.upd (F.upd (F.upd (F.upd (F.upd (initF [v0, v1]) 2 t1) 4 (.slice none 0 0)) 5 (.slice none 0 0)) 8 t3) 9 t4) 10 t5) 11 (.int .i64 0)) w2) w
theorem body165 : Try.f165.body = some (bodyOf Try.f165) := by kernel_rfl
theorem same165 (v0 v1 : Value) (k : Value → World → Prop) (w : World) : wpF Try.prog pl165 (bodyOf Try.f165) (bodyQ Try.prog Try.f165.results.toList k) (initF [v0, v1]) w = S165 v0 v1 k w := by kernel_rfl
theorem enter165 {v0 v1 : Value} {k : Value → World → Prop} {w : World} (h : S165 v0 v1 k w) : CallK Try.prog 165 [v0, v1] k w :=
  call_of_wpF (pl := pl165) mixed Try.func165 body165 (by kernel_rfl) (of_decide_eq_true (by kernel_rfl)) (by kernel_rfl) (by kernel_rfl) (same165 v0 v1 k w ▸ h)

/-! loop.example/g00758/spec.l12Row -/
def pl166 : Plans := fun i => match i with
  | 4 => ⟨false, [9], .step 0 .held (.step 1 .any (.step 2 .any (.step 3 .any (.step 4 .any (.step 5 .any (.step 6 .any (.step 7 .any (.step 8 .any (.step 9 .last (.step 10 .any (.nil)))))))))))⟩
  | 14 => ⟨true, [18, 19], .step 0 .held (.step 1 .any (.step 2 .any (.step 3 .any (.step 4 .any (.step 5 .any (.step 6 .held (.step 7 .any (.step 8 .any (.step 10 .held (.step 11 .any (.step 12 .any (.step 13 .any (.step 14 .any (.step 15 .any (.step 16 .any (.step 17 .any (.step 9 .one (.step 18 .last (.step 19 .last (.step 20 .any (.nil)))))))))))))))))))))⟩
  | _ => ⟨false, [], .nil⟩
def S166 (v0 v1 v2 v3 v4 v5 v6 : Value) (k : Value → World → Prop) (w : World) : Prop :=
 Do Try.prog (sBox 37 v0) (fun t1 w2 =>
 Rd Try.prog (WS.at w2) (sBuiltin .len #[22] 3 [false] [v4]) fun t3 =>
 Rd Try.prog (WS.at w2) (sBin .eql 3 true t3 (.int .i64 0)) fun t4 =>
 CondK t4
  (k (.slice none 0 0) w2)
  (Rd Try.prog (WS.at w2) (sIndexAddr 22 v4 (.int .i64 0)) fun t5 =>
  Rd Try.prog (WS.at w2) (sLoad 3 t5) fun t6 =>
  Rd Try.prog (WS.at w2) (sBin .lss 3 true t6 (.int .i64 0)) fun t7 =>
  CondK t7
   (Rd Try.prog (WS.at w2.drew) (sLoad 37 t1) fun t8 =>
   Rd Try.prog WS.any (sSlice 22 v4 (some (.int .i64 1)) none none) fun t9 =>
   Rd Try.prog WS.any (sBin .add 3 true v5 (.int .i64 1)) fun t10 =>
   CallK Try.prog 166 [t8, v1, v2, v3, t9, t10, v6] (fun t11 w12 =>
   k t11 w12) w2.drew)
   (CallK Try.prog 152 [v3, v2, v4, v5, v6] (fun t13 w14 =>
   LoopF [46, 47, 48, 51, 52, 53, 54, 55, 56, 57, 58, 59, 60, 61, 62, 63, 64, 65, 19, 66, 67, 68, 69, 70, 71, 72, 20, 73, 74, 75, 76, 77, 78, 79, 80, 81, 82, 83, 84, 85, 86, 87, 88, 89, 90, 91, 92, 93, 94, 95, 96, 97, 98, 99, 100, 101, 102, 103, 104, 105, 21, 106, 107, 108, 109, 110, 111, 112, 113, 16, 17, 49, 50, 18] (fun Q15 f16 w17 =>
    Rd Try.prog (WS.at w17) (sBin .leq 3 false (f16 18) (f16 6)) fun t18 =>
    CondK t18
     (Join (fun K19 =>
     Rd Try.prog (WS.at w17) (sIndexAddr 22 (f16 4) (.int .i64 0)) fun t22 =>
     Rd Try.prog (WS.at w17) (sLoad 3 t22) fun t23 =>
     Rd Try.prog (WS.at w17) (sIndexAddr 48 (f16 3) t23) fun t24 =>
     Rd Try.prog (WS.at w17) (sLoad 22 t24) fun t25 =>
     Rd Try.prog (WS.at w17) (sBuiltin .len #[22] 3 [false] [(f16 2)]) fun t26 =>
     Rd Try.prog (WS.at w17) (sBin .add 3 true t26 (.int .i64 1)) fun t27 =>
     Rd Try.prog (WS.at w17) (sBin .mul 3 false (f16 5) t27) fun t28 =>
     Rd Try.prog (WS.at w17) (sBin .add 3 false t28 (f16 18)) fun t29 =>
     Rd Try.prog (WS.at w17) (sIndexAddr 22 t25 t29) fun t30 =>
     Rd Try.prog (WS.at w17) (sLoad 3 t30) fun t31 =>
     Rd Try.prog (WS.at w17) (sSlice 22 (f16 4) (some (.int .i64 1)) none none) fun t32 =>
     CallK Try.prog 152 [(f16 3), (f16 2), t32, (f16 18), (f16 6)] (fun t33 w34 =>
     Rd Try.prog (WS.at w34) (sBin .eql 3 true t31 (.int .i64 0)) fun t35 =>
     GuardK t35 false (fun k w' => k t33 w') (fun t36 w37 =>
     GuardK t35 false (fun k w' => Rd Try.prog (WS.at w37) (sBin .lss 3 true t36 (.int .i64 0)) fun v => k v w') (fun t38 w39 =>
     Rd Try.prog (WS.at w39) (sPick t35 (.bool true) t38) fun t40 =>
     GuardK t40 false (fun k w' => k t31 w') (fun t41 w42 =>
     GuardK t40 false (fun k w' => k t33 w') (fun t43 w44 =>
     GuardK t40 false (fun k w' => Rd Try.prog (WS.at w44) (sBin .add 3 false t41 t43) fun v => k v w') (fun t45 w46 =>
     GuardK t40 false (fun k w' => k (f16 15) w') (fun t47 w48 =>
     GuardK t40 false (fun k w' => Rd Try.prog (WS.at w48) (sBin .neq 3 false t45 t47) fun v => k v w') (fun t49 w50 =>
     Rd Try.prog (WS.at w50) (sPick t40 (.bool true) t49) fun t51 =>
     CondK t51
      (K19 (F.upd (F.upd (F.upd (F.upd (F.upd (F.upd (F.upd (F.upd (F.upd (F.upd (F.upd (F.upd (F.upd (F.upd (F.upd (F.upd (F.upd (F.upd (F.upd (F.upd (F.upd (F.upd (F.upd (F.upd (F.upd (F.upd (F.upd (F.upd (F.upd (F.upd (F.upd (F.upd (F.upd (F.upd (F.upd (F.upd (F.upd (F.upd (F.upd (F.upd f16 46 (f16 18)) 47 (f16 6)) 48 t18) 51 (f16 3)) 52 (f16 4)) 53 t22) 54 t23) 55 t24) 56 t25) 57 (f16 5)) 58 (f16 2)) 59 t26) 60 t27) 61 t28) 62 (f16 18)) 63 t29) 64 t30) 65 t31) 19 t31) 66 (f16 3)) 67 (f16 2)) 68 (f16 4)) 69 t32) 70 (f16 18)) 71 (f16 6)) 72 t33) 20 t33) 73 t31) 74 t35) 75 t35) 76 t36) 77 t38) 78 t40) 79 t40) 80 t41) 81 t43) 82 t45) 83 t47) 84 t49) 85 t51) w50)
      (∃ S52 : World → Prop, ∃ h53 : S52 w50.drew,
      Rd Try.prog ⟨S52, w50.drew, h53⟩ (sLoad 37 (f16 7)) fun t54 =>
      Rd Try.prog WS.any (sIndexAddr 22 (f16 4) (.int .i64 0)) fun t55 =>
      Rd Try.prog ⟨S52, w50.drew, h53⟩ (sLoad 3 t55) fun t56 =>
      Rd Try.prog ⟨S52, w50.drew, h53⟩ (sLoad 37 (f16 7)) fun t57 =>
      Rd Try.prog WS.any (sSlice 22 (f16 4) (some (.int .i64 1)) none none) fun t58 =>
      CallK Try.prog 125 [t54, (f16 1), (f16 2), (f16 3), t56, (f16 5), (f16 18)] (fun t59 w60 =>
      S52 w60 ∧ CallK Try.prog 166 [t57, (f16 1), (f16 2), (f16 3), t58, (f16 18), (f16 6)] (fun t61 w62 =>
      Do Try.prog (sBuiltin .append #[22, 22] 22 [false, false] [t59, t61]) (fun t63 w64 =>
      Join (fun K65 =>
      Rd Try.prog (WS.at w64) (sUn .not (f16 17)) fun t68 =>
      GuardK t68 false (fun k w' => k t63 w') (fun t69 w70 =>
      GuardK t68 false (fun k w' => k (f16 16) w') (fun t71 w72 =>
      GuardK t68 false (fun k w' => CallK Try.prog 188 [t69, t71] k w') (fun t73 w74 =>
      Rd Try.prog (WS.at w74) (sPick t68 (.bool true) t73) fun t75 =>
      CondK t75
       (K65 (F.upd (F.upd (F.upd (F.upd (F.upd (F.upd (F.upd (F.upd (F.upd (F.upd (F.upd (F.upd (F.upd (F.upd (F.upd (F.upd (F.upd (F.upd (F.upd (F.upd (F.upd (F.upd (F.upd (F.upd (F.upd (F.upd (F.upd (F.upd (F.upd (F.upd (F.upd (F.upd (F.upd (F.upd (F.upd (F.upd (F.upd (F.upd (F.upd (F.upd (F.upd (F.upd (F.upd (F.upd (F.upd (F.upd (F.upd (F.upd (F.upd (F.upd (F.upd (F.upd (F.upd (F.upd (F.upd (F.upd (F.upd (F.upd (F.upd (F.upd (F.upd (F.upd (F.upd (F.upd (F.upd (F.upd (F.upd (F.upd (F.upd (F.upd f16 46 (f16 18)) 47 (f16 6)) 48 t18) 51 (f16 3)) 52 (f16 4)) 53 t22) 54 t23) 55 t24) 56 t25) 57 (f16 5)) 58 (f16 2)) 59 t26) 60 t27) 61 t28) 62 (f16 18)) 63 t29) 64 t30) 65 t31) 19 t31) 66 (f16 3)) 67 (f16 2)) 68 (f16 4)) 69 t32) 70 (f16 18)) 71 (f16 6)) 72 t33) 20 t33) 73 t31) 74 t35) 75 t35) 76 t36) 77 t38) 78 t40) 79 t40) 80 t41) 81 t43) 82 t45) 83 t47) 84 t49) 85 t51) 86 t54) 87 (f16 1)) 88 (f16 2)) 89 (f16 3)) 90 (f16 4)) 91 t55) 92 t56) 93 (f16 5)) 94 (f16 18)) 96 t57) 97 (f16 1)) 98 (f16 2)) 99 (f16 3)) 100 (f16 4)) 101 t58) 102 (f16 18)) 103 (f16 6)) 95 t59) 104 t61) 105 t63) 21 t63) 106 (f16 17)) 107 t68) 108 t68) 109 t69) 110 t71) 111 t73) 112 t75) 113 t63) 16 t63) w74)
       (K65 (F.upd (F.upd (F.upd (F.upd (F.upd (F.upd (F.upd (F.upd (F.upd (F.upd (F.upd (F.upd (F.upd (F.upd (F.upd (F.upd (F.upd (F.upd (F.upd (F.upd (F.upd (F.upd (F.upd (F.upd (F.upd (F.upd (F.upd (F.upd (F.upd (F.upd (F.upd (F.upd (F.upd (F.upd (F.upd (F.upd (F.upd (F.upd (F.upd (F.upd (F.upd (F.upd (F.upd (F.upd (F.upd (F.upd (F.upd (F.upd (F.upd (F.upd (F.upd (F.upd (F.upd (F.upd (F.upd (F.upd (F.upd (F.upd (F.upd (F.upd (F.upd (F.upd (F.upd (F.upd (F.upd (F.upd (F.upd (F.upd f16 46 (f16 18)) 47 (f16 6)) 48 t18) 51 (f16 3)) 52 (f16 4)) 53 t22) 54 t23) 55 t24) 56 t25) 57 (f16 5)) 58 (f16 2)) 59 t26) 60 t27) 61 t28) 62 (f16 18)) 63 t29) 64 t30) 65 t31) 19 t31) 66 (f16 3)) 67 (f16 2)) 68 (f16 4)) 69 t32) 70 (f16 18)) 71 (f16 6)) 72 t33) 20 t33) 73 t31) 74 t35) 75 t35) 76 t36) 77 t38) 78 t40) 79 t40) 80 t41) 81 t43) 82 t45) 83 t47) 84 t49) 85 t51) 86 t54) 87 (f16 1)) 88 (f16 2)) 89 (f16 3)) 90 (f16 4)) 91 t55) 92 t56) 93 (f16 5)) 94 (f16 18)) 96 t57) 97 (f16 1)) 98 (f16 2)) 99 (f16 3)) 100 (f16 4)) 101 t58) 102 (f16 18)) 103 (f16 6)) 95 t59) 104 t61) 105 t63) 21 t63) 106 (f16 17)) 107 t68) 108 t68) 109 t69) 110 t71) 111 t73) 112 t75) w74)) w72) w70) w64) (fun f66 w67 =>
      K19 (F.upd f66 17 (.bool true)) w67)) w62) w60) w50.drew)) w48) w46) w44) w42) w39) w37) w34) w17) (fun f20 w21 =>
     Rd Try.prog (WS.at w21) (sBin .add 3 true (f20 18) (.int .i64 1)) fun t76 =>
     Q15 .normal (F.upd (F.upd (F.upd f20 49 (f20 18)) 50 t76) 18 t76) w21))
     (Q15 (.exit 0) (F.upd (F.upd (F.upd f16 46 (f16 18)) 47 (f16 6)) 48 t18) w17))
    (blockQ 0 (seqQ (fun f77 w78 =>
   k (f77 16) w78) (bodyQ Try.prog [.tmp 14] k)))
    (F.upd (F.upd (F.upd (F.upd (F.upd (F.upd (F.upd (F.upd (F.upd (F.upd (F.upd (F.upd (F.upd (F.upd (F.upd (F.upd (F.upd (F.upd (F.upd (F.upd (initF [v0, v1, v2, v3, v4, v5, v6]) 7 t1) 14 (.slice none 0 0)) 22 v4) 23 t3) 24 t4) 25 v4) 26 t5) 27 t6) 28 t7) 39 v3) 40 v2) 41 v4) 42 v5) 43 v6) 44 t13) 15 t13) 16 (.slice none 0 0)) 17 (.bool false)) 45 v5) 18 v5) w14) w2))) w
theorem body166 : Try.f166.body = some (bodyOf Try.f166) := by kernel_rfl
theorem same166 (v0 v1 v2 v3 v4 v5 v6 : Value) (k : Value → World → Prop) (w : World) : wpF Try.prog pl166 (bodyOf Try.f166) (bodyQ Try.prog Try.f166.results.toList k) (initF [v0, v1, v2, v3, v4, v5, v6]) w = S166 v0 v1 v2 v3 v4 v5 v6 k w := by kernel_rfl
theorem enter166 {v0 v1 v2 v3 v4 v5 v6 : Value} {k : Value → World → Prop} {w : World} (h : S166 v0 v1 v2 v3 v4 v5 v6 k w) : CallK Try.prog 166 [v0, v1, v2, v3, v4, v5, v6] k w :=
  call_of_wpF (pl := pl166) mixed Try.func166 body166 (by kernel_rfl) (of_decide_eq_true (by kernel_rfl)) (by kernel_rfl) (by kernel_rfl) (same166 v0 v1 v2 v3 v4 v5 v6 k w ▸ h)

/-! (*loop.example/g00758/impl.costing).leastRest -/
def pl167 : Plans := fun i => match i with
  | 9 => ⟨false, [6, 12], .step 0 .any (.step 1 .any (.step 2 .any (.step 3 .held (.step 4 .any (.step 5 .any (.step 7 .any (.step 8 .any (.step 9 .any (.step 10 .any (.step 11 .any (.step 6 .last (.step 12 .last (.step 13 .any (.step 14 .any (.nil)))))))))))))))⟩
  | _ => ⟨false, [], .nil⟩
def S167 (v0 v1 v2 v3 : Value) (k : Value → World → Prop) (w : World) : Prop :=
 Do Try.prog (sBuildSlice 22 0 []) (fun t1 w2 =>
 Rd Try.prog (WS.at w2) (sBuiltin .len #[22] 3 [false] [v1]) fun t3 =>
 Rd Try.prog (WS.at w2) (sBin .eql 3 true t3 (.int .i64 0)) fun t4 =>
 CondK t4
  (k t1 w2)
  (CallK Try.prog 154 [v0, v1, v2, v3] (fun t5 w6 =>
  LoopF [27, 28, 29, 32, 33, 34, 35, 36, 37, 38, 39, 40, 41, 42, 43, 44, 13, 14, 45, 46, 47, 48, 49, 50, 51, 52, 53, 54, 55, 56, 57, 58, 15, 59, 60, 61, 62, 63, 64, 65, 66, 67, 68, 69, 70, 71, 15, 72, 73, 74, 75, 76, 77, 78, 79, 15, 80, 81, 82, 83, 84, 85, 86, 87, 88, 9, 11, 30, 31, 12] (fun Q7 f8 w9 =>
   Rd Try.prog (WS.at w9) (sBin .leq 3 false (f8 12) (f8 3)) fun t10 =>
   CondK t10
    (Join (fun K11 =>
    Rd Try.prog WS.any (sIndexAddr 22 (f8 1) (.int .i64 0)) fun t14 =>
    Rd Try.prog (WS.at w9.drew) (sLoad 3 t14) fun t15 =>
    Rd Try.prog WS.any (sSlice 22 (f8 1) (some (.int .i64 1)) none none) fun t16 =>
    CallK Try.prog 184 [(f8 0), t15, (f8 2), (f8 12)] (fun t17 w18 =>
    CallK Try.prog 154 [(f8 0), t16, (f8 12), (f8 3)] (fun t19 w20 =>
    Rd Try.prog (WS.at w20) (sBin .lss 3 true t17 (.int .i64 0)) fun t21 =>
    GuardK t21 false (fun k w' => k t19 w') (fun t22 w23 =>
    GuardK t21 false (fun k w' => Rd Try.prog (WS.at w23) (sBin .lss 3 true t22 (.int .i64 0)) fun v => k v w') (fun t24 w25 =>
    Rd Try.prog (WS.at w25) (sPick t21 (.bool true) t24) fun t26 =>
    GuardK t26 false (fun k w' => k t17 w') (fun t27 w28 =>
    GuardK t26 false (fun k w' => k t19 w') (fun t29 w30 =>
    GuardK t26 false (fun k w' => Rd Try.prog (WS.at w30) (sBin .add 3 false t27 t29) fun v => k v w') (fun t31 w32 =>
    GuardK t26 false (fun k w' => k (f8 10) w') (fun t33 w34 =>
    GuardK t26 false (fun k w' => Rd Try.prog (WS.at w34) (sBin .neq 3 false t31 t33) fun v => k v w') (fun t35 w36 =>
    Rd Try.prog (WS.at w36) (sPick t26 (.bool true) t35) fun t37 =>
    CondK t37
     (K11 (F.upd (F.upd (F.upd (F.upd (F.upd (F.upd (F.upd (F.upd (F.upd (F.upd (F.upd (F.upd (F.upd (F.upd (F.upd (F.upd (F.upd (F.upd (F.upd (F.upd (F.upd (F.upd (F.upd (F.upd (F.upd (F.upd (F.upd (F.upd (F.upd (F.upd (F.upd f8 27 (f8 12)) 28 (f8 3)) 29 t10) 32 (f8 0)) 33 (f8 1)) 34 t14) 35 t15) 36 (f8 2)) 37 (f8 12)) 39 (f8 0)) 40 (f8 1)) 41 t16) 42 (f8 12)) 43 (f8 3)) 38 t17) 44 t19) 13 t17) 14 t19) 45 t17) 46 t21) 47 t21) 48 t22) 49 t24) 50 t26) 51 t26) 52 t27) 53 t29) 54 t31) 55 t33) 56 t35) 57 t37) w36)
     (Do Try.prog (sBuildSlice 22 0 []) (fun t38 w39 =>
     Join (fun K40 =>
     Rd Try.prog (WS.at w39) (sIndexAddr 22 (f8 1) (.int .i64 0)) fun t43 =>
     Rd Try.prog (WS.at w39) (sLoad 3 t43) fun t44 =>
     Rd Try.prog (WS.at w39) (sBin .geq 3 true t44 (.int .i64 0)) fun t45 =>
     CondK t45
      (Rd Try.prog (WS.at w39) (sIndexAddr 22 (f8 1) (.int .i64 0)) fun t46 =>
      Rd Try.prog (WS.at w39) (sLoad 3 t46) fun t47 =>
      CallK Try.prog 126 [(f8 0), t47, (f8 2), (f8 12)] (fun t48 w49 =>
      Do Try.prog (sBuiltin .append #[22, 22] 22 [false, false] [t38, t48]) (fun t50 w51 =>
      K40 (F.upd (F.upd (F.upd (F.upd (F.upd (F.upd (F.upd (F.upd (F.upd (F.upd (F.upd (F.upd (F.upd (F.upd (F.upd (F.upd (F.upd (F.upd (F.upd (F.upd (F.upd (F.upd (F.upd (F.upd (F.upd (F.upd (F.upd (F.upd (F.upd (F.upd (F.upd (F.upd (F.upd (F.upd (F.upd (F.upd (F.upd (F.upd (F.upd (F.upd (F.upd (F.upd (F.upd (F.upd (F.upd (F.upd (F.upd f8 27 (f8 12)) 28 (f8 3)) 29 t10) 32 (f8 0)) 33 (f8 1)) 34 t14) 35 t15) 36 (f8 2)) 37 (f8 12)) 39 (f8 0)) 40 (f8 1)) 41 t16) 42 (f8 12)) 43 (f8 3)) 38 t17) 44 t19) 13 t17) 14 t19) 45 t17) 46 t21) 47 t21) 48 t22) 49 t24) 50 t26) 51 t26) 52 t27) 53 t29) 54 t31) 55 t33) 56 t35) 57 t37) 58 t38) 15 t38) 59 (f8 1)) 60 t43) 61 t44) 62 t45) 63 t38) 64 (f8 0)) 65 (f8 1)) 66 t46) 67 t47) 68 (f8 2)) 69 (f8 12)) 70 t48) 71 t50) 15 t50) w51) w49) w39)
      (K40 (F.upd (F.upd (F.upd (F.upd (F.upd (F.upd (F.upd (F.upd (F.upd (F.upd (F.upd (F.upd (F.upd (F.upd (F.upd (F.upd (F.upd (F.upd (F.upd (F.upd (F.upd (F.upd (F.upd (F.upd (F.upd (F.upd (F.upd (F.upd (F.upd (F.upd (F.upd (F.upd (F.upd (F.upd (F.upd (F.upd (F.upd f8 27 (f8 12)) 28 (f8 3)) 29 t10) 32 (f8 0)) 33 (f8 1)) 34 t14) 35 t15) 36 (f8 2)) 37 (f8 12)) 39 (f8 0)) 40 (f8 1)) 41 t16) 42 (f8 12)) 43 (f8 3)) 38 t17) 44 t19) 13 t17) 14 t19) 45 t17) 46 t21) 47 t21) 48 t22) 49 t24) 50 t26) 51 t26) 52 t27) 53 t29) 54 t31) 55 t33) 56 t35) 57 t37) 58 t38) 15 t38) 59 (f8 1)) 60 t43) 61 t44) 62 t45) w39)) (fun f41 w42 =>
     Rd Try.prog (WS.at w42) (sSlice 22 (f41 1) (some (.int .i64 1)) none none) fun t52 =>
     CallK Try.prog 167 [(f41 0), t52, (f41 12), (f41 3)] (fun t53 w54 =>
     Do Try.prog (sBuiltin .append #[22, 22] 22 [false, false] [(f41 15), t53]) (fun t55 w56 =>
     Rd Try.prog (WS.at w56) (sUn .not (f41 11)) fun t57 =>
     GuardK t57 false (fun k w' => k t55 w') (fun t58 w59 =>
     GuardK t57 false (fun k w' => k (f41 9) w') (fun t60 w61 =>
     GuardK t57 false (fun k w' => CallK Try.prog 164 [t58, t60] k w') (fun t62 w63 =>
     GuardK t57 false (fun k w' => Rd Try.prog (WS.at w63) (sBin .lss 3 true t62 (.int .i64 0)) fun v => k v w') (fun t64 w65 =>
     Rd Try.prog (WS.at w65) (sPick t57 (.bool true) t64) fun t66 =>
     CondK t66
      (K11 (F.upd (F.upd (F.upd (F.upd (F.upd (F.upd (F.upd (F.upd (F.upd (F.upd (F.upd (F.upd (F.upd (F.upd (F.upd (F.upd (F.upd (F.upd (F.upd (F.upd f41 72 (f41 15)) 73 (f41 0)) 74 (f41 1)) 75 t52) 76 (f41 12)) 77 (f41 3)) 78 t53) 79 t55) 15 t55) 80 (f41 11)) 81 t57) 82 t57) 83 t58) 84 t60) 85 t62) 86 t64) 87 t66) 88 t55) 9 t55) 11 (.bool true)) w65)
      (K11 (F.upd (F.upd (F.upd (F.upd (F.upd (F.upd (F.upd (F.upd (F.upd (F.upd (F.upd (F.upd (F.upd (F.upd (F.upd (F.upd (F.upd f41 72 (f41 15)) 73 (f41 0)) 74 (f41 1)) 75 t52) 76 (f41 12)) 77 (f41 3)) 78 t53) 79 t55) 15 t55) 80 (f41 11)) 81 t57) 82 t57) 83 t58) 84 t60) 85 t62) 86 t64) 87 t66) w65)) w63) w61) w59) w56) w54) w42)) w36)) w34) w32) w30) w28) w25) w23) w20) w18) w9.drew) (fun f12 w13 =>
    Rd Try.prog (WS.at w13) (sBin .add 3 true (f12 12) (.int .i64 1)) fun t67 =>
    Q7 .normal (F.upd (F.upd (F.upd f12 30 (f12 12)) 31 t67) 12 t67) w13))
    (Q7 (.exit 0) (F.upd (F.upd (F.upd f8 27 (f8 12)) 28 (f8 3)) 29 t10) w9))
   (blockQ 0 (seqQ (fun f68 w69 =>
  k (f68 9) w69) (bodyQ Try.prog [.tmp 8] k)))
   (F.upd (F.upd (F.upd (F.upd (F.upd (F.upd (F.upd (F.upd (F.upd (F.upd (F.upd (F.upd (F.upd (F.upd (F.upd (initF [v0, v1, v2, v3]) 8 (.slice none 0 0)) 16 t1) 9 t1) 17 v1) 18 t3) 19 t4) 21 v0) 22 v1) 23 v2) 24 v3) 25 t5) 10 t5) 11 (.bool false)) 26 v2) 12 v2) w6) w2)) w
theorem body167 : Try.f167.body = some (bodyOf Try.f167) := by kernel_rfl
theorem same167 (v0 v1 v2 v3 : Value) (k : Value → World → Prop) (w : World) : wpF Try.prog pl167 (bodyOf Try.f167) (bodyQ Try.prog Try.f167.results.toList k) (initF [v0, v1, v2, v3]) w = S167 v0 v1 v2 v3 k w := by kernel_rfl
theorem enter167 {v0 v1 v2 v3 : Value} {k : Value → World → Prop} {w : World} (h : S167 v0 v1 v2 v3 k w) : CallK Try.prog 167 [v0, v1, v2, v3] k w :=
  call_of_wpF (pl := pl167) mixed Try.func167 body167 (by kernel_rfl) (of_decide_eq_true (by kernel_rfl)) (by kernel_rfl) (by kernel_rfl) (same167 v0 v1 v2 v3 k w ▸ h)

/-! loop.example/g00758/spec.l11Less -/
def pl188 : Plans := fun i => match i with
  | 4 => ⟨false, [], .step 0 .any (.step 1 .any (.step 2 .any (.step 3 .any (.step 4 .any (.step 5 .any (.step 6 .any (.step 7 .any (.step 8 .held (.step 9 .any (.step 10 .any (.step 11 .any (.step 12 .held (.step 13 .any (.step 14 .any (.nil)))))))))))))))⟩
  | 5 => ⟨false, [], .step 0 .any (.step 1 .any (.step 2 .any (.step 3 .any (.step 4 .any (.step 5 .any (.step 6 .any (.step 7 .any (.step 8 .held (.step 9 .any (.step 10 .any (.step 11 .any (.step 12 .held (.step 13 .any (.step 14 .any (.step 15 .any (.nil))))))))))))))))⟩
  | _ => ⟨false, [], .nil⟩
def S188 (v0 v1 : Value) (k : Value → World → Prop) (w : World) : Prop :=
 Rd Try.prog (WS.at w) (sBuiltin .len #[22] 3 [false] [v0]) fun t1 =>
 LoopF [9, 10, 5, 11, 12, 13, 14, 15, 16, 17, 18, 19, 20, 21, 22, 23, 24, 25, 26, 27, 28, 29, 30, 31, 32, 33, 34, 35, 36, 37, 38, 39, 40, 4, 41, 8] (fun Q2 f3 w4 =>
  Rd Try.prog (WS.at w4) (sBin .lss 3 false (f3 8) (f3 7)) fun t5 =>
  CondK t5
   (Rd Try.prog WS.any (sBuiltin .len #[22] 3 [false] [(f3 1)]) fun t6 =>
   Rd Try.prog WS.any (sBin .geq 3 false (f3 8) t6) fun t7 =>
   GuardK t7 false (fun k w' => k (f3 0) w') (fun t8 w9 =>
   GuardK t7 false (fun k w' => k (f3 8) w') (fun t10 w11 =>
   GuardK t7 false (fun k w' => Rd Try.prog WS.any (sIndexAddr 22 t8 t10) fun v => k v w') (fun t12 w13 =>
   GuardK t7 false (fun k w' => Rd Try.prog (WS.at w4.drew) (sLoad 3 t12) fun v => k v w') (fun t14 w15 =>
   GuardK t7 false (fun k w' => k (f3 1) w') (fun t16 w17 =>
   GuardK t7 false (fun k w' => k (f3 8) w') (fun t18 w19 =>
   GuardK t7 false (fun k w' => Rd Try.prog WS.any (sIndexAddr 22 t16 t18) fun v => k v w') (fun t20 w21 =>
   GuardK t7 false (fun k w' => Rd Try.prog (WS.at w4.drew) (sLoad 3 t20) fun v => k v w') (fun t22 w23 =>
   GuardK t7 false (fun k w' => Rd Try.prog WS.any (sBin .neq 3 false t14 t22) fun v => k v w') (fun t24 w25 =>
   Rd Try.prog WS.any (sPick t7 (.bool true) t24) fun t26 =>
   CondK t26
    (Rd Try.prog WS.any (sBuiltin .len #[22] 3 [false] [(f3 1)]) fun t27 =>
    Rd Try.prog WS.any (sBin .lss 3 false (f3 8) t27) fun t28 =>
    GuardK t28 true (fun k w' => k (f3 0) w') (fun t29 w30 =>
    GuardK t28 true (fun k w' => k (f3 8) w') (fun t31 w32 =>
    GuardK t28 true (fun k w' => Rd Try.prog WS.any (sIndexAddr 22 t29 t31) fun v => k v w') (fun t33 w34 =>
    GuardK t28 true (fun k w' => Rd Try.prog (WS.at w25.drew) (sLoad 3 t33) fun v => k v w') (fun t35 w36 =>
    GuardK t28 true (fun k w' => k (f3 1) w') (fun t37 w38 =>
    GuardK t28 true (fun k w' => k (f3 8) w') (fun t39 w40 =>
    GuardK t28 true (fun k w' => Rd Try.prog WS.any (sIndexAddr 22 t37 t39) fun v => k v w') (fun t41 w42 =>
    GuardK t28 true (fun k w' => Rd Try.prog (WS.at w25.drew) (sLoad 3 t41) fun v => k v w') (fun t43 w44 =>
    GuardK t28 true (fun k w' => Rd Try.prog WS.any (sBin .lss 3 false t35 t43) fun v => k v w') (fun t45 w46 =>
    Rd Try.prog WS.any (sPick t28 t45 (.bool false)) fun t47 =>
    Q2 .ret (F.upd (F.upd (F.upd (F.upd (F.upd (F.upd (F.upd (F.upd (F.upd (F.upd (F.upd (F.upd (F.upd (F.upd (F.upd (F.upd (F.upd (F.upd (F.upd (F.upd (F.upd (F.upd (F.upd (F.upd (F.upd (F.upd (F.upd (F.upd (F.upd (F.upd (F.upd (F.upd (F.upd (F.upd f3 9 t5) 10 (f3 8)) 5 (f3 8)) 11 (f3 8)) 12 (f3 1)) 13 t6) 14 t7) 15 t7) 16 t8) 17 t10) 18 t12) 19 t14) 20 t16) 21 t18) 22 t20) 23 t22) 24 t24) 25 t26) 26 (f3 8)) 27 (f3 1)) 28 t27) 29 t28) 30 t28) 31 t29) 32 t31) 33 t33) 34 t35) 35 t37) 36 t39) 37 t41) 38 t43) 39 t45) 40 t47) 4 t47) w46) w44) w42) w40) w38) w36) w34) w32) w30) w25.drew)
    (Rd Try.prog (WS.at w25) (sBin .add 3 true (f3 8) (.int .i64 1)) fun t48 =>
    Q2 .normal (F.upd (F.upd (F.upd (F.upd (F.upd (F.upd (F.upd (F.upd (F.upd (F.upd (F.upd (F.upd (F.upd (F.upd (F.upd (F.upd (F.upd (F.upd (F.upd (F.upd f3 9 t5) 10 (f3 8)) 5 (f3 8)) 11 (f3 8)) 12 (f3 1)) 13 t6) 14 t7) 15 t7) 16 t8) 17 t10) 18 t12) 19 t14) 20 t16) 21 t18) 22 t20) 23 t22) 24 t24) 25 t26) 41 t48) 8 t48) w25)) w23) w21) w19) w17) w15) w13) w11) w9) w4.drew)
   (Q2 (.exit 0) (F.upd f3 9 t5) w4))
  (blockQ 0 (seqQ (fun f49 w50 =>
 Rd Try.prog (WS.at w50) (sBuiltin .len #[22] 3 [false] [(f49 0)]) fun t51 =>
 Rd Try.prog (WS.at w50) (sBuiltin .len #[22] 3 [false] [(f49 1)]) fun t52 =>
 Rd Try.prog (WS.at w50) (sBin .lss 3 false t51 t52) fun t53 =>
 k t53 w50) (bodyQ Try.prog [.tmp 4] k)))
  (F.upd (F.upd (F.upd (F.upd (initF [v0, v1]) 4 (.bool false)) 6 v0) 7 t1) 8 (.int .i64 0)) w
theorem body188 : Try.f188.body = some (bodyOf Try.f188) := by kernel_rfl
theorem same188 (v0 v1 : Value) (k : Value → World → Prop) (w : World) : wpF Try.prog pl188 (bodyOf Try.f188) (bodyQ Try.prog Try.f188.results.toList k) (initF [v0, v1]) w = S188 v0 v1 k w := by kernel_rfl
theorem enter188 {v0 v1 : Value} {k : Value → World → Prop} {w : World} (h : S188 v0 v1 k w) : CallK Try.prog 188 [v0, v1] k w :=
  call_of_wpF (pl := pl188) mixed Try.func188 body188 (by kernel_rfl) (of_decide_eq_true (by kernel_rfl)) (by kernel_rfl) (by kernel_rfl) (same188 v0 v1 k w ▸ h)

end Go.Proofs.Ytiohaeckagjebaa

/- Contracts: rules of a nonterminal, lists in order, the least tree with the least cost (the reference). -/
set_option linter.unusedVariables false
set_option linter.unusedSimpArgs false
set_option maxRecDepth 100000
namespace Go.Sh
open Go
def rulesOf (rs : List RuleL) (A : Nat) (n : Nat) : List Int := ((List.range n).filter fun q => decide ((rul rs q).1 = (A : Int))).map fun q : Nat => (q : Int)
theorem rulesOf_yes {rs : List RuleL} {A n : Nat} (h : (rul rs n).1 = (A : Int)) : rulesOf rs A (n + 1) = rulesOf rs A n ++ [(n : Int)] := by
  unfold rulesOf
  rw [List.range_succ, List.filter_append, List.map_append]
  simp [h]
theorem rulesOf_no {rs : List RuleL} {A n : Nat} (h : ¬ (rul rs n).1 = (A : Int)) : rulesOf rs A (n + 1) = rulesOf rs A n := by
  unfold rulesOf
  rw [List.range_succ, List.filter_append, List.map_append]
  simp [h]
theorem rulesOf_len (rs : List RuleL) (A n : Nat) : (rulesOf rs A n).length ≤ n := by
  unfold rulesOf
  rw [List.length_map]
  exact Nat.le_trans (List.length_filter_le _ _) (by simp)
theorem rulesOf_at {rs : List RuleL} {A n l : Nat} (h : l < (rulesOf rs A n).length) : ∃ q : Nat, (rulesOf rs A n).getD l 0 = (q : Int) ∧ q < n ∧ (rul rs q).1 = (A : Int) ∧ ((List.range n).filter fun q => decide ((rul rs q).1 = (A : Int)))[l]? = some q := by
  unfold rulesOf at h ⊢
  rw [List.length_map] at h
  have hm := List.getElem_mem h
  have := List.mem_filter.1 hm
  refine ⟨_, ?_, List.mem_range.1 this.1, of_decide_eq_true this.2, List.getElem?_eq_getElem h⟩
  rw [List.getD_eq_getElem?_getD, List.getElem?_map, List.getElem?_eq_getElem h]
  rfl
theorem find_at {α : Type} {p : α → Bool} : ∀ {l : List α} {i : Nat} {a : α}, l[i]? = some a → (∀ j b, j < i → l[j]? = some b → p b = false) → p a = true → l.find? p = some a := by
  intro l
  induction l with
  | nil => intro i a h; simp at h
  | cons x l ih =>
    intro i a h h1 h2
    cases i with
    | zero =>
      obtain rfl : x = a := by simpa using h
      rw [List.find?_cons, h2]
    | succ i =>
      have hx : p x = false := h1 0 x (by omega) rfl
      rw [List.find?_cons, hx]
      exact ih (by simpa using h) (fun j b hj hb => h1 (j + 1) b (by omega) (by simpa using hb)) h2
theorem find_no {α : Type} {p : α → Bool} {l : List α} (h : ∀ (j : Nat) (b : α), l[j]? = some b → p b = false) : l.find? p = none := by
  rw [List.find?_eq_none]
  intro x hx
  obtain ⟨j, hj⟩ := List.getElem?_of_mem hx
  rw [h j x hj]
  exact Bool.false_ne_true
def hitQ (rs : List RuleL) (ws cs : List Int) (T : CT) (A i j q : Nat) : Bool := decide (candC rs ws cs T q i j = T A i j) && (T A i j).isSome
theorem bestQ_filter (rs : List RuleL) (ws cs : List Int) (T : CT) (A i j : Nat) : bestQ rs ws cs T A i j = ((List.range rs.length).filter fun q => decide ((rul rs q).1 = (A : Int))).find? (hitQ rs ws cs T A i j) := by
  rw [List.find?_filter]
  unfold bestQ
  congr 1
  funext q
  simp [isBestQ, hitQ, Bool.decide_and]
/-- The best tree, from enough. -/
def bigF : Nat := 100000000
theorem bestTr_big {rs : List RuleL} {ws cs : List Int} {T : CT} (hc : ∀ q, q < rs.length → 0 < costQ cs q) (hp : PosG T) {A i j n : Nat} (hn : T A i j = some n) (hle : n ≤ 100000000) :
    bestTr rs ws cs T bigF A i j = match bestQ rs ws cs T A i j with | none => [] | some q => (q : Int) :: bestRow (bestTr rs ws cs T bigF) ws T (rul rs q).2 i j := by
  have h : bestTr rs ws cs T bigF A i j = bestTr rs ws cs T (bigF + 1) A i j := bestTr_more hc hp hn (by unfold bigF; exact hle) (by unfold bigF; omega)
  rw [h]
  rfl
theorem bestTr_blen {rs : List RuleL} {ws cs : List Int} {T : CT} (hc : ∀ q, q < rs.length → 0 < costQ cs q) {A i j n : Nat} (hn : T A i j = some n) : (bestTr rs ws cs T bigF A i j).length ≤ n := bestTr_len hc hn
end Go.Sh
namespace Go.Proofs.Ytiohaeckagjebaa
open Go Go.Sh Go.RowKit
theorem l1Rules_c {F : Nat → Prop} {w : World} {v : Value} {gm : Gram} {A : Nat} (hv : GramV F w v gm) (hg : goodG gm = true) {k : Value → World → Prop}
    (hk : ∀ w' U d, Gr w w' → Own 3 w' w.heap.size U d (rulesOf gm.rules A gm.rules.length) → k (.slice U (rulesOf gm.rules A gm.rules.length).length d) w') :
    CallK Try.prog 165 [v, .int .i64 A] k w := by
  obtain ⟨Y, cy, rfl, hc, hy⟩ := hv
  have hr16 := good_len hg
  have hn6 := good_nons hg
  refine enter165 ?_
  unfold S165
  have H := Apt.nil w
  refine boxH H fun b1 w1 H => ?_
  simp only [bin_add, bin_sub, bin_mul, bin_eql, bin_neq, bin_lss, bin_leq, bin_gtr, bin_geq, un_not, un_neg, pick_true, pick_false, extract_two_0, extract_two_1, nilCheck_pointer, cond_true', cond_false', guard_tt, guard_ff, guard_tf, guard_ft, guard_undef, seqQ_normal, seqQ_ret, seqQ_exit, blockQ_ret, blockQ_normal, blockQ_exit, bodyQ_ret, bodyQ_normal, resK_nil, resK_tmp, ite_T, ite_F, upd_at, add_plain, add_zero', len22, len35, len48, fa37_0, fa37_1, fa37_2, fa77_0, fa77_1, fa103_0, fa103_1, fa125_0, fa125_1, fa125_2, fa125_3, fa125_4, Nat.reduceEqDiff]
  rw [ldB35 (H.box 0 rfl) rfl]
  simp only [bin_add, bin_sub, bin_mul, bin_eql, bin_neq, bin_lss, bin_leq, bin_gtr, bin_geq, un_not, un_neg, pick_true, pick_false, extract_two_0, extract_two_1, nilCheck_pointer, cond_true', cond_false', guard_tt, guard_ff, guard_tf, guard_ft, guard_undef, seqQ_normal, seqQ_ret, seqQ_exit, blockQ_ret, blockQ_normal, blockQ_exit, bodyQ_ret, bodyQ_normal, resK_nil, resK_tmp, ite_T, ite_F, upd_at, add_plain, add_zero', len22, len35, len48, fa37_0, fa37_1, fa37_2, fa77_0, fa77_1, fa103_0, fa103_1, fa125_0, fa125_1, fa125_2, fa125_3, fa125_4, Nat.reduceEqDiff]
  have H := H.addOwn (Gr.refl w1) (show Own 3 w1 w1.heap.size none 0 [] from Row.nil _ _ _ _)
  simp only [List.nil_append, List.cons_append] at H
  refine loop_to gm.rules.length 0 (fun q f w' => q ≤ gm.rules.length ∧ f 11 = .int .i64 q ∧ ∃ U d, f 5 = .slice U (rulesOf gm.rules A q).length d ∧ Apt w w' [bx b1 [.int .i64 gm.nons, .int .i64 gm.toks, .slice Y gm.rules.length cy] 37, ows U d (rulesOf gm.rules A q)])
    ⟨Nat.zero_le _, rfl, none, 0, rfl, H⟩ ?_
  clear H
  rintro q f w2 N hag ⟨hq, h11, U, d, h5, H⟩ hN
  have f9 : f 9 = .slice Y gm.rules.length cy := hag 9 (by decide)
  have f10 : f 10 = .int .i64 gm.rules.length := hag 10 (by decide)
  have f1 : f 1 = .int .i64 A := hag 1 (by decide)
  simp only [f9, f10, f1, h11, h5, bin_add, bin_sub, bin_mul, bin_eql, bin_neq, bin_lss, bin_leq, bin_gtr, bin_geq, un_not, un_neg, pick_true, pick_false, extract_two_0, extract_two_1, nilCheck_pointer, cond_true', cond_false', guard_tt, guard_ff, guard_tf, guard_ft, guard_undef, seqQ_normal, seqQ_ret, seqQ_exit, blockQ_ret, blockQ_normal, blockQ_exit, bodyQ_ret, bodyQ_normal, resK_nil, resK_tmp, ite_T, ite_F, upd_at, add_plain, add_zero', len22, len35, len48, fa37_0, fa37_1, fa37_2, fa77_0, fa77_1, fa103_0, fa103_1, fa125_0, fa125_1, fa125_2, fa125_3, fa125_4, Nat.reduceEqDiff]
  by_cases hlq : q < gm.rules.length
  case neg =>
    simp only [show ¬ ((q : Int) < gm.rules.length) from by omega, decide_false, go_sem, Nat.reduceEqDiff]
    obtain rfl : q = gm.rules.length := by omega
    exact hk _ U d H.gr (H.own 1 rfl)
  simp only [show ((q : Int) < gm.rules.length) from by omega, decide_true, bin_add, bin_sub, bin_mul, bin_eql, bin_neq, bin_lss, bin_leq, bin_gtr, bin_geq, un_not, un_neg, pick_true, pick_false, extract_two_0, extract_two_1, nilCheck_pointer, cond_true', cond_false', guard_tt, guard_ff, guard_tf, guard_ft, guard_undef, seqQ_normal, seqQ_ret, seqQ_exit, blockQ_ret, blockQ_normal, blockQ_exit, bodyQ_ret, bodyQ_normal, resK_nil, resK_tmp, ite_T, ite_F, upd_at, add_plain, add_zero', len22, len35, len48, fa37_0, fa37_1, fa37_2, fa77_0, fa77_1, fa103_0, fa103_1, fa125_0, fa125_1, fa125_2, fa125_3, fa125_4, Nat.reduceEqDiff]
  obtain ⟨Z, cz, t1, t2, t3, t4⟩ := hy.row q hlq
  have hleft := good_left hg hlq
  obtain ⟨xl, hxl⟩ : ∃ x : Nat, (rul gm.rules q).1 = x := ⟨(rul gm.rules q).1.toNat, by omega⟩
  rw [hxl] at t1
  refine join_as (fun g w' => g 11 = .int .i64 (q : Int) ∧ ∃ U d, g 5 = .slice U (rulesOf gm.rules A (q + 1)).length d ∧ Apt w w' [bx b1 [.int .i64 gm.nons, .int .i64 gm.toks, .slice Y gm.rules.length cy] 37, ows U d (rulesOf gm.rules A (q + 1))]) (fun K hK => ?_) ?_
  case refine_2 =>
    rintro g w' ⟨g11, U, d, g5, H⟩
    simp only [g11, go_sem, Nat.reduceEqDiff]
    rw [i64_of (by omega) (by omega)]
    exact hN _ _ hlq ⟨hlq, rfl, U, d, g5, H⟩
  refine rdi (ixn35 hy.ptr hlq) ?_
  rw [ld_agg agg77 sz77 (cs := [.int .i64 xl, .slice Z (rul gm.rules q).2.length cz]) rfl (fun j hj => by
    match j, hj with
    | 0, _ => rw [add_add, Nat.add_zero]; exact H.gr.cell t1
    | 1, _ => rw [add_add]; exact H.gr.cell t2)]
  refine allocH H inf77 fun b3 w8 H => ?_
  refine storeH H 2 rfl sz77 rfl rfl rfl fun w9 H => ?_
  simp only [List.nil_append, List.cons_append, List.set_cons_zero, List.set_cons_succ] at H
  simp only [bin_add, bin_sub, bin_mul, bin_eql, bin_neq, bin_lss, bin_leq, bin_gtr, bin_geq, un_not, un_neg, pick_true, pick_false, extract_two_0, extract_two_1, nilCheck_pointer, cond_true', cond_false', guard_tt, guard_ff, guard_tf, guard_ft, guard_undef, seqQ_normal, seqQ_ret, seqQ_exit, blockQ_ret, blockQ_normal, blockQ_exit, bodyQ_ret, bodyQ_normal, resK_nil, resK_tmp, ite_T, ite_F, upd_at, add_plain, add_zero', len22, len35, len48, fa37_0, fa37_1, fa37_2, fa77_0, fa77_1, fa103_0, fa103_1, fa125_0, fa125_1, fa125_2, fa125_3, fa125_4, Nat.reduceEqDiff]
  rw [ldB3 (H.box 2 rfl) rfl]
  have H := H.take 2
  simp only [bin_add, bin_sub, bin_mul, bin_eql, bin_neq, bin_lss, bin_leq, bin_gtr, bin_geq, un_not, un_neg, pick_true, pick_false, extract_two_0, extract_two_1, nilCheck_pointer, cond_true', cond_false', guard_tt, guard_ff, guard_tf, guard_ft, guard_undef, seqQ_normal, seqQ_ret, seqQ_exit, blockQ_ret, blockQ_normal, blockQ_exit, bodyQ_ret, bodyQ_normal, resK_nil, resK_tmp, ite_T, ite_F, upd_at, add_plain, add_zero', len22, len35, len48, fa37_0, fa37_1, fa37_2, fa77_0, fa77_1, fa103_0, fa103_1, fa125_0, fa125_1, fa125_2, fa125_3, fa125_4, Nat.reduceEqDiff]
  have hln := rulesOf_len gm.rules A q
  by_cases hA : xl = A
  · simp only [show ((xl : Int) = (A : Int)) from by omega, decide_true, bin_add, bin_sub, bin_mul, bin_eql, bin_neq, bin_lss, bin_leq, bin_gtr, bin_geq, un_not, un_neg, pick_true, pick_false, extract_two_0, extract_two_1, nilCheck_pointer, cond_true', cond_false', guard_tt, guard_ff, guard_tf, guard_ft, guard_undef, seqQ_normal, seqQ_ret, seqQ_exit, blockQ_ret, blockQ_normal, blockQ_exit, bodyQ_ret, bodyQ_normal, resK_nil, resK_tmp, ite_T, ite_F, upd_at, add_plain, add_zero', len22, len35, len48, fa37_0, fa37_1, fa37_2, fa77_0, fa77_1, fa103_0, fa103_1, fa125_0, fa125_1, fa125_2, fa125_3, fa125_4, Nat.reduceEqDiff]
    refine pushH H 1 rfl rfl (by omega) fun t1 U1 d1 w10 H => ?_
    have e := rulesOf_yes (rs := gm.rules) (A := A) (n := q) (by omega)
    exact hK _ _ ⟨h11, U1, d1, by rw [e]; rfl, by rw [e]; exact H⟩
  · simp only [show ¬ ((xl : Int) = (A : Int)) from by omega, decide_false, bin_add, bin_sub, bin_mul, bin_eql, bin_neq, bin_lss, bin_leq, bin_gtr, bin_geq, un_not, un_neg, pick_true, pick_false, extract_two_0, extract_two_1, nilCheck_pointer, cond_true', cond_false', guard_tt, guard_ff, guard_tf, guard_ft, guard_undef, seqQ_normal, seqQ_ret, seqQ_exit, blockQ_ret, blockQ_normal, blockQ_exit, bodyQ_ret, bodyQ_normal, resK_nil, resK_tmp, ite_T, ite_F, upd_at, add_plain, add_zero', len22, len35, len48, fa37_0, fa37_1, fa37_2, fa77_0, fa77_1, fa103_0, fa103_1, fa125_0, fa125_1, fa125_2, fa125_3, fa125_4, Nat.reduceEqDiff]
    have e := rulesOf_no (rs := gm.rules) (A := A) (n := q) (by omega)
    exact hK _ _ ⟨h11, U, d, by rw [e]; exact h5, by rw [e]; exact H⟩
theorem l11Less_c {w : World} {X Y : Option Addr} {c d n m : Nat} {a b : List Int} (hX : Ints w X a) (hY : Ints w Y b) (hn : n = a.length) (hm : m = b.length) {k : Value → World → Prop} (hk : ∀ w', Gr w w' → k (.bool (decide (cmpL a b < 0))) w') :
    CallK Try.prog 188 [.slice X n c, .slice Y m d] k w := by
  subst hn hm
  refine enter188 ?_
  unfold S188
  have hle := hX.le
  simp only [go_sem, Nat.reduceEqDiff]
  refine loop_to a.length 0 (fun i f w' => i ≤ a.length ∧ i ≤ b.length ∧ f 8 = .int .i64 i ∧ Gr w w' ∧ cmpL a b = cmpL (a.drop i) (b.drop i)) ⟨Nat.zero_le _, Nat.zero_le _, rfl, Gr.refl _, by simp⟩ ?_
  rintro i f w1 N hag ⟨hi, hib, h8, gw, hE⟩ hN
  have f0 : f 0 = .slice X a.length c := hag 0 (by decide)
  have f1 : f 1 = .slice Y b.length d := hag 1 (by decide)
  have f7 : f 7 = .int .i64 a.length := hag 7 (by decide)
  simp only [f0, f1, f7, h8, go_sem, Nat.reduceEqDiff]
  by_cases hlt : i < a.length
  case neg =>
    simp only [show ¬ ((i : Int) < a.length) from by omega, decide_false, go_sem, Nat.reduceEqDiff]
    have := hk _ gw
    by_cases hb : a.length < b.length
    · rw [cmpL_left (by omega) (by omega)] at hE
      rw [hE] at this
      rw [decide_eq_true (show (a.length : Int) < (b.length : Int) by omega)]
      exact this
    · rw [cmpL_none (by omega) (by omega)] at hE
      rw [hE] at this
      rw [decide_eq_false (show ¬ (a.length : Int) < (b.length : Int) by omega)]
      exact this
  simp only [show ((i : Int) < a.length) from by omega, decide_true, go_sem, Nat.reduceEqDiff]
  have g1 := gr_trans gw (gr_drew w1)
  have g2 := gr_trans g1 (gr_drew w1.drew)
  by_cases hb : i < b.length
  case neg =>
    simp only [show ((b.length : Int) ≤ i) from by omega, show ¬ ((i : Int) < b.length) from by omega, decide_true, decide_false, go_sem, Nat.reduceEqDiff]
    rw [cmpL_right hlt (by omega)] at hE
    have := hk _ g2
    rw [hE] at this
    exact this
  simp only [show ¬ ((b.length : Int) ≤ i) from by omega, decide_false, go_sem, Nat.reduceEqDiff]
  refine rdi (ixn22 hX.ptr hlt) (rdi (ld3 ((hX.gr g1).cell i hlt)) ?_)
  refine rdi (ixn22 hY.ptr hb) (rdi (ld3 ((hY.gr g1).cell i hb)) ?_)
  simp only [go_sem, Nat.reduceEqDiff]
  rw [cmpL_drop hlt hb] at hE
  by_cases e : a.getD i 0 = b.getD i 0
  · simp only [e, decide_true, Bool.not_true, go_sem, Nat.reduceEqDiff]
    rw [i64_of (by omega) (by omega)]
    rw [if_neg (fun h => h (cmpI_eq.2 e))] at hE
    exact hN _ _ hlt ⟨by omega, by omega, rfl, g1, hE⟩
  · simp only [e, show ((i : Int) < b.length) from by omega, decide_true, decide_false, Bool.not_false, go_sem, Nat.reduceEqDiff]
    refine rdi (ixn22 hX.ptr hlt) (rdi (ld3 ((hX.gr g2).cell i hlt)) ?_)
    refine rdi (ixn22 hY.ptr hb) (rdi (ld3 ((hY.gr g2).cell i hb)) ?_)
    simp only [go_sem, Nat.reduceEqDiff]
    rw [if_pos (fun h => e (cmpI_eq.1 h))] at hE
    have := hk _ g2
    rw [hE] at this
    rw [show decide (a.getD i 0 < b.getD i 0) = decide (cmpI (a.getD i 0) (b.getD i 0) < 0) from by rw [decide_eq_decide, cmpI_lt]]
    exact this
end Go.Proofs.Ytiohaeckagjebaa

/- Contracts: how few changes make a symbol, a row of symbols (the program's one, rest). -/
set_option linter.unusedVariables false
set_option linter.unusedSimpArgs false
set_option maxRecDepth 100000
namespace Go.Proofs.Ytiohaeckagjebaa
open Go Go.Sh Go.RowKit
end Go.Proofs.Ytiohaeckagjebaa

/- Contract: the program's table of mending (mends). -/
set_option linter.unusedVariables false
set_option linter.unusedSimpArgs false
set_option maxRecDepth 100000
namespace Go.Proofs.Ytiohaeckagjebaa
open Go Go.Sh Go.RowKit
end Go.Proofs.Ytiohaeckagjebaa

/- Contracts: LeastMend and MendTable of the reference and of the program. -/
set_option linter.unusedVariables false
set_option linter.unusedSimpArgs false
set_option maxRecDepth 100000
namespace Go.Sh
open Go
theorem FixG.ex {c : CandG} {rs : List RuleL} {n : Nat} (hc : OfferG c rs n) : ∀ (m : Nat) (T : CT), SmallG T → sumG T ≤ m → ∃ U, FixG c rs n T U := by
  intro m
  induction m with
  | zero =>
    intro T hS hT
    rcases (passG_drop hc (s := (T, false)) hS).2 with h | ⟨_, h⟩
    · exact ⟨_, .done (by rw [h])⟩
    · exact absurd h (by dsimp only at h ⊢; omega)
  | succ m ih =>
    intro T hS hT
    obtain ⟨h0, h⟩ := passG_drop hc (s := (T, false)) hS
    rcases h with h | ⟨h1, h2⟩
    · exact ⟨_, .done (by rw [h])⟩
    · obtain ⟨U, hU⟩ := ih (passG c rs n (T, false)).1 h0 (by dsimp only at h2; omega)
      exact ⟨U, .more h1 hU⟩
open Classical in
noncomputable def fixT (c : CandG) (rs : List RuleL) (n : Nat) : CT := if h : ∃ U, FixG c rs n noCT U then Classical.choose h else noCT
theorem FixG.eq {c : CandG} {rs : List RuleL} {n : Nat} {U : CT} (h : FixG c rs n noCT U) : U = fixT c rs n := by
  unfold fixT
  rw [dif_pos ⟨U, h⟩]
  exact h.det (Classical.choose_spec (⟨U, h⟩ : ∃ U, FixG c rs n noCT U))
theorem fixT_fix {c : CandG} {rs : List RuleL} {n : Nat} (hc : OfferG c rs n) : FixG c rs n noCT (fixT c rs n) := by
  obtain ⟨U, hU⟩ := FixG.ex hc (sumG noCT) noCT smallG_none (Nat.le_refl _)
  rw [← hU.eq]
  exact hU
end Go.Sh
namespace Go.Proofs.Ytiohaeckagjebaa
open Go Go.Sh Go.RowKit
end Go.Proofs.Ytiohaeckagjebaa
