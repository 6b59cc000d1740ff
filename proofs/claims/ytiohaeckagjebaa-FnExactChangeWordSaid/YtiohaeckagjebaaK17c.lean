/- Texts of this repository put together: ShC0, ShC4, ShG0, ShG1, Bb, ShG2, ShG3, ShG4, ShA2, ShH0, Bc, ShH7, ShK, ShC1. -/
import Derived.Test.YtiohaeckagjebaaK17b
import Derived.Test.YtiohaeckagjebaaProg
import Derived.Test.YtiohaeckagjebaaK17a
import Derived.ArgAppend

/- Contracts: reading slices of numbers; the small functions of the laws. -/
set_option linter.unusedVariables false
set_option linter.unusedSimpArgs false
set_option maxRecDepth 100000
namespace Go.Sh
open Go
/-- A slice of ints that is read. -/
structure Ints (w : World) (X : Option Addr) (xs : List Int) : Prop where
  le : xs.length ≤ 9223372036854775807
  ptr : 0 < xs.length → X = some (ad X)
  cell : ∀ j, j < xs.length → w.cell? ((ad X).add j) = some (.int .i64 (xs.getD j 0))
theorem Ints.gr {w w' : World} {X : Option Addr} {xs : List Int} (h : Ints w X xs) (g : Gr w w') : Ints w' X xs := ⟨h.le, h.ptr, fun j hj => g.cell (h.cell j hj)⟩
theorem i64_of {n : Int} (h0 : -9223372036854775808 ≤ n) (h1 : n ≤ 9223372036854775807) : IntKind.i64.wrap n = n := IntWalk.i64_in n ⟨by omega, by omega⟩
theorem take_snoc {xs : List Int} {i : Nat} (h : i < xs.length) : xs.take (i + 1) = xs.take i ++ [xs.getD i 0] := by
  rw [List.take_succ_eq_append_getElem h]
  simp [List.getD_eq_getElem?_getD, h]
def ints (xs : List Int) : List Value := xs.map (Value.int .i64)
theorem ints_length (xs : List Int) : (ints xs).length = xs.length := by simp [ints]
theorem ints_append (xs ys : List Int) : ints (xs ++ ys) = ints xs ++ ints ys := by simp [ints]
theorem ints_at {xs : List Int} {j : Nat} (h : j < xs.length) : (ints xs)[j]? = some (.int .i64 (xs.getD j 0)) := by simp [ints, List.getD_eq_getElem?_getD, h]
theorem ints_one (xs : List Int) : ∀ v ∈ ints xs, v.oneCell' = true := by
  intro v hv
  obtain ⟨x, _, rfl⟩ := List.mem_map.1 hv
  rfl
theorem Ints.src {w : World} {X : Option Addr} {xs : List Int} (h : Ints w X xs) : Src w X (ints xs) := by
  refine ⟨fun hn => h.ptr ?_, fun j u hu => ?_⟩
  · cases xs with
    | nil => exact absurd rfl hn
    | cons x xs => simp
  · have hj : j < xs.length := by
      have := (List.getElem?_eq_some_iff.1 hu).1
      rwa [ints_length] at this
    rw [ints_at hj] at hu
    exact (h.cell j hj).trans hu
theorem Ints.of_src {w : World} {X : Option Addr} {xs : List Int} (h : Src w X (ints xs)) (hl : xs.length ≤ 9223372036854775807) : Ints w X xs := by
  refine ⟨hl, fun hp => h.ptr ?_, fun j hj => h.cell j _ (ints_at hj)⟩
  cases xs with
  | nil => simp at hp
  | cons x xs => simp [ints]
theorem Ints.sub {w : World} {X : Option Addr} {xs : List Int} (h : Ints w X xs) {l c : Nat} (hl : l ≤ xs.length) (hc : xs.length ≤ c) (m : Nat) : Ints w (sub X l c 1) ((xs.drop l).take m) := by
  refine Ints.of_src ?_ (by have := h.le; simp; omega)
  have := h.src.sub (l := l) (c := c) (sz := 1) (by rw [ints_length]; omega) (by rw [ints_length]; omega) m
  rw [Nat.mul_one] at this
  simpa [ints] using this
/-- A slice of ints of the call's own. -/
abbrev Own (e : Nat) (w : World) (B : Nat) (X : Option Addr) (c : Nat) (xs : List Int) : Prop := Row w B e 1 X xs.length c (ints xs)
theorem Own.ints {e : Nat} {w : World} {B c : Nat} {X : Option Addr} {xs : List Int} (h : Own e w B X c xs) : Ints w X xs := Ints.of_src h.src (by have := Row.cap h; omega)
theorem callV {P : Program} {g : FuncId} {a b : Array Value} {args : List Value} {t : TypeId} {k : Value → World → Prop} {w : World} (h : CallK P g (a.toList ++ args ++ b.toList) k w) : Do P (sCallV (.func (.func g) a b) args t) k w := by
  obtain ⟨⟨fn, hf, hbody, hname⟩, hc⟩ := h
  have h1 : ¬ fn.name = "runtime.NumGoroutine" := by simpa using hname
  have h2 : ¬ fn.body = none := by
    intro e
    rw [e] at hbody
    cases hbody
  have e' : (sCallV (.func (.func g) a b) args t).run P w = .ok (.enter g (a ++ args.toArray ++ b)) w := by
    simp [sCallV, Deferred.ofValue, invoke, callFunc, program, hf, h1, h2, Sem.run]
  unfold Do
  rw [e']
  have e2 : (a.toList ++ args ++ b.toList).toArray = a ++ args.toArray ++ b := by simp
  rw [e2] at hc
  exact hc
theorem callV0 {P : Program} {g : FuncId} {args : List Value} {t : TypeId} {k : Value → World → Prop} {w : World} (h : CallK P g args k w) : Do P (sCallV (.func (.func g) #[] #[]) args t) k w :=
  callV (a := #[]) (b := #[]) (by
    have e : (#[] : Array Value).toList ++ args ++ (#[] : Array Value).toList = args := by simp
    rw [e]
    exact h)
theorem callVc {P : Program} {g : FuncId} {args caps : List Value} {t : TypeId} {k : Value → World → Prop} {w : World} (h : CallK P g (args ++ caps) k w) : Do P (sCallV (.func (.func g) #[] caps.toArray) args t) k w :=
  callV (a := #[]) (b := caps.toArray) (by
    have e : (#[] : Array Value).toList ++ args ++ caps.toArray.toList = args ++ caps := by simp
    rw [e]
    exact h)
def inB (n lo hi : Int) : Bool := decide (lo ≤ n) && decide (n ≤ hi)
def allB (xs : List Int) (lo hi : Int) : Bool := xs.all (inB · lo hi)
theorem getD_mem {xs : List Int} {i : Nat} (h : i < xs.length) : xs.getD i 0 ∈ xs := by
  rw [List.getD_eq_getElem?_getD, List.getElem?_eq_getElem h]
  exact List.getElem_mem h
theorem all_of {xs : List Int} {p : Int → Bool} (h : ∀ j, j < xs.length → p (xs.getD j 0) = true) : xs.all p = true := by
  rw [List.all_eq_true]
  intro x hx
  obtain ⟨j, hj, rfl⟩ := List.getElem_of_mem hx
  have := h j hj
  rwa [List.getD_eq_getElem?_getD, List.getElem?_eq_getElem hj] at this
theorem not_all_of {xs : List Int} {p : Int → Bool} {i : Nat} (hi : i < xs.length) (h : p (xs.getD i 0) = false) : xs.all p = false := by
  rw [List.all_eq_false]
  exact ⟨_, getD_mem hi, by rw [h]; decide⟩
end Go.Sh
namespace Go.Proofs.Ytiohaeckagjebaa
open Go Go.Sh Go.RowKit

theorem in_c {n lo hi : Int} {w : World} {k : Value → World → Prop} (hk : k (.bool (inB n lo hi)) w) : CallK Try.prog 103 [.int .i64 n, .int .i64 lo, .int .i64 hi] k w := by
  refine enter103 ?_
  unfold S103
  unfold inB at hk
  simp only [go_sem, Nat.reduceEqDiff]
  by_cases h : lo ≤ n
  · simp only [h, decide_true, go_sem, Nat.reduceEqDiff, Bool.true_and] at hk ⊢
    exact hk
  · simp only [h, decide_false, go_sem, Nat.reduceEqDiff, Bool.false_and] at hk ⊢
    exact hk
theorem l1In_c {n lo hi : Int} {w : World} {k : Value → World → Prop} (hk : k (.bool (inB n lo hi)) w) : CallK Try.prog 77 [.int .i64 n, .int .i64 lo, .int .i64 hi] k w := by
  refine enter77 ?_
  unfold S77
  unfold inB at hk
  simp only [go_sem, Nat.reduceEqDiff]
  by_cases h : lo ≤ n
  · simp only [h, decide_true, go_sem, Nat.reduceEqDiff, Bool.true_and] at hk ⊢
    exact hk
  · simp only [h, decide_false, go_sem, Nat.reduceEqDiff, Bool.false_and] at hk ⊢
    exact hk

theorem eqIntS_c {w : World} {X Y : Option Addr} {c d : Nat} {xs ys : List Int} (hx : Ints w X xs) (hy : Ints w Y ys) {k : Value → World → Prop} (hk : ∀ w', Gr w w' → k (.bool (decide (xs = ys))) w') :
    CallK Try.prog 26 [.slice X xs.length c, .slice Y ys.length d] k w := by
  refine enter26 ?_
  unfold S26
  simp only [go_sem, Nat.reduceEqDiff]
  by_cases hl : xs.length = ys.length
  · simp only [Int.ofNat_inj, hl, decide_true, Bool.not_true, go_sem, Nat.reduceEqDiff]
    rw [← hl]
    refine ⟨fun f w' => ∃ i : Nat, i ≤ xs.length ∧ f 5 = .int .i64 i ∧ Gr w w' ∧ xs.take i = ys.take i, fun f _ => xs.length - (intOf (f 5)).toNat, ⟨0, Nat.zero_le _, rfl, Gr.refl w, rfl⟩, ?_⟩
    rintro f w1 hag ⟨i, hi, h5, hg, hpre⟩
    have h0 : f 0 = .slice X xs.length c := hag 0 (by decide)
    have h1 : f 1 = .slice Y xs.length d := hag 1 (by decide)
    simp only [h0, h1, h5, go_sem, Nat.reduceEqDiff]
    by_cases hlt : i < xs.length
    · have hlt' : (i : Int) < xs.length := by omega
      have := hx.le
      simp only [hlt', decide_true, go_sem, Nat.reduceEqDiff]
      rw [ixn22 hx.ptr hlt, ld3 ((hx.gr (gr_trans hg (gr_drew w1))).cell i hlt), ixn22 (hl ▸ hy.ptr) hlt, ld3 ((hy.gr (gr_trans hg (gr_drew w1))).cell i (by omega))]
      simp only [go_sem, Nat.reduceEqDiff]
      by_cases he : xs.getD i 0 = ys.getD i 0
      · simp only [he, decide_true, Bool.not_true, go_sem, Nat.reduceEqDiff]
        rw [i64_of (by omega) (by omega)]
        refine ⟨⟨i + 1, hlt, rfl, gr_trans hg (gr_drew w1), ?_⟩, ?_⟩
        · rw [take_snoc hlt, take_snoc (by omega), hpre, he]
        · simp only [intOf]
          omega
      · simp only [he, decide_false, Bool.not_false, go_sem, Nat.reduceEqDiff]
        have := hk _ (gr_trans hg (gr_drew w1))
        rwa [decide_eq_false (fun e => he (by rw [e]))] at this
    · simp only [show ¬ (i : Int) < xs.length from by omega, decide_false, go_sem, Nat.reduceEqDiff]
      have := hk _ hg
      rwa [decide_eq_true] at this
      rwa [List.take_of_length_le (by omega), List.take_of_length_le (by omega)] at hpre
  · simp only [Int.ofNat_inj, hl, decide_false, Bool.not_false, go_sem, Nat.reduceEqDiff]
    have := hk _ (Gr.refl w)
    rwa [decide_eq_false (fun e => hl (by rw [e]))] at this

theorem l1All_c {w : World} {X : Option Addr} {c : Nat} {xs : List Int} {lo hi : Int} (hx : Ints w X xs) {k : Value → World → Prop} (hk : ∀ w', Gr w w' → k (.bool (allB xs lo hi)) w') :
    CallK Try.prog 75 [.slice X xs.length c, .int .i64 lo, .int .i64 hi] k w := by
  refine enter75 ?_
  unfold S75
  simp only [go_sem, Nat.reduceEqDiff]
  refine ⟨fun f w' => ∃ i : Nat, i ≤ xs.length ∧ f 11 = .int .i64 i ∧ Gr w w' ∧ ∀ j, j < i → inB (xs.getD j 0) lo hi = true, fun f _ => xs.length - (intOf (f 11)).toNat, ⟨0, Nat.zero_le _, rfl, Gr.refl w, fun j hj => absurd hj (Nat.not_lt_zero j)⟩, ?_⟩
  rintro f w1 hag ⟨i, hi', h11, hg, hpre⟩
  have h1 : f 1 = .int .i64 lo := hag 1 (by decide)
  have h2 : f 2 = .int .i64 hi := hag 2 (by decide)
  have h9 : f 9 = .slice X xs.length c := hag 9 (by decide)
  have h10 : f 10 = .int .i64 xs.length := hag 10 (by decide)
  simp only [h1, h2, h9, h10, h11, go_sem, Nat.reduceEqDiff]
  by_cases hlt : i < xs.length
  · have hlt' : (i : Int) < xs.length := by omega
    have := hx.le
    simp only [hlt', decide_true, go_sem, Nat.reduceEqDiff]
    rw [ixn22 hx.ptr hlt, ld3 ((hx.gr hg).cell i hlt)]
    refine l1In_c ?_
    simp only [go_sem, Nat.reduceEqDiff]
    cases hb : inB (xs.getD i 0) lo hi
    · simp only [Bool.not_false, go_sem, Nat.reduceEqDiff]
      have := hk _ hg
      rwa [show allB xs lo hi = false from not_all_of hlt hb] at this
    · simp only [Bool.not_true, go_sem, Nat.reduceEqDiff]
      rw [i64_of (by omega) (by omega)]
      refine ⟨⟨i + 1, hlt, rfl, hg, fun j hj => ?_⟩, ?_⟩
      · rcases Nat.lt_succ_iff_lt_or_eq.1 hj with h | rfl
        · exact hpre j h
        · exact hb
      · simp only [intOf]
        omega
  · simp only [show ¬ (i : Int) < xs.length from by omega, decide_false, go_sem, Nat.reduceEqDiff]
    have := hk _ hg
    rwa [show allB xs lo hi = true from all_of fun j hj => hpre j (by omega)] at this
end Go.Proofs.Ytiohaeckagjebaa

/- Contracts: what the laws do with slices of ints: copies, marks, looks. -/
set_option linter.unusedVariables false
set_option linter.unusedSimpArgs false
set_option maxRecDepth 100000
namespace Go.Sh
open Go
/-- The marks k, k + 1, .. -/
def marks (k : Int) (n : Nat) : List Int := (List.range n).map fun (j : Nat) => k + (j : Int)
theorem marks_length (k : Int) (n : Nat) : (marks k n).length = n := by simp [marks]
theorem marks_at {k : Int} {n j : Nat} (h : j < n) : (marks k n).getD j 0 = k + j := by simp [marks, List.getD_eq_getElem?_getD, h]
theorem set_take_drop {xs ys : List Int} {i : Nat} (h : i < ys.length) (hl : xs.length = ys.length) : (xs.take i ++ ys.drop i).set i (xs.getD i 0) = xs.take (i + 1) ++ ys.drop (i + 1) := by
  rw [take_snoc (by omega), List.set_append_right _ _ (by simp; omega)]
  have hi : i - (xs.take i).length = 0 := by simp; omega
  rw [hi, List.drop_eq_getElem_cons h, List.set_cons_zero]
  simp
theorem ints_set (xs : List Int) (i : Nat) (x : Int) : (ints xs).set i (.int .i64 x) = ints (xs.set i x) := by simp [ints, List.map_set]
theorem zeros_ints (n : Nat) : (madeCells (Value.cells (.int .i64 0)) (n * 1)).toList = ints (List.replicate n 0) := by
  rw [Nat.mul_one]
  simp [madeCells, Value.cells, ints]
  apply List.ext_getElem
  · simp
  · intro i h1 h2
    simp [Nat.mod_one]
/-- Two rows, the one younger than the other: what is written into the one doesn't touch the other. -/
theorem apart {w w' : World} {B e sz n c B' e' sz' n' c' : Nat} {X Y : Option Addr} {cs cs' : List Value} (h : Row w B e sz X n c cs) (h' : Row w' B' e' sz' Y n' c' cs') (hb : w.heap.size ≤ B') : blk X = none ∨ blk X ≠ blk Y := by
  cases hq : blk X with
  | none => exact .inl rfl
  | some q =>
    refine .inr fun e => ?_
    have := (h.ge hq).2
    have := (h'.ge e.symm).1
    omega
theorem apart' {w w' : World} {B e sz n c B' e' sz' n' c' : Nat} {X Y : Option Addr} {cs cs' : List Value} (h : Row w B e sz X n c cs) (h' : Row w' B' e' sz' Y n' c' cs') (hb : w.heap.size ≤ B') : blk Y = none ∨ blk Y ≠ blk X := by
  cases hq : blk Y with
  | none => exact .inl rfl
  | some q =>
    refine .inr fun e => ?_
    have := (h.ge e.symm).2
    have := (h'.ge hq).1
    omega
theorem Ints.kept {w w' : World} {X : Option Addr} {xs : List Int} {r : Option Nat} (h : Ints w X xs) (g : w.grownBy w' r) (hr : blk X = none ∨ blk X ≠ r) : Ints w' X xs := by
  refine ⟨h.le, h.ptr, fun j hj => ?_⟩
  have hp := h.ptr (by omega)
  refine g.cell (h.cell j hj) ?_
  rw [hp] at hr
  simp only [blk, Option.map_some] at hr
  have : ((ad X).add j).block = (ad X).block := by
    unfold Addr.add
    split <;> rfl
  rw [this]
  rcases hr with h | h
  · cases h
  · exact h
end Go.Sh
namespace Go.Proofs.Ytiohaeckagjebaa
open Go Go.Sh Go.RowKit

theorem toIntS_c {w : World} {X : Option Addr} {c n : Nat} {xs : List Int} (hx : Ints w X xs) (hn : n = xs.length) (hb : xs.length * 8 ≤ 281474976710656) {k : Value → World → Prop}
    (hk : ∀ X' c' w', Gr w w' → Own 3 w' w.heap.size X' c' xs → k (.slice X' xs.length c') w') : CallK Try.prog 24 [.slice X n c] k w := by
  subst hn
  refine enter24 ?_
  unfold S24
  simp only [go_sem, Nat.reduceEqDiff]
  refine mk22 hb fun b w1 hb1 hb2 g1 hrow => ?_
  have o1 := hrow _ (Nat.le_refl _)
  rw [zeros_ints] at o1
  refine ⟨fun f w' => ∃ i : Nat, i ≤ xs.length ∧ f 4 = .int .i64 i ∧ Gr w w' ∧ Row w' w.heap.size 3 1 (some ⟨b, 0, none⟩) xs.length xs.length (ints (xs.take i ++ (List.replicate xs.length (0 : Int)).drop i)), fun f _ => xs.length - (intOf (f 4)).toNat,
    ⟨0, Nat.zero_le _, rfl, g1, by simpa using o1⟩, ?_⟩
  rintro f w2 hag ⟨i, hi, h4, g2, o2⟩
  have f0 : f 0 = .slice X xs.length c := hag 0 (by decide)
  have f3 : f 3 = .slice (some ⟨b, 0, none⟩) xs.length xs.length := hag 3 (by decide)
  simp only [f0, f3, h4, go_sem, Nat.reduceEqDiff]
  by_cases hlt : i < xs.length
  · have hlt' : (i : Int) < xs.length := by omega
    have := hx.le
    simp only [hlt', decide_true, go_sem, Nat.reduceEqDiff]
    rw [ixn22 hx.ptr hlt, ld3 ((hx.gr g2).cell i hlt), ixn22 (X := some ⟨b, 0, none⟩) (fun _ => rfl) hlt]
    refine do_store_row sz3 rfl rfl o2 (by rw [Nat.mul_one]; exact hlt) fun w3 g3 hs3 o3 => ?_
    rw [ints_set, set_take_drop (by simpa using hlt) (by simp)] at o3
    rw [i64_of (by omega) (by omega)]
    refine ⟨⟨i + 1, hlt, rfl, gr_mod g2 g3 (fun q hq => (Row.ge o2 hq).1), o3⟩, ?_⟩
    simp only [intOf]
    omega
  · have hi' : i = xs.length := by omega
    subst hi'
    simp only [Int.lt_irrefl, decide_false, go_sem, Nat.reduceEqDiff]
    refine hk _ _ w2 g2 ?_
    simpa using o2

/-- What markIntS leaves; k must not wrap. -/
theorem markIntS_c {w : World} {B c n : Nat} {X : Option Addr} {xs : List Int} {m : Int} (hx : Own 3 w B X c xs) (hn : n = xs.length) (h0 : 0 ≤ m) (h1 : m + xs.length ≤ 9223372036854775807) {k : Value → World → Prop}
    (hk : ∀ w', w.grownBy w' (blk X) → Own 3 w' B X c (marks m xs.length) → k (.int .i64 (m + xs.length)) w') : CallK Try.prog 27 [.slice X n c, .int .i64 m] k w := by
  subst hn
  refine enter27 ?_
  unfold S27
  refine ⟨fun f w' => ∃ i : Nat, i ≤ xs.length ∧ f 5 = .int .i64 i ∧ f 1 = .int .i64 (m + i) ∧ w.grownBy w' (blk X) ∧ Row w' B 3 1 X xs.length c (ints ((marks m xs.length).take i ++ xs.drop i)), fun f _ => xs.length - (intOf (f 5)).toNat,
    ⟨0, Nat.zero_le _, rfl, by simp; rfl, gr_any (Gr.refl w) _, by simpa using hx⟩, ?_⟩
  rintro f w2 hag ⟨i, hi, h5, hf1, g2, o2⟩
  have f0 : f 0 = .slice X xs.length c := hag 0 (by decide)
  simp only [f0, hf1, h5, go_sem, Nat.reduceEqDiff]
  by_cases hlt : i < xs.length
  · have hlt' : (i : Int) < xs.length := by omega
    simp only [hlt', decide_true, go_sem, Nat.reduceEqDiff]
    rw [ixn22 (fun h => Row.ptr hx h) hlt]
    refine do_store_row sz3 rfl rfl o2 (by rw [Nat.mul_one]; exact hlt) fun w3 g3 hs3 o3 => ?_
    have e := marks_at (k := m) hlt
    rw [ints_set, ← e, set_take_drop hlt (marks_length _ _)] at o3
    rw [i64_of (by omega) (by omega), i64_of (by omega) (by omega)]
    refine ⟨⟨i + 1, hlt, rfl, by rw [Int.natCast_succ, Int.add_assoc], grownBy_trans g2 g3, o3⟩, ?_⟩
    simp only [intOf]
    omega
  · have hi' : i = xs.length := by omega
    subst hi'
    simp only [Int.lt_irrefl, decide_false, go_sem, Nat.reduceEqDiff]
    refine hk w2 g2 ?_
    have e : (marks m xs.length).take xs.length ++ xs.drop xs.length = marks m xs.length := by
      rw [List.take_of_length_le (by rw [marks_length]; exact Nat.le_refl _)]
      simp
    rw [e] at o2
    show Row _ _ _ _ _ (marks m xs.length).length _ _
    rw [marks_length]
    exact o2

theorem heldIntS_c {w : World} {X : Option Addr} {c n l : Nat} {m : Int} (hx : Ints w X (marks m l)) (hn : n = l) (h0 : 0 ≤ m) (h1 : m + l ≤ 9223372036854775807) {k : Value → World → Prop}
    (hk : ∀ w', Gr w w' → k (.int .i64 (m + l)) w') : CallK Try.prog 28 [.slice X n c, .int .i64 m] k w := by
  subst hn
  refine enter28 ?_
  unfold S28
  refine ⟨fun f w' => ∃ i : Nat, i ≤ n ∧ f 5 = .int .i64 i ∧ f 1 = .int .i64 (m + i) ∧ Gr w w', fun f _ => n - (intOf (f 5)).toNat, ⟨0, Nat.zero_le _, rfl, by simp; rfl, Gr.refl w⟩, ?_⟩
  rintro f w2 hag ⟨i, hi, h5, hf1, g2⟩
  have f0 : f 0 = .slice X n c := hag 0 (by decide)
  simp only [f0, hf1, h5, go_sem, Nat.reduceEqDiff]
  by_cases hlt : i < n
  · have hlt' : (i : Int) < n := by omega
    simp only [hlt', decide_true, go_sem, Nat.reduceEqDiff]
    have hm := (hx.gr g2).cell i (by rw [marks_length]; exact hlt)
    rw [marks_at hlt] at hm
    rw [ixn22 (fun h => hx.ptr (by rw [marks_length]; exact h)) hlt, ld3 hm]
    simp only [decide_true, Bool.not_true, go_sem, Nat.reduceEqDiff]
    rw [i64_of (by omega) (by omega), i64_of (by omega) (by omega)]
    refine ⟨⟨i + 1, hlt, rfl, by rw [Int.natCast_succ, Int.add_assoc], g2⟩, ?_⟩
    simp only [intOf]
    omega
  · have hi' : i = n := by omega
    subst hi'
    simp only [Int.lt_irrefl, decide_false, go_sem, Nat.reduceEqDiff]
    exact hk w2 g2
end Go.Proofs.Ytiohaeckagjebaa

/- Worlds that change in some blocks; rules and grammars in memory: read, owned, kept. -/
set_option linter.unusedVariables false
set_option linter.unusedSimpArgs false
set_option maxRecDepth 100000
namespace Go.Sh
open Go
/-- A world that has grown, of which only blocks of D may have changed. -/
structure Gx (D : Nat → Prop) (w w' : World) : Prop where
  os : w'.os = w.os
  tape : w'.tape = w.tape
  output : w'.output = w.output
  size : w.heap.size ≤ w'.heap.size
  block : ∀ k, k < w.heap.size → ¬ D k → w'.heap[k]? = w.heap[k]?
theorem Gx.refl (D : Nat → Prop) (w : World) : Gx D w w := ⟨rfl, rfl, rfl, Nat.le_refl _, fun _ _ _ => rfl⟩
theorem gx_of_gr {w w' : World} (g : Gr w w') (D : Nat → Prop) : Gx D w w' := ⟨g.os, g.tape, g.output, g.size, fun k hk _ => g.block k hk (by simp)⟩
theorem gx_of {w w' : World} {r : Option Nat} {D : Nat → Prop} (g : w.grownBy w' r) (h : ∀ q, r = some q → D q) : Gx D w w' := ⟨g.os, g.tape, g.output, g.size, fun k hk hn => g.block k hk fun e => hn (h k e.symm)⟩
theorem Gx.trans {D : Nat → Prop} {a b c : World} (h : Gx D a b) (g : Gx D b c) : Gx D a c :=
  ⟨g.os.trans h.os, g.tape.trans h.tape, g.output.trans h.output, Nat.le_trans h.size g.size, fun k hk hn => (g.block k (Nat.lt_of_lt_of_le hk h.size) hn).trans (h.block k hk hn)⟩
theorem Gx.gr {D : Nat → Prop} {w w' : World} (g : Gx D w w') (h : ∀ k, D k → w.heap.size ≤ k) : Gr w w' :=
  ⟨g.os, g.tape, g.output, g.size, fun k hk _ => g.block k hk fun hd => by have := h k hd; omega⟩
/-- After growth, a change in blocks that are younger or of D. -/
theorem Gx.after {D E : Nat → Prop} {a b c : World} (h : Gx D a b) (g : Gx E b c) (hE : ∀ k, E k → k < a.heap.size → D k) : Gx D a c :=
  ⟨g.os.trans h.os, g.tape.trans h.tape, g.output.trans h.output, Nat.le_trans h.size g.size, fun k hk hn => (g.block k (Nat.lt_of_lt_of_le hk h.size) fun he => hn (hE k he hk)).trans (h.block k hk hn)⟩
theorem Gx.gr_after {E : Nat → Prop} {a b c : World} (h : Gr a b) (g : Gx E b c) (hE : ∀ k, E k → a.heap.size ≤ k) : Gr a c :=
  ((gx_of_gr h fun _ => False).after g fun k he hk => by have := hE k he; omega).gr fun k hk => hk.elim
theorem lt_of_cell {w : World} {a : Addr} {v : Value} (h : w.cell? a = some v) : a.block < w.heap.size := by
  refine Classical.byContradiction fun hn => ?_
  have : w.heap[a.block]? = none := Array.getElem?_eq_none (by omega)
  simp [World.cell?, this] at h
theorem Gx.cell {D : Nat → Prop} {w w' : World} (g : Gx D w w') {a : Addr} {v : Value} (hc : w.cell? a = some v) (hn : ¬ D a.block) : w'.cell? a = some v := by
  rw [World.cell?_of_block (g.block _ (lt_of_cell hc) hn)]
  exact hc
theorem add_block (a : Addr) (j : Nat) : (a.add j).block = a.block := by
  unfold Addr.add
  split <;> rfl
theorem Row.gx {D : Nat → Prop} {w w' : World} {B e sz n c : Nat} {X : Option Addr} {cells : List Value} (h : Row w B e sz X n c cells) (g : Gx D w w') (hn : ∀ q, blk X = some q → ¬ D q) : Row w' B e sz X n c cells := by
  obtain ⟨hl, h2⟩ := h
  refine ⟨hl, ?_⟩
  rcases h2 with h2 | ⟨q, cap, cur, e1, e2, e3, e4⟩
  · exact .inl h2
  · refine .inr ⟨q, cap, cur, e1, e2, ?_, e4⟩
    obtain ⟨rfl, _, _⟩ : X = some ⟨q, 0, none⟩ ∧ n = n ∧ c = cap := by simpa using e1
    rw [g.block q (Array.getElem?_eq_some_iff.1 e3).1 (hn q rfl)]
    exact e3
theorem Box.gx {D : Nat → Prop} {w w' : World} {b t : Nat} {cs : List Value} (h : Box w b cs t) (g : Gx D w w') (hn : ¬ D b) : Box w' b cs t := by
  unfold Box
  rw [g.block b h.lt hn]
  exact h

/-- A slice of ints that is read; it lies in F. -/
structure IntsF (F : Nat → Prop) (w : World) (X : Option Addr) (xs : List Int) : Prop where
  is : Ints w X xs
  foot : 0 < xs.length → F (ad X).block
theorem IntsF.gx {F D : Nat → Prop} {w w' : World} {X : Option Addr} {xs : List Int} (h : IntsF F w X xs) (g : Gx D w w') (hn : ∀ b, F b → ¬ D b) : IntsF F w' X xs :=
  ⟨⟨h.is.le, h.is.ptr, fun j hj => g.cell (h.is.cell j hj) (by rw [add_block]; exact hn _ (h.foot (by omega)))⟩, h.foot⟩
theorem IntsF.gr {F : Nat → Prop} {w w' : World} {X : Option Addr} {xs : List Int} (h : IntsF F w X xs) (g : Gr w w') : IntsF F w' X xs := ⟨h.is.gr g, h.foot⟩
theorem IntsF.mono {F E : Nat → Prop} {w : World} {X : Option Addr} {xs : List Int} (h : IntsF F w X xs) (he : ∀ b, F b → E b) : IntsF E w X xs := ⟨h.is, fun hp => he _ (h.foot hp)⟩
theorem IntsF.of_ints {w : World} {X : Option Addr} {xs : List Int} (h : Ints w X xs) : IntsF (fun b => b < w.heap.size) w X xs :=
  ⟨h, fun hp => by have := lt_of_cell (h.cell 0 hp); rwa [add_block] at this⟩
theorem IntsF.of_own {e w B X c xs} (h : Own e w B X c xs) : IntsF (fun b => B ≤ b ∧ b < w.heap.size) w X xs :=
  ⟨Own.ints h, fun hp => by
    have hq : X = some (ad X) := Row.ptr h hp
    exact Row.ge h (q := (ad X).block) (by rw [hq]; rfl)⟩

abbrev RuleL := Int × List Int
def rul (rs : List RuleL) (j : Nat) : RuleL := rs.getD j (0, [])
theorem rul_eq {rs : List RuleL} {j : Nat} (h : j < rs.length) : rul rs j = rs[j] := by simp [rul, List.getD_eq_getElem?_getD, h]
/-- A slice of rules that is read; it lies in F. -/
structure RulesF (F : Nat → Prop) (w : World) (X : Option Addr) (rs : List RuleL) : Prop where
  le : rs.length ≤ 9223372036854775807
  ptr : 0 < rs.length → X = some (ad X)
  foot : 0 < rs.length → F (ad X).block
  row : ∀ j, j < rs.length → ∃ Y c, w.cell? ((ad X).add (j * 2)) = some (.int .i64 (rul rs j).1) ∧ w.cell? ((ad X).add (j * 2 + 1)) = some (.slice Y (rul rs j).2.length c) ∧ (rul rs j).2.length ≤ c ∧ IntsF F w Y (rul rs j).2
theorem RulesF.gx {F D : Nat → Prop} {w w' : World} {X : Option Addr} {rs : List RuleL} (h : RulesF F w X rs) (g : Gx D w w') (hn : ∀ b, F b → ¬ D b) : RulesF F w' X rs := by
  refine ⟨h.le, h.ptr, h.foot, fun j hj => ?_⟩
  obtain ⟨Y, c, h1, h2, h3, h4⟩ := h.row j hj
  have hf := hn _ (h.foot (by omega))
  exact ⟨Y, c, g.cell h1 (by rw [add_block]; exact hf), g.cell h2 (by rw [add_block]; exact hf), h3, h4.gx g hn⟩
theorem RulesF.gr {F : Nat → Prop} {w w' : World} {X : Option Addr} {rs : List RuleL} (h : RulesF F w X rs) (g : Gr w w') : RulesF F w' X rs :=
  h.gx (gx_of_gr g fun _ => False) fun _ _ h => h
theorem RulesF.mono {F E : Nat → Prop} {w : World} {X : Option Addr} {rs : List RuleL} (h : RulesF F w X rs) (he : ∀ b, F b → E b) : RulesF E w X rs := by
  refine ⟨h.le, h.ptr, fun hp => he _ (h.foot hp), fun j hj => ?_⟩
  obtain ⟨Y, c, h1, h2, h3, h4⟩ := h.row j hj
  exact ⟨Y, c, h1, h2, h3, h4.mono he⟩
/-- A rule as a value. -/
def RuleV (F : Nat → Prop) (w : World) (v : Value) (r : RuleL) : Prop := ∃ Y c, v = .agg #[.int .i64 r.1, .slice Y r.2.length c] ∧ r.2.length ≤ c ∧ IntsF F w Y r.2
theorem RuleV.gr {F : Nat → Prop} {w w' : World} {v : Value} {r : RuleL} (h : RuleV F w v r) (g : Gr w w') : RuleV F w' v r := by
  obtain ⟨Y, c, h1, h2, h3⟩ := h
  exact ⟨Y, c, h1, h2, h3.gr g⟩
structure Gram where
  nons : Int
  toks : Int
  rules : List RuleL
deriving DecidableEq
/-- A grammar as a value. -/
def GramV (F : Nat → Prop) (w : World) (v : Value) (g : Gram) : Prop := ∃ X c, v = .agg #[.int .i64 g.nons, .int .i64 g.toks, .slice X g.rules.length c] ∧ g.rules.length ≤ c ∧ RulesF F w X g.rules
theorem GramV.gr {F : Nat → Prop} {w w' : World} {v : Value} {r : Gram} (h : GramV F w v r) (g : Gr w w') : GramV F w' v r := by
  obtain ⟨Y, c, h1, h2, h3⟩ := h
  exact ⟨Y, c, h1, h2, h3.gr g⟩
theorem GramV.gx {F D : Nat → Prop} {w w' : World} {v : Value} {r : Gram} (h : GramV F w v r) (g : Gx D w w') (hn : ∀ b, F b → ¬ D b) : GramV F w' v r := by
  obtain ⟨Y, c, h1, h2, h3⟩ := h
  exact ⟨Y, c, h1, h2, h3.gx g hn⟩
theorem GramV.mono {F E : Nat → Prop} {w : World} {v : Value} {r : Gram} (h : GramV F w v r) (he : ∀ b, F b → E b) : GramV E w v r := by
  obtain ⟨Y, c, h1, h2, h3⟩ := h
  exact ⟨Y, c, h1, h2, h3.mono he⟩
theorem ld_agg {P : Program} {t : TypeId} {n : Nat} (ht : agg P t) (hs : szOf P t n) {w : World} {a : Addr} {cs : List Value} (hn : cs.length = n) (h : ∀ j (h : j < cs.length), w.cell? (a.add j) = some cs[j]) {k : Value → Prop} :
    Rd P (WS.at w) (sLoad t (.pointer (some a))) k = k (.agg cs.toArray) := rd_loadAgg ht hs hn (fun w' hw => by cases hw; exact h)
theorem ldB_agg {P : Program} {t : TypeId} {n : Nat} (ht : agg P t) (hs : szOf P t n) {w : World} {b e : Nat} {cs : List Value} (hn : cs.length = n) (hb : Box w b cs e) {k : Value → Prop} :
    Rd P (WS.at w) (sLoad t (.pointer (some ⟨b, 0, none⟩))) k = k (.agg cs.toArray) := ld_agg ht hs hn fun j hj => by
  rw [add_plain, Nat.zero_add, hb.cell, List.getElem?_eq_getElem hj]
theorem ld_rule {P : Program} {t : TypeId} (ht : agg P t) (hs : szOf P t 2) {F : Nat → Prop} {w : World} {X : Option Addr} {rs : List RuleL} (hx : RulesF F w X rs) {j : Nat} (hj : j < rs.length) {k : Value → Prop}
    (hk : ∀ v, RuleV F w v (rul rs j) → k v) : Rd P (WS.at w) (sLoad t (.pointer (some ((ad X).add (j * 2))))) k := by
  obtain ⟨Y, c, h1, h2, h3, h4⟩ := hx.row j hj
  rw [ld_agg ht hs (cs := [.int .i64 (rul rs j).1, .slice Y (rul rs j).2.length c]) rfl]
  · exact hk _ ⟨Y, c, rfl, h3, h4⟩
  · intro i hi
    match i, hi with
    | 0, _ => rw [add_add, Nat.add_zero]; exact h1
    | 1, _ => rw [add_add]; exact h2
end Go.Sh

/- Rules that the call owns: stores of whole rules, and what keeps them. -/
set_option linter.unusedVariables false
set_option linter.unusedSimpArgs false
set_option maxRecDepth 100000
namespace Go.Sh
open Go
/-- Rows of different types are different blocks. -/
theorem row_ne {w : World} {B B' e e' sz sz' n n' c c' : Nat} {X Y : Option Addr} {cs cs' : List Value} (h : Row w B e sz X n c cs) (h' : Row w B' e' sz' Y n' c' cs') (he : e ≠ e') : blk X = none ∨ blk X ≠ blk Y := by
  rcases h.2 with h2 | ⟨q, cap, cur, e1, e2, e3, e4⟩
  · obtain ⟨rfl, _, _⟩ : X = none ∧ n = 0 ∧ c = 0 := by simpa using h2.1
    exact .inl rfl
  · obtain ⟨rfl, _, _⟩ : X = some ⟨q, 0, none⟩ ∧ n = n ∧ c = cap := by simpa using e1
    refine .inr fun hq => ?_
    rcases h'.2 with h2 | ⟨q', cap', cur', e1', e2', e3', e4'⟩
    · obtain ⟨rfl, _, _⟩ : Y = none ∧ n' = 0 ∧ c' = 0 := by simpa using h2.1
      cases hq
    · obtain ⟨rfl, _, _⟩ : Y = some ⟨q', 0, none⟩ ∧ n' = n' ∧ c' = cap' := by simpa using e1'
      have : q = q' := by simpa [blk] using hq
      subst this
      rw [e3] at e3'
      simp at e3'
      exact he e3'.2
section
variable {P : Program} {k : Value → World → Prop} {w : World}
theorem run_storeRow {g j B e sz n c : Nat} : ∀ (vs : List Value) (i : Nat) (cells : List Value) (w : World), Row w B e sz (some ⟨g, 0, none⟩) n c cells → j + i + vs.length ≤ n * sz → (∀ v ∈ vs, v.oneCell' = true) →
    ∃ w', (storeCells (⟨g, j, none⟩ : Addr) vs i).run P w = .ok () w' ∧ w.grownBy w' (some g) ∧ Row w' B e sz (some ⟨g, 0, none⟩) n c (cells.take (j + i) ++ vs ++ cells.drop (j + i + vs.length)) ∧ w'.heap.size = w.heap.size := by
  intro vs
  induction vs with
  | nil =>
    intro i cells w hb _ _
    refine ⟨w, by simp [storeCells], gr_any (Gr.refl w) _, ?_, rfl⟩
    simpa using hb
  | cons v vs ih =>
    intro i cells w hO hl h1
    have hlt : j + i < n * sz := by simp at hl; omega
    have hlen := hO.len
    have hst := World.ownsRow.stored hO (j + i) v
    have hcell : w.cell? ⟨g, j + i, none⟩ = cells[j + i]? := World.ownsRow.cellAt hO (j + i) hlt
    have hc : w.cell? ⟨g, j + i, none⟩ = some (cells[j + i]'(by omega)) := by rw [hcell, List.getElem?_eq_getElem (by omega)]
    have hf : w.frozen? ⟨g, j + i, none⟩ = false := by
      rcases hO.2 with ⟨h', _⟩ | ⟨g', cap', cur, h', _, hg', _⟩
      · simp at h'
      · simp only [Value.slice.injEq, Option.some.injEq, Addr.mk.injEq] at h'
        simp only [World.frozen?]
        rw [h'.1.1, hg']
        simp
    obtain ⟨w', hr, hg', hb'', hsz⟩ := ih (i + 1) (cells.set (j + i) v) _ hst.1 (by simp at hl ⊢; omega) (fun u hu => h1 u (List.mem_cons_of_mem _ hu))
    refine ⟨w', ?_, grownBy_trans hst.2 hg', ?_, by rw [hsz]; simp [World.setCell]⟩
    · have hv := h1 v (List.mem_cons_self ..)
      have hstore : (store (⟨g, j + i, none⟩ : Addr) v).run P w = .ok () (w.setCell ⟨g, j + i, none⟩ v) := by
        unfold store
        cases v <;> first | (simp [Value.oneCell'] at hv; done) | simp [Sem.run, hc, hf]
      simp only [storeCells, Sem.run_bind, add_plain]
      rw [hstore]
      exact hr
    · have e : cells.take (j + i) ++ v :: vs ++ cells.drop (j + i + (v :: vs).length) = (cells.set (j + i) v).take (j + (i + 1)) ++ vs ++ (cells.set (j + i) v).drop (j + (i + 1) + vs.length) := by
        rw [show j + (i + 1) = j + i + 1 from by omega, List.take_succ_eq_append_getElem (by simp; omega), List.drop_set_of_lt (by omega), List.take_set_of_le (Nat.le_refl _)]
        simp only [List.getElem_set_self, List.length_cons, List.append_assoc, List.cons_append, List.nil_append]
        rw [show j + i + 1 + vs.length = j + i + (vs.length + 1) from by omega]
      rw [e]
      exact hb''
/-- A store of some cells into a row of the call's own. -/
theorem do_store_rows {t B e sz n c j m : Nat} {X : Option Addr} {cells : List Value} {v : Value} (hs : szOf P t m) (hm : v.cells.size = m) (hm0 : 0 < m) (h1 : ∀ u ∈ v.cells.toList, u.oneCell' = true) (hO : Row w B e sz X n c cells) (hj : j + m ≤ n * sz)
    (h : ∀ w', w.grownBy w' (blk X) → w'.heap.size = w.heap.size → Row w' B e sz X n c (cells.take j ++ v.cells.toList ++ cells.drop (j + m)) → k undef w') : Do P (sStore t (.pointer (some ((ad X).add j))) v) k w := by
  rcases hO.at_ with ⟨rfl, rfl, _⟩ | ⟨g, rfl, hb, hg⟩
  · simp at hj; omega
  obtain ⟨w', hr, hg', hb', hsz⟩ := run_storeRow (P := P) (j := j) v.cells.toList 0 cells w hO (by simp [hm]; omega) h1
  have e' : (sStore t (.pointer (some (⟨g, j, none⟩ : Addr))) v).run P w = .ok .skip w' := by
    simp only [sStore, Instr.storeAt, Instr.sureAddr, storeVar, Sem.run_bind, Sem.run_pure, Result.andThen, run_size hs]
    rw [if_neg (by simp [hm])]
    simp only [hr]
  have ea : (ad (some (⟨g, 0, none⟩ : Addr))).add j = ⟨g, j, none⟩ := by
    show (⟨g, 0, none⟩ : Addr).add j = _
    rw [add_plain, Nat.zero_add]
  rw [ea, do_skip e']
  have hvl : v.cells.toList.length = m := by simp [hm]
  simp only [Nat.add_zero, hvl] at hb'
  exact h _ hg' hsz hb'
end
/-- Rules of the call's own: the row, and a slice of ints of its own for each. -/
structure OwnR (e1 e2 : Nat) (w : World) (B : Nat) (X : Option Addr) (c : Nat) (rs : List RuleL) (ps : Nat → Option Addr × Nat) : Prop where
  row : ∃ cells, Row w B e1 2 X rs.length c cells ∧ ∀ j, j < rs.length → cells[j * 2]? = some (.int .i64 (rul rs j).1) ∧ cells[j * 2 + 1]? = some (.slice (ps j).1 (rul rs j).2.length (ps j).2)
  own : ∀ j, j < rs.length → Own e2 w B (ps j).1 (ps j).2 (rul rs j).2
  two : ∀ i j, i < rs.length → j < rs.length → i ≠ j → blk (ps i).1 = none ∨ blk (ps i).1 ≠ blk (ps j).1
theorem OwnR.gx {D : Nat → Prop} {e1 e2 : Nat} {w w' : World} {B : Nat} {X : Option Addr} {c : Nat} {rs : List RuleL} {ps : Nat → Option Addr × Nat} (h : OwnR e1 e2 w B X c rs ps) (g : Gx D w w') (hn : ∀ b, B ≤ b → b < w.heap.size → ¬ D b) : OwnR e1 e2 w' B X c rs ps := by
  obtain ⟨⟨cells, hr, hc⟩, ho, ht⟩ := h
  exact ⟨⟨cells, hr.gx g fun q hq => hn q (hr.ge hq).1 (hr.ge hq).2, hc⟩, fun j hj => (ho j hj).gx g fun q hq => hn q ((ho j hj).ge hq).1 ((ho j hj).ge hq).2, ht⟩
theorem OwnR.gr {e1 e2 : Nat} {w w' : World} {B : Nat} {X : Option Addr} {c : Nat} {rs : List RuleL} {ps : Nat → Option Addr × Nat} (h : OwnR e1 e2 w B X c rs ps) (g : Gr w w') : OwnR e1 e2 w' B X c rs ps :=
  h.gx (gx_of_gr g fun _ => False) fun _ _ _ h => h
theorem OwnR.mono {e1 e2 : Nat} {w : World} {B B' : Nat} {X : Option Addr} {c : Nat} {rs : List RuleL} {ps : Nat → Option Addr × Nat} (h : OwnR e1 e2 w B X c rs ps) (hb : B' ≤ B) : OwnR e1 e2 w B' X c rs ps := by
  obtain ⟨⟨cells, hr, hc⟩, ho, ht⟩ := h
  exact ⟨⟨cells, Row.mono hr hb, hc⟩, fun j hj => Row.mono (ho j hj) hb, ht⟩
theorem own_foot {e : Nat} {w : World} {B c : Nat} {X : Option Addr} {xs : List Int} (h : Own e w B X c xs) : IntsF (fun b => B ≤ b ∧ b < w.heap.size) w X xs :=
  ⟨Own.ints h, fun hp => by
    have hq : X = some (ad X) := Row.ptr h hp
    exact Row.ge h (q := (ad X).block) (by rw [hq]; rfl)⟩
theorem OwnR.read {e1 e2 : Nat} {w : World} {B : Nat} {X : Option Addr} {c : Nat} {rs : List RuleL} {ps : Nat → Option Addr × Nat} (h : OwnR e1 e2 w B X c rs ps) : RulesF (fun b => B ≤ b ∧ b < w.heap.size) w X rs := by
  obtain ⟨⟨cells, hr, hc⟩, ho, ht⟩ := h
  have hcap := hr.cap
  refine ⟨by omega, fun hp => hr.ptr hp, fun hp => ?_, fun j hj => ?_⟩
  · have hq : X = some (ad X) := hr.ptr hp
    exact hr.ge (q := (ad X).block) (by rw [hq]; rfl)
  · have hs := hr.src
    obtain ⟨h1, h2⟩ := hc j hj
    have hc' := Row.cap (ho j hj)
    exact ⟨(ps j).1, (ps j).2, hs.cell _ _ h1, hs.cell _ _ h2, by omega, own_foot (ho j hj)⟩
theorem rul_set {rs : List RuleL} {r : RuleL} {i j : Nat} (hj : j < rs.length) : rul (rs.set j r) i = if i = j then r else rul rs i := by
  simp only [rul, List.getD_eq_getElem?_getD, List.getElem?_set]
  by_cases h : i = j
  · subst h
    simp [hj]
  · rw [if_neg (fun e => h e.symm), if_neg h]
theorem set_rul {rs qs : List RuleL} {i : Nat} (h : i < qs.length) (hl : rs.length = qs.length) : (rs.take i ++ qs.drop i).set i (rul rs i) = rs.take (i + 1) ++ qs.drop (i + 1) := by
  rw [List.take_succ_eq_append_getElem (by omega), List.set_append_right _ _ (by simp; omega)]
  have hi : i - (rs.take i).length = 0 := by simp; omega
  rw [hi, List.drop_eq_getElem_cons h, List.set_cons_zero, rul_eq (by omega), List.append_assoc]
  rfl
theorem Box.ne {w : World} {b b' t : Nat} {cs : List Value} (h : Box w b cs t) (hb : w.heap.size ≤ b') : b' ≠ b := by
  have := h.lt
  omega
theorem Box.put {w w' : World} {b b' t : Nat} {cs : List Value} (h : Box w b cs t) (g : w.grownBy w' (some b')) (hn : b' ≠ b) : Box w' b cs t := h.kept g (by simpa using hn)
theorem Row.kept_old {w w' : World} {B e sz n c b : Nat} {X : Option Addr} {cells : List Value} (h : Row w B e sz X n c cells) (g : w.grownBy w' (some b)) (hb : b < B) : Row w' B e sz X n c cells := by
  refine Row.kept h g ?_
  cases hq : blk X with
  | none => exact .inl rfl
  | some q =>
    have := (Row.ge h hq).1
    refine .inr fun e => ?_
    have : q = b := by simpa using e
    omega
theorem gr_put {a b c : World} {q : Nat} (h : Gr a b) (g : b.grownBy c (some q)) (hq : a.heap.size ≤ q) : Gr a c := gr_mod h g fun x hx => by
  cases hx
  exact hq
section
variable {P : Program} {k : Value → World → Prop} {w : World}
theorem do_alloc_of {t sz by' : Nat} {z : Value} (H : Inf P t z sz by') (h : ∀ b w', Gr w w' → w.heap.size ≤ b → Box w' b z.cells.toList t → k (.pointer (some ⟨b, 0, none⟩)) w') : Do P (sAlloc t) k w := by
  obtain ⟨i, a, b, _, _⟩ := H
  exact do_alloc a b h
/-- A store of a whole rule. -/
theorem do_store_rule {t e1 e2 B c d j : Nat} {X Y : Option Addr} {rs : List RuleL} {ps : Nat → Option Addr × Nat} {r : RuleL} (hs : szOf P t 2) (he : e1 ≠ e2) (hO : OwnR e1 e2 w B X c rs ps) (hj : j < rs.length) (ho : Own e2 w B Y d r.2)
    (hne : ∀ i, i < rs.length → i ≠ j → blk Y = none ∨ blk Y ≠ blk (ps i).1)
    (h : ∀ w', w.grownBy w' (blk X) → w'.heap.size = w.heap.size → OwnR e1 e2 w' B X c (rs.set j r) (fun i => if i = j then (Y, d) else ps i) → k undef w') :
    Do P (sStore t (.pointer (some ((ad X).add (j * 2)))) (.agg #[.int .i64 r.1, .slice Y r.2.length d])) k w := by
  obtain ⟨⟨cells, hr, hc⟩, hown, htwo⟩ := hO
  have hlen := hr.len
  refine do_store_rows hs rfl (by decide) ?_ hr (by omega) fun w' g hsz hr' => h w' g hsz ?_
  · intro u hu
    simp [Value.cells] at hu
    rcases hu with rfl | rfl <;> rfl
  have hX : ∀ {Z : Option Addr} {n c : Nat} {xs : List Value}, Row w B e2 1 Z n c xs → blk Z = none ∨ blk Z ≠ blk X := fun hz => row_ne hz hr (fun e => he e.symm)
  refine ⟨⟨_, by rw [List.length_set]; exact hr', fun i hi => ?_⟩, fun i hi => ?_, fun i l hi hl hil => ?_⟩
  · rw [List.length_set] at hi
    rw [rul_set hj]
    have e0 : (Value.agg #[.int .i64 r.1, .slice Y r.2.length d]).cells.toList = [.int .i64 r.1, .slice Y r.2.length d] := rfl
    rw [e0]
    have e1 : (cells.take (j * 2) ++ [Value.int .i64 r.1, .slice Y r.2.length d]).length = j * 2 + 2 := by simp; omega
    by_cases hij : i = j
    · subst hij
      rw [if_pos rfl, if_pos rfl]
      constructor
      · rw [List.getElem?_append_left (by omega), List.getElem?_append_right (by simp; omega)]
        rw [show i * 2 - (cells.take (i * 2)).length = 0 from by simp; omega]
        rfl
      · rw [List.getElem?_append_left (by omega), List.getElem?_append_right (by simp; omega)]
        rw [show i * 2 + 1 - (cells.take (i * 2)).length = 1 from by simp; omega]
        rfl
    · rw [if_neg hij, if_neg hij]
      obtain ⟨h1, h2⟩ := hc i hi
      by_cases hlt : i < j
      · constructor
        · rw [List.getElem?_append_left (by omega), List.getElem?_append_left (by simp; omega), List.getElem?_take_of_lt (by omega)]
          exact h1
        · rw [List.getElem?_append_left (by omega), List.getElem?_append_left (by simp; omega), List.getElem?_take_of_lt (by omega)]
          exact h2
      · constructor
        · rw [List.getElem?_append_right (by omega), e1, List.getElem?_drop, show j * 2 + 2 + (i * 2 - (j * 2 + 2)) = i * 2 from by omega]
          exact h1
        · rw [List.getElem?_append_right (by omega), e1, List.getElem?_drop, show j * 2 + 2 + (i * 2 + 1 - (j * 2 + 2)) = i * 2 + 1 from by omega]
          exact h2
  · rw [List.length_set] at hi
    rw [rul_set hj]
    by_cases hij : i = j
    · simp only [hij, if_true]
      exact Row.kept ho g (hX ho)
    · simp only [hij, if_false]
      exact Row.kept (hown i hi) g (hX (hown i hi))
  · rw [List.length_set] at hi hl
    by_cases hij : i = j
    · have hlj : l ≠ j := fun e => hil (hij.trans e.symm)
      simp only [hij, hlj, if_true, if_false]
      exact hne l hl hlj
    · by_cases hlj : l = j
      · simp only [hij, hlj, if_true, if_false]
        cases hq : blk (ps i).1 with
        | none => exact .inl rfl
        | some q =>
          refine .inr fun e => ?_
          rcases hne i hi hij with hy | hy
          · rw [hy] at e
            cases e
          · exact hy (by rw [hq, e])
      · simp only [hij, hlj, if_false]
        exact htwo i l hi hl hil
end
end Go.Sh

/- Bb: bodies of functions as terms of the frame calculus, printed by shgen.py of this repository. -/
set_option linter.unusedVariables false
set_option maxRecDepth 100000
namespace Go.Proofs.Ytiohaeckagjebaa
open Go Go.Sh

/-! loop.example/g00758/laws.FnExactLongEnough -/
def pl4 : Plans := fun i => match i with
  | 10 => ⟨true, [3], .step 0 .held (.step 1 .held (.step 2 .one (.step 3 .last (.step 4 .any (.nil)))))⟩
  | _ => ⟨false, [], .nil⟩
def S4 (v0 : Value) (k : Value → World → Prop) (w : World) : Prop :=
 Do Try.prog (sBox 31 v0) (fun t1 w2 =>
 Rd Try.prog (WS.at w2) (sLoad 31 t1) fun t3 =>
 CallK Try.prog 29 [t3, (.int .i64 1048576)] (fun t4 w5 =>
 Rd Try.prog (WS.at w5) (sBin .lss 3 true t4 (.int .i64 0)) fun t6 =>
 CondK t6
  (k (.bool true) w5)
  (Rd Try.prog (WS.at w5) (sLoad 31 t1) fun t7 =>
  CallK Try.prog 31 [t7] (fun t8 w9 =>
  CallK Try.prog 30 [t8] (fun t10 w11 =>
  Rd Try.prog (WS.at w11) (sExtract t10 0) fun t12 =>
  Rd Try.prog (WS.at w11) (sExtract t10 1) fun t13 =>
  Rd Try.prog (WS.at w11) (sLoad 31 t1) fun t14 =>
  CallK Try.prog 31 [t14] (fun t15 w16 =>
  Do Try.prog (sAlloc 37) (fun t17 w18 =>
  Do Try.prog (sStore 37 t17 t15) (fun _ w19 =>
  Rd Try.prog (WS.at w19) (sLoad 37 t17) fun t20 =>
  CallK Try.prog 32 [t20] (fun t21 w22 =>
  Rd Try.prog (WS.at w22) (sExtract t21 0) fun t23 =>
  Rd Try.prog (WS.at w22) (sExtract t21 1) fun t24 =>
  Rd Try.prog (WS.at w22) (sBin .neq 3 false t23 t12) fun t25 =>
  GuardK t25 false (fun k w' => k t24 w') (fun t26 w27 =>
  GuardK t25 false (fun k w' => k t13 w') (fun t28 w29 =>
  GuardK t25 false (fun k w' => Rd Try.prog (WS.at w29) (sBin .neq 4 false t26 t28) fun v => k v w') (fun t30 w31 =>
  Rd Try.prog (WS.at w31) (sPick t25 (.bool true) t30) fun t32 =>
  CondK t32
   (k (.bool false) w31)
   (∃ S33 : World → Prop, ∃ h34 : S33 w31.drew,
   Rd Try.prog ⟨S33, w31.drew, h34⟩ (sLoad 37 t17) fun t35 =>
   Rd Try.prog ⟨S33, w31.drew, h34⟩ (sLoad 31 t1) fun t36 =>
   CallK Try.prog 31 [t36] (fun t37 w38 =>
   S33 w38 ∧ CallK Try.prog 33 [t35, t37] (fun t39 w40 =>
   Rd Try.prog WS.any (sUn .not t39) fun t41 =>
   CondK t41
    (k (.bool false) w40)
    (k (.bool true) w40)) w38) w31.drew)) w29) w27) w22) w19) w18) w16) w11) w9) w5)) w2) w
theorem body4 : Try.f4.body = some (bodyOf Try.f4) := by kernel_rfl
theorem same4 (v0 : Value) (k : Value → World → Prop) (w : World) : wpF Try.prog pl4 (bodyOf Try.f4) (bodyQ Try.prog Try.f4.results.toList k) (initF [v0]) w = S4 v0 k w := by kernel_rfl
theorem enter4 {v0 : Value} {k : Value → World → Prop} {w : World} (h : S4 v0 k w) : CallK Try.prog 4 [v0] k w :=
  call_of_wpF (pl := pl4) mixed Try.func4 body4 (by kernel_rfl) (of_decide_eq_true (by kernel_rfl)) (by kernel_rfl) (by kernel_rfl) (same4 v0 k w ▸ h)

/-! loop.example/g00758/laws.szGrammar -/
def pl29 : Plans := fun _ => ⟨false, [], .nil⟩
def S29 (v0 v1 : Value) (k : Value → World → Prop) (w : World) : Prop :=
 Do Try.prog (sBox 31 v0) (fun t1 w2 =>
 Rd Try.prog (WS.at w2) (sFieldAddr 31 t1 2) fun t3 =>
 Rd Try.prog (WS.at w2) (sLoad 29 t3) fun t4 =>
 CallK Try.prog 80 [t4, v1] (fun t5 w6 =>
 Rd Try.prog (WS.at w6) (sBin .lss 3 true t5 (.int .i64 0)) fun t7 =>
 CondK t7
  (k (.int .i64 (-1)) w6)
  (k t5 w6)) w2) w
theorem body29 : Try.f29.body = some (bodyOf Try.f29) := by kernel_rfl
theorem same29 (v0 v1 : Value) (k : Value → World → Prop) (w : World) : wpF Try.prog pl29 (bodyOf Try.f29) (bodyQ Try.prog Try.f29.results.toList k) (initF [v0, v1]) w = S29 v0 v1 k w := by kernel_rfl
theorem enter29 {v0 v1 : Value} {k : Value → World → Prop} {w : World} (h : S29 v0 v1 k w) : CallK Try.prog 29 [v0, v1] k w :=
  call_of_wpF (pl := pl29) mixed Try.func29 body29 (by kernel_rfl) (of_decide_eq_true (by kernel_rfl)) (by kernel_rfl) (by kernel_rfl) (same29 v0 v1 k w ▸ h)

/-! loop.example/g00758/spec.LongEnough -/
def pl30 : Plans := fun _ => ⟨false, [], .nil⟩
def S30 (v0 : Value) (k : Value → World → Prop) (w : World) : Prop :=
 Do Try.prog (sBox 37 v0) (fun t1 w2 =>
 Rd Try.prog (WS.at w2) (sLoad 37 t1) fun t3 =>
 CallK Try.prog 81 [t3] (fun t4 w5 =>
 Rd Try.prog (WS.at w5) (sUn .not t4) fun t6 =>
 CondK t6
  (k (.tuple #[(.int .i64 0), (.bool false)]) w5)
  (Rd Try.prog (WS.at w5) (sFieldAddr 37 t1 2) fun t7 =>
  Rd Try.prog (WS.at w5) (sLoad 35 t7) fun t8 =>
  Rd Try.prog (WS.at w5) (sBuiltin .len #[35] 3 [false] [t8]) fun t9 =>
  LoopF [16, 17, 18, 6, 19, 20, 21, 22, 23, 4, 24, 15] (fun Q10 f11 w12 =>
   Rd Try.prog (WS.at w12) (sBin .lss 3 false (f11 15) (f11 14)) fun t13 =>
   CondK t13
    (Rd Try.prog (WS.at w12) (sIndexAddr 35 (f11 13) (f11 15)) fun t14 =>
    Rd Try.prog (WS.at w12) (sLoad 77 t14) fun t15 =>
    Do Try.prog (sAlloc 77) (fun t16 w17 =>
    Do Try.prog (sStore 77 t16 t15) (fun _ w18 =>
    Rd Try.prog (WS.at w18) (sFieldAddr 77 t16 1) fun t19 =>
    Rd Try.prog (WS.at w18) (sLoad 22 t19) fun t20 =>
    Rd Try.prog (WS.at w18) (sBuiltin .len #[22] 3 [false] [t20]) fun t21 =>
    CallK Try.prog 82 [(f11 4), t21] (fun t22 w23 =>
    Rd Try.prog (WS.at w23) (sBin .add 3 true (f11 15) (.int .i64 1)) fun t24 =>
    Q10 .normal (F.upd (F.upd (F.upd (F.upd (F.upd (F.upd (F.upd (F.upd (F.upd (F.upd (F.upd (F.upd f11 16 t13) 17 t14) 18 t15) 6 t16) 19 (f11 4)) 20 t19) 21 t20) 22 t21) 23 t22) 4 t22) 24 t24) 15 t24) w23) w18) w17) w12)
    (Q10 (.exit 0) (F.upd f11 16 t13) w12))
   (blockQ 0 (seqQ (fun f25 w26 =>
  LoopF [25, 26, 27, 28, 31, 32, 33, 7, 29, 30, 8] (fun Q27 f28 w29 =>
   Rd Try.prog (WS.at w29) (sFieldAddr 37 (f28 1) 0) fun t30 =>
   Rd Try.prog (WS.at w29) (sLoad 3 t30) fun t31 =>
   Rd Try.prog (WS.at w29) (sBin .lss 3 false (f28 8) t31) fun t32 =>
   CondK t32
    (Rd Try.prog (WS.at w29) (sBin .mul 3 false (f28 7) (f28 4)) fun t33 =>
    Rd Try.prog (WS.at w29) (sBin .add 3 true (f28 8) (.int .i64 1)) fun t34 =>
    Q27 .normal (F.upd (F.upd (F.upd (F.upd (F.upd (F.upd (F.upd (F.upd (F.upd (F.upd (F.upd f28 25 (f28 8)) 26 t30) 27 t31) 28 t32) 31 (f28 7)) 32 (f28 4)) 33 t33) 7 t33) 29 (f28 8)) 30 t34) 8 t34) w29)
    (Q27 (.exit 2) (F.upd (F.upd (F.upd (F.upd f28 25 (f28 8)) 26 t30) 27 t31) 28 t32) w29))
   (blockQ 2 (seqQ (fun f35 w36 =>
  Rd Try.prog (WS.at w36) (sBin .add 3 true (f35 7) (.int .i64 1)) fun t37 =>
  Rd Try.prog (WS.at w36) (sBin .gtr 3 true t37 (.int .i64 1000)) fun t38 =>
  CondK t38
   (k (.tuple #[(.int .i64 0), (.bool false)]) w36)
   (Rd Try.prog (WS.at w36) (sBin .add 3 true (f35 7) (.int .i64 1)) fun t39 =>
   k (.tuple #[t39, (.bool true)]) w36)) (bodyQ Try.prog [.tmp 2, .tmp 3] k)))
   (F.upd (F.upd f25 7 (.int .i64 1)) 8 (.int .i64 0)) w26) (bodyQ Try.prog [.tmp 2, .tmp 3] k)))
   (F.upd (F.upd (F.upd (F.upd (F.upd (F.upd (F.upd (F.upd (F.upd (F.upd (F.upd (initF [v0]) 1 t1) 2 (.int .i64 0)) 3 (.bool false)) 9 t3) 10 t4) 11 t6) 4 (.int .i64 2)) 12 t7) 13 t8) 14 t9) 15 (.int .i64 0)) w5)) w2) w
theorem body30 : Try.f30.body = some (bodyOf Try.f30) := by kernel_rfl
theorem same30 (v0 : Value) (k : Value → World → Prop) (w : World) : wpF Try.prog pl30 (bodyOf Try.f30) (bodyQ Try.prog Try.f30.results.toList k) (initF [v0]) w = S30 v0 k w := by kernel_rfl
theorem enter30 {v0 : Value} {k : Value → World → Prop} {w : World} (h : S30 v0 k w) : CallK Try.prog 30 [v0] k w :=
  call_of_wpF (pl := pl30) mixed Try.func30 body30 (by kernel_rfl) (of_decide_eq_true (by kernel_rfl)) (by kernel_rfl) (by kernel_rfl) (same30 v0 k w ▸ h)

/-! loop.example/g00758/laws.toGrammar -/
def pl31 : Plans := fun _ => ⟨false, [], .nil⟩
def S31 (v0 : Value) (k : Value → World → Prop) (w : World) : Prop :=
 Do Try.prog (sBox 31 v0) (fun t1 w2 =>
 Do Try.prog (sAlloc 37) (fun t3 w4 =>
 Do Try.prog (sAlloc 37) (fun t5 w6 =>
 Rd Try.prog (WS.at w6) (sFieldAddr 31 t1 0) fun t7 =>
 Rd Try.prog (WS.at w6) (sLoad 3 t7) fun t8 =>
 Rd Try.prog (WS.at w6) (sFieldAddr 37 t5 0) fun t9 =>
 Do Try.prog (sStore 3 t9 t8) (fun _ w10 =>
 Rd Try.prog (WS.at w10) (sFieldAddr 31 t1 1) fun t11 =>
 Rd Try.prog (WS.at w10) (sLoad 3 t11) fun t12 =>
 Rd Try.prog (WS.at w10) (sFieldAddr 37 t5 1) fun t13 =>
 Do Try.prog (sStore 3 t13 t12) (fun _ w14 =>
 Rd Try.prog (WS.at w14) (sFieldAddr 31 t1 2) fun t15 =>
 Rd Try.prog (WS.at w14) (sLoad 29 t15) fun t16 =>
 CallK Try.prog 83 [t16] (fun t17 w18 =>
 Rd Try.prog (WS.at w18) (sFieldAddr 37 t5 2) fun t19 =>
 Do Try.prog (sStore 35 t19 t17) (fun _ w20 =>
 Rd Try.prog (WS.at w20) (sLoad 37 t5) fun t21 =>
 Do Try.prog (sStore 37 t3 t21) (fun _ w22 =>
 Rd Try.prog (WS.at w22) (sLoadVar 37 t3) fun t23 => k t23 w22) w20) w18) w14) w10) w6) w4) w2) w
theorem body31 : Try.f31.body = some (bodyOf Try.f31) := by kernel_rfl
theorem same31 (v0 : Value) (k : Value → World → Prop) (w : World) : wpF Try.prog pl31 (bodyOf Try.f31) (bodyQ Try.prog Try.f31.results.toList k) (initF [v0]) w = S31 v0 k w := by kernel_rfl
theorem enter31 {v0 : Value} {k : Value → World → Prop} {w : World} (h : S31 v0 k w) : CallK Try.prog 31 [v0] k w :=
  call_of_wpF (pl := pl31) mixed Try.func31 body31 (by kernel_rfl) (of_decide_eq_true (by kernel_rfl)) (by kernel_rfl) (by kernel_rfl) (same31 v0 k w ▸ h)

/-! loop.example/g00758/impl.LongEnough -/
def pl32 : Plans := fun _ => ⟨false, [], .nil⟩
def S32 (v0 : Value) (k : Value → World → Prop) (w : World) : Prop :=
 Do Try.prog (sBox 37 v0) (fun t1 w2 =>
 Rd Try.prog (WS.at w2) (sLoad 37 t1) fun t3 =>
 CallK Try.prog 84 [t3] (fun t4 w5 =>
 Rd Try.prog (WS.at w5) (sUn .not t4) fun t6 =>
 CondK t6
  (k (.tuple #[(.int .i64 0), (.bool false)]) w5)
  (Rd Try.prog (WS.at w5) (sFieldAddr 37 t1 2) fun t7 =>
  Rd Try.prog (WS.at w5) (sLoad 35 t7) fun t8 =>
  Rd Try.prog (WS.at w5) (sBuiltin .len #[35] 3 [false] [t8]) fun t9 =>
  LoopF [15, 16, 17, 6, 18, 19, 20, 21, 22, 4, 23, 14] (fun Q10 f11 w12 =>
   Rd Try.prog (WS.at w12) (sBin .lss 3 false (f11 14) (f11 13)) fun t13 =>
   CondK t13
    (Rd Try.prog (WS.at w12) (sIndexAddr 35 (f11 12) (f11 14)) fun t14 =>
    Rd Try.prog (WS.at w12) (sLoad 77 t14) fun t15 =>
    Do Try.prog (sAlloc 77) (fun t16 w17 =>
    Do Try.prog (sStore 77 t16 t15) (fun _ w18 =>
    Rd Try.prog (WS.at w18) (sFieldAddr 77 t16 1) fun t19 =>
    Rd Try.prog (WS.at w18) (sLoad 22 t19) fun t20 =>
    Rd Try.prog (WS.at w18) (sBuiltin .len #[22] 3 [false] [t20]) fun t21 =>
    Rd Try.prog (WS.at w18) (sBuiltin .max #[3, 3] 3 [false, false] [(f11 4), t21]) fun t22 =>
    Rd Try.prog (WS.at w18) (sBin .add 3 true (f11 14) (.int .i64 1)) fun t23 =>
    Q10 .normal (F.upd (F.upd (F.upd (F.upd (F.upd (F.upd (F.upd (F.upd (F.upd (F.upd (F.upd (F.upd f11 15 t13) 16 t14) 17 t15) 6 t16) 18 (f11 4)) 19 t19) 20 t20) 21 t21) 22 t22) 4 t22) 23 t23) 14 t23) w18) w17) w12)
    (Q10 (.exit 0) (F.upd f11 15 t13) w12))
   (blockQ 0 (seqQ (fun f24 w25 =>
  Rd Try.prog (WS.at w25) (sFieldAddr 37 (f24 1) 0) fun t26 =>
  Rd Try.prog (WS.at w25) (sLoad 3 t26) fun t27 =>
  LoopF [27, 28, 29, 30, 7, 31, 26] (fun Q28 f29 w30 =>
   Rd Try.prog (WS.at w30) (sBin .lss 3 false (f29 26) (f29 25)) fun t31 =>
   CondK t31
    (Rd Try.prog (WS.at w30) (sBin .mul 3 false (f29 7) (f29 4)) fun t32 =>
    Rd Try.prog (WS.at w30) (sBin .add 3 true (f29 26) (.int .i64 1)) fun t33 =>
    Q28 .normal (F.upd (F.upd (F.upd (F.upd (F.upd (F.upd (F.upd f29 27 t31) 28 (f29 7)) 29 (f29 4)) 30 t32) 7 t32) 31 t33) 26 t33) w30)
    (Q28 (.exit 2) (F.upd f29 27 t31) w30))
   (blockQ 2 (seqQ (fun f34 w35 =>
  Rd Try.prog (WS.at w35) (sBin .add 3 true (f34 7) (.int .i64 1)) fun t36 =>
  Rd Try.prog (WS.at w35) (sBin .gtr 3 true t36 (.int .i64 1000)) fun t37 =>
  CondK t37
   (k (.tuple #[(.int .i64 0), (.bool false)]) w35)
   (Rd Try.prog (WS.at w35) (sBin .add 3 true (f34 7) (.int .i64 1)) fun t38 =>
   k (.tuple #[t38, (.bool true)]) w35)) (bodyQ Try.prog [.tmp 2, .tmp 3] k)))
   (F.upd (F.upd (F.upd (F.upd f24 7 (.int .i64 1)) 24 t26) 25 t27) 26 (.int .i64 0)) w25) (bodyQ Try.prog [.tmp 2, .tmp 3] k)))
   (F.upd (F.upd (F.upd (F.upd (F.upd (F.upd (F.upd (F.upd (F.upd (F.upd (F.upd (initF [v0]) 1 t1) 2 (.int .i64 0)) 3 (.bool false)) 8 t3) 9 t4) 10 t6) 4 (.int .i64 2)) 11 t7) 12 t8) 13 t9) 14 (.int .i64 0)) w5)) w2) w
theorem body32 : Try.f32.body = some (bodyOf Try.f32) := by kernel_rfl
theorem same32 (v0 : Value) (k : Value → World → Prop) (w : World) : wpF Try.prog pl32 (bodyOf Try.f32) (bodyQ Try.prog Try.f32.results.toList k) (initF [v0]) w = S32 v0 k w := by kernel_rfl
theorem enter32 {v0 : Value} {k : Value → World → Prop} {w : World} (h : S32 v0 k w) : CallK Try.prog 32 [v0] k w :=
  call_of_wpF (pl := pl32) mixed Try.func32 body32 (by kernel_rfl) (of_decide_eq_true (by kernel_rfl)) (by kernel_rfl) (by kernel_rfl) (same32 v0 k w ▸ h)

/-! loop.example/g00758/laws.eqGrammar -/
def pl33 : Plans := fun _ => ⟨false, [], .nil⟩
def S33 (v0 v1 : Value) (k : Value → World → Prop) (w : World) : Prop :=
 Do Try.prog (sBox 37 v0) (fun t1 w2 =>
 Do Try.prog (sBox 37 v1) (fun t3 w4 =>
 Rd Try.prog (WS.at w4) (sFieldAddr 37 t1 0) fun t5 =>
 Rd Try.prog (WS.at w4) (sLoad 3 t5) fun t6 =>
 Rd Try.prog (WS.at w4) (sFieldAddr 37 t3 0) fun t7 =>
 Rd Try.prog (WS.at w4) (sLoad 3 t7) fun t8 =>
 Rd Try.prog (WS.at w4) (sBin .neq 3 false t6 t8) fun t9 =>
 CondK t9
  (k (.bool false) w4)
  (Rd Try.prog (WS.at w4) (sFieldAddr 37 t1 1) fun t10 =>
  Rd Try.prog (WS.at w4) (sLoad 3 t10) fun t11 =>
  Rd Try.prog (WS.at w4) (sFieldAddr 37 t3 1) fun t12 =>
  Rd Try.prog (WS.at w4) (sLoad 3 t12) fun t13 =>
  Rd Try.prog (WS.at w4) (sBin .neq 3 false t11 t13) fun t14 =>
  CondK t14
   (k (.bool false) w4)
   (Rd Try.prog (WS.at w4) (sFieldAddr 37 t1 2) fun t15 =>
   Rd Try.prog (WS.at w4) (sLoad 35 t15) fun t16 =>
   Rd Try.prog (WS.at w4) (sFieldAddr 37 t3 2) fun t17 =>
   Rd Try.prog (WS.at w4) (sLoad 35 t17) fun t18 =>
   CallK Try.prog 85 [t16, t18] (fun t19 w20 =>
   Rd Try.prog (WS.at w20) (sUn .not t19) fun t21 =>
   CondK t21
    (k (.bool false) w20)
    (k (.bool true) w20)) w4))) w2) w
theorem body33 : Try.f33.body = some (bodyOf Try.f33) := by kernel_rfl
theorem same33 (v0 v1 : Value) (k : Value → World → Prop) (w : World) : wpF Try.prog pl33 (bodyOf Try.f33) (bodyQ Try.prog Try.f33.results.toList k) (initF [v0, v1]) w = S33 v0 v1 k w := by kernel_rfl
theorem enter33 {v0 v1 : Value} {k : Value → World → Prop} {w : World} (h : S33 v0 v1 k w) : CallK Try.prog 33 [v0, v1] k w :=
  call_of_wpF (pl := pl33) mixed Try.func33 body33 (by kernel_rfl) (of_decide_eq_true (by kernel_rfl)) (by kernel_rfl) (by kernel_rfl) (same33 v0 v1 k w ▸ h)

/-! loop.example/g00758/laws.szRuleS -/
def pl80 : Plans := fun _ => ⟨false, [], .nil⟩
def S80 (v0 v1 : Value) (k : Value → World → Prop) (w : World) : Prop :=
 Rd Try.prog (WS.at w) (sBuiltin .len #[29] 3 [false] [v0]) fun t1 =>
 Rd Try.prog (WS.at w) (sBin .sub 3 false v1 t1) fun t2 =>
 Rd Try.prog (WS.at w) (sBin .lss 3 true t2 (.int .i64 0)) fun t3 =>
 CondK t3
  (k (.int .i64 (-1)) w)
  (LoopF [12, 13, 14, 15, 18, 19, 20, 21, 22, 23, 1, 24, 25, 4, 16, 17, 5] (fun Q4 f5 w6 =>
   Rd Try.prog (WS.at w6) (sBuiltin .len #[29] 3 [false] [(f5 0)]) fun t7 =>
   Rd Try.prog (WS.at w6) (sBin .lss 3 false (f5 5) t7) fun t8 =>
   CondK t8
    (Rd Try.prog (WS.at w6) (sIndexAddr 29 (f5 0) (f5 5)) fun t9 =>
    Rd Try.prog (WS.at w6) (sLoad 148 t9) fun t10 =>
    CallK Try.prog 131 [t10, (f5 1)] (fun t11 w12 =>
    Rd Try.prog (WS.at w12) (sBin .lss 3 true t11 (.int .i64 0)) fun t13 =>
    CondK t13
     (Q4 .ret (F.upd (F.upd (F.upd (F.upd (F.upd (F.upd (F.upd (F.upd (F.upd (F.upd (F.upd (F.upd (F.upd (F.upd f5 12 (f5 5)) 13 (f5 0)) 14 t7) 15 t8) 18 (f5 0)) 19 (f5 5)) 20 t9) 21 t10) 22 (f5 1)) 23 t11) 1 t11) 24 t11) 25 t13) 4 (.int .i64 (-1))) w12)
     (Rd Try.prog (WS.at w12) (sBin .add 3 true (f5 5) (.int .i64 1)) fun t14 =>
     Q4 .normal (F.upd (F.upd (F.upd (F.upd (F.upd (F.upd (F.upd (F.upd (F.upd (F.upd (F.upd (F.upd (F.upd (F.upd (F.upd (F.upd f5 12 (f5 5)) 13 (f5 0)) 14 t7) 15 t8) 18 (f5 0)) 19 (f5 5)) 20 t9) 21 t10) 22 (f5 1)) 23 t11) 1 t11) 24 t11) 25 t13) 16 (f5 5)) 17 t14) 5 t14) w12)) w6)
    (Q4 (.exit 0) (F.upd (F.upd (F.upd (F.upd f5 12 (f5 5)) 13 (f5 0)) 14 t7) 15 t8) w6))
   (blockQ 0 (seqQ (fun f15 w16 =>
  k (f15 1) w16) (bodyQ Try.prog [.tmp 4] k)))
   (F.upd (F.upd (F.upd (F.upd (F.upd (F.upd (F.upd (F.upd (F.upd (initF [v0, v1]) 4 (.int .i64 0)) 6 v1) 7 v0) 8 t1) 9 t2) 1 t2) 10 t2) 11 t3) 5 (.int .i64 0)) w)
theorem body80 : Try.f80.body = some (bodyOf Try.f80) := by kernel_rfl
theorem same80 (v0 v1 : Value) (k : Value → World → Prop) (w : World) : wpF Try.prog pl80 (bodyOf Try.f80) (bodyQ Try.prog Try.f80.results.toList k) (initF [v0, v1]) w = S80 v0 v1 k w := by kernel_rfl
theorem enter80 {v0 v1 : Value} {k : Value → World → Prop} {w : World} (h : S80 v0 v1 k w) : CallK Try.prog 80 [v0, v1] k w :=
  call_of_wpF (pl := pl80) mixed Try.func80 body80 (by kernel_rfl) (of_decide_eq_true (by kernel_rfl)) (by kernel_rfl) (by kernel_rfl) (same80 v0 v1 k w ▸ h)

/-! loop.example/g00758/spec.GoodGrammar -/
def pl81 : Plans := fun _ => ⟨false, [], .nil⟩
def S81 (v0 : Value) (k : Value → World → Prop) (w : World) : Prop :=
 Do Try.prog (sBox 37 v0) (fun t1 w2 =>
 Rd Try.prog (WS.at w2) (sFieldAddr 37 t1 0) fun t3 =>
 Rd Try.prog (WS.at w2) (sLoad 3 t3) fun t4 =>
 CallK Try.prog 77 [t4, (.int .i64 1), (.int .i64 6)] (fun t5 w6 =>
 Rd Try.prog (WS.at w6) (sUn .not t5) fun t7 =>
 GuardK t7 false (fun k w' => Rd Try.prog (WS.at w6) (sFieldAddr 37 t1 1) fun v => k v w') (fun t8 w9 =>
 GuardK t7 false (fun k w' => Rd Try.prog (WS.at w9) (sLoad 3 t8) fun v => k v w') (fun t10 w11 =>
 GuardK t7 false (fun k w' => CallK Try.prog 77 [t10, (.int .i64 1), (.int .i64 4)] k w') (fun t12 w13 =>
 GuardK t7 false (fun k w' => Rd Try.prog (WS.at w13) (sUn .not t12) fun v => k v w') (fun t14 w15 =>
 Rd Try.prog (WS.at w15) (sPick t7 (.bool true) t14) fun t16 =>
 GuardK t16 false (fun k w' => Rd Try.prog (WS.at w15) (sFieldAddr 37 t1 2) fun v => k v w') (fun t17 w18 =>
 GuardK t16 false (fun k w' => Rd Try.prog (WS.at w18) (sLoad 35 t17) fun v => k v w') (fun t19 w20 =>
 GuardK t16 false (fun k w' => Rd Try.prog (WS.at w20) (sBuiltin .len #[35] 3 [false] [t19]) fun v => k v w') (fun t21 w22 =>
 GuardK t16 false (fun k w' => Rd Try.prog (WS.at w22) (sBin .gtr 3 true t21 (.int .i64 16)) fun v => k v w') (fun t23 w24 =>
 Rd Try.prog (WS.at w24) (sPick t16 (.bool true) t23) fun t25 =>
 CondK t25
  (k (.bool false) w24)
  (Rd Try.prog (WS.at w24) (sFieldAddr 37 t1 2) fun t26 =>
  Rd Try.prog (WS.at w24) (sLoad 35 t26) fun t27 =>
  Rd Try.prog (WS.at w24) (sBuiltin .len #[35] 3 [false] [t27]) fun t28 =>
  LoopF [29, 30, 31, 32, 4, 3, 33, 34, 35, 36, 37, 38, 39, 40, 41, 42, 43, 44, 45, 2, 46, 47, 48, 49, 50, 51, 52, 6, 53, 54, 55, 56, 2, 57, 49, 58, 59, 60, 61, 62, 63, 64, 65, 66, 8, 67, 68, 69, 2, 70, 63, 71, 28] (fun Q29 f30 w31 =>
   Rd Try.prog (WS.at w31) (sBin .lss 3 false (f30 28) (f30 27)) fun t32 =>
   CondK t32
    (Rd Try.prog (WS.at w31) (sIndexAddr 35 (f30 26) (f30 28)) fun t33 =>
    Rd Try.prog (WS.at w31) (sLoad 77 t33) fun t34 =>
    Do Try.prog (sAlloc 77) (fun t35 w36 =>
    Do Try.prog (sStore 77 t35 t34) (fun _ w37 =>
    Rd Try.prog (WS.at w37) (sFieldAddr 77 t35 0) fun t38 =>
    Rd Try.prog (WS.at w37) (sLoad 3 t38) fun t39 =>
    Rd Try.prog (WS.at w37) (sFieldAddr 37 (f30 1) 0) fun t40 =>
    Rd Try.prog (WS.at w37) (sLoad 3 t40) fun t41 =>
    Rd Try.prog (WS.at w37) (sBin .sub 3 true t41 (.int .i64 1)) fun t42 =>
    CallK Try.prog 77 [t39, (.int .i64 0), t42] (fun t43 w44 =>
    Rd Try.prog (WS.at w44) (sUn .not t43) fun t45 =>
    GuardK t45 false (fun k w' => Rd Try.prog (WS.at w44) (sFieldAddr 77 t35 1) fun v => k v w') (fun t46 w47 =>
    GuardK t45 false (fun k w' => Rd Try.prog (WS.at w47) (sLoad 22 t46) fun v => k v w') (fun t48 w49 =>
    GuardK t45 false (fun k w' => Rd Try.prog (WS.at w49) (sBuiltin .len #[22] 3 [false] [t48]) fun v => k v w') (fun t50 w51 =>
    GuardK t45 false (fun k w' => Rd Try.prog (WS.at w51) (sBin .gtr 3 true t50 (.int .i64 4)) fun v => k v w') (fun t52 w53 =>
    Rd Try.prog (WS.at w53) (sPick t45 (.bool true) t52) fun t54 =>
    CondK t54
     (Q29 .ret (F.upd (F.upd (F.upd (F.upd (F.upd (F.upd (F.upd (F.upd (F.upd (F.upd (F.upd (F.upd (F.upd (F.upd (F.upd (F.upd (F.upd (F.upd (F.upd (F.upd f30 29 t32) 30 (f30 28)) 31 t33) 32 t34) 4 t35) 3 (f30 28)) 33 t38) 34 t39) 35 t40) 36 t41) 37 t42) 38 t43) 39 t45) 40 t45) 41 t46) 42 t48) 43 t50) 44 t52) 45 t54) 2 (.bool false)) w53)
     (Rd Try.prog (WS.at w53) (sFieldAddr 77 t35 1) fun t55 =>
     Rd Try.prog (WS.at w53) (sLoad 22 t55) fun t56 =>
     Rd Try.prog (WS.at w53) (sBuiltin .len #[22] 3 [false] [t56]) fun t57 =>
     LoopF [50, 51, 52, 6, 53, 54, 55, 56, 2, 57, 49] (fun Q58 f59 w60 =>
      Rd Try.prog (WS.at w60) (sBin .lss 3 false (f59 49) (f59 48)) fun t61 =>
      CondK t61
       (Rd Try.prog (WS.at w60) (sIndexAddr 22 (f59 47) (f59 49)) fun t62 =>
       Rd Try.prog (WS.at w60) (sLoad 3 t62) fun t63 =>
       Rd Try.prog (WS.at w60) (sLoad 37 (f59 1)) fun t64 =>
       CallK Try.prog 132 [t64, t63] (fun t65 w66 =>
       Rd Try.prog (WS.at w66) (sUn .not t65) fun t67 =>
       CondK t67
        (Q58 .ret (F.upd (F.upd (F.upd (F.upd (F.upd (F.upd (F.upd (F.upd (F.upd f59 50 t61) 51 t62) 52 t63) 6 t63) 53 t64) 54 t63) 55 t65) 56 t67) 2 (.bool false)) w66)
        (Rd Try.prog (WS.at w66) (sBin .add 3 true (f59 49) (.int .i64 1)) fun t68 =>
        Q58 .normal (F.upd (F.upd (F.upd (F.upd (F.upd (F.upd (F.upd (F.upd (F.upd (F.upd f59 50 t61) 51 t62) 52 t63) 6 t63) 53 t64) 54 t63) 55 t65) 56 t67) 57 t68) 49 t68) w66)) w60)
       (Q58 (.exit 2) (F.upd f59 50 t61) w60))
      (blockQ 2 (seqQ (fun f69 w70 =>
     Rd Try.prog (WS.at w70) (sFieldAddr 37 (f69 1) 2) fun t71 =>
     Rd Try.prog (WS.at w70) (sLoad 35 t71) fun t72 =>
     Rd Try.prog (WS.at w70) (sSlice 35 t72 none (some (f69 3)) none) fun t73 =>
     Rd Try.prog (WS.at w70) (sBuiltin .len #[35] 3 [false] [t73]) fun t74 =>
     LoopF [64, 65, 66, 8, 67, 68, 69, 2, 70, 63] (fun Q75 f76 w77 =>
      Rd Try.prog (WS.at w77) (sBin .lss 3 false (f76 63) (f76 62)) fun t78 =>
      CondK t78
       (Rd Try.prog (WS.at w77) (sIndexAddr 35 (f76 61) (f76 63)) fun t79 =>
       Rd Try.prog (WS.at w77) (sLoad 77 t79) fun t80 =>
       Do Try.prog (sAlloc 77) (fun t81 w82 =>
       Do Try.prog (sStore 77 t81 t80) (fun _ w83 =>
       Rd Try.prog (WS.at w83) (sLoad 77 (f76 4)) fun t84 =>
       Rd Try.prog (WS.at w83) (sLoad 77 t81) fun t85 =>
       CallK Try.prog 133 [t84, t85] (fun t86 w87 =>
       CondK t86
        (Q75 .ret (F.upd (F.upd (F.upd (F.upd (F.upd (F.upd (F.upd (F.upd f76 64 t78) 65 t79) 66 t80) 8 t81) 67 t84) 68 t85) 69 t86) 2 (.bool false)) w87)
        (Rd Try.prog (WS.at w87) (sBin .add 3 true (f76 63) (.int .i64 1)) fun t88 =>
        Q75 .normal (F.upd (F.upd (F.upd (F.upd (F.upd (F.upd (F.upd (F.upd (F.upd f76 64 t78) 65 t79) 66 t80) 8 t81) 67 t84) 68 t85) 69 t86) 70 t88) 63 t88) w87)) w83) w82) w77)
       (Q75 (.exit 4) (F.upd f76 64 t78) w77))
      (blockQ 4 (blockQ 1 (seqQ (fun f89 w90 =>
     Rd Try.prog (WS.at w90) (sBin .add 3 true (f89 28) (.int .i64 1)) fun t91 =>
     Q29 .normal (F.upd (F.upd f89 71 t91) 28 t91) w90) Q29)))
      (F.upd (F.upd (F.upd (F.upd (F.upd (F.upd f69 58 t71) 59 t72) 60 (f69 3)) 61 t73) 62 t74) 63 (.int .i64 0)) w70) (blockQ 1 (seqQ (fun f92 w93 =>
     Rd Try.prog (WS.at w93) (sBin .add 3 true (f92 28) (.int .i64 1)) fun t94 =>
     Q29 .normal (F.upd (F.upd f92 71 t94) 28 t94) w93) Q29))))
      (F.upd (F.upd (F.upd (F.upd (F.upd (F.upd (F.upd (F.upd (F.upd (F.upd (F.upd (F.upd (F.upd (F.upd (F.upd (F.upd (F.upd (F.upd (F.upd (F.upd (F.upd (F.upd (F.upd f30 29 t32) 30 (f30 28)) 31 t33) 32 t34) 4 t35) 3 (f30 28)) 33 t38) 34 t39) 35 t40) 36 t41) 37 t42) 38 t43) 39 t45) 40 t45) 41 t46) 42 t48) 43 t50) 44 t52) 45 t54) 46 t55) 47 t56) 48 t57) 49 (.int .i64 0)) w53)) w51) w49) w47) w44) w37) w36) w31)
    (Q29 (.exit 0) (F.upd f30 29 t32) w31))
   (blockQ 0 (seqQ (fun f95 w96 =>
  k (.bool true) w96) (bodyQ Try.prog [.tmp 2] k)))
   (F.upd (F.upd (F.upd (F.upd (F.upd (F.upd (F.upd (F.upd (F.upd (F.upd (F.upd (F.upd (F.upd (F.upd (F.upd (F.upd (F.upd (F.upd (F.upd (F.upd (F.upd (F.upd (initF [v0]) 1 t1) 2 (.bool false)) 9 t3) 10 t4) 11 t5) 12 t7) 13 t7) 14 t8) 15 t10) 16 t12) 17 t14) 18 t16) 19 t16) 20 t17) 21 t19) 22 t21) 23 t23) 24 t25) 25 t26) 26 t27) 27 t28) 28 (.int .i64 0)) w24)) w22) w20) w18) w15) w13) w11) w9) w6) w2) w
theorem body81 : Try.f81.body = some (bodyOf Try.f81) := by kernel_rfl
theorem same81 (v0 : Value) (k : Value → World → Prop) (w : World) : wpF Try.prog pl81 (bodyOf Try.f81) (bodyQ Try.prog Try.f81.results.toList k) (initF [v0]) w = S81 v0 k w := by kernel_rfl
theorem enter81 {v0 : Value} {k : Value → World → Prop} {w : World} (h : S81 v0 k w) : CallK Try.prog 81 [v0] k w :=
  call_of_wpF (pl := pl81) mixed Try.func81 body81 (by kernel_rfl) (of_decide_eq_true (by kernel_rfl)) (by kernel_rfl) (by kernel_rfl) (same81 v0 k w ▸ h)

/-! loop.example/g00758/spec.l1Most -/
def pl82 : Plans := fun _ => ⟨false, [], .nil⟩
def S82 (v0 v1 : Value) (k : Value → World → Prop) (w : World) : Prop :=
 Rd Try.prog (WS.at w) (sBin .gtr 3 false v0 v1) fun t1 =>
 CondK t1
  (k v0 w)
  (k v1 w)
theorem body82 : Try.f82.body = some (bodyOf Try.f82) := by kernel_rfl
theorem same82 (v0 v1 : Value) (k : Value → World → Prop) (w : World) : wpF Try.prog pl82 (bodyOf Try.f82) (bodyQ Try.prog Try.f82.results.toList k) (initF [v0, v1]) w = S82 v0 v1 k w := by kernel_rfl
theorem enter82 {v0 v1 : Value} {k : Value → World → Prop} {w : World} (h : S82 v0 v1 k w) : CallK Try.prog 82 [v0, v1] k w :=
  call_of_wpF (pl := pl82) mixed Try.func82 body82 (by kernel_rfl) (of_decide_eq_true (by kernel_rfl)) (by kernel_rfl) (by kernel_rfl) (same82 v0 v1 k w ▸ h)

/-! loop.example/g00758/laws.toRuleS -/
def pl83 : Plans := fun _ => ⟨false, [], .nil⟩
def S83 (v0 : Value) (k : Value → World → Prop) (w : World) : Prop :=
 Rd Try.prog (WS.at w) (sBuiltin .len #[29] 3 [false] [v0]) fun t1 =>
 Do Try.prog (sMakeSlice 35 t1 t1) (fun t2 w3 =>
 LoopF [8, 9, 10, 11, 14, 15, 16, 17, 18, 19, 20, 21, 12, 13, 4] (fun Q4 f5 w6 =>
  Rd Try.prog (WS.at w6) (sBuiltin .len #[29] 3 [false] [(f5 0)]) fun t7 =>
  Rd Try.prog (WS.at w6) (sBin .lss 3 false (f5 4) t7) fun t8 =>
  CondK t8
   (Rd Try.prog (WS.at w6) (sIndexAddr 29 (f5 0) (f5 4)) fun t9 =>
   Rd Try.prog (WS.at w6) (sLoad 148 t9) fun t10 =>
   CallK Try.prog 134 [t10] (fun t11 w12 =>
   Rd Try.prog (WS.at w12) (sIndexAddr 35 (f5 3) (f5 4)) fun t13 =>
   Do Try.prog (sStore 77 t13 t11) (fun _ w14 =>
   Rd Try.prog (WS.at w14) (sBin .add 3 true (f5 4) (.int .i64 1)) fun t15 =>
   Q4 .normal (F.upd (F.upd (F.upd (F.upd (F.upd (F.upd (F.upd (F.upd (F.upd (F.upd (F.upd (F.upd (F.upd (F.upd (F.upd f5 8 (f5 4)) 9 (f5 0)) 10 t7) 11 t8) 14 (f5 3)) 15 (f5 4)) 16 (f5 0)) 17 (f5 4)) 18 t9) 19 t10) 20 t11) 21 t13) 12 (f5 4)) 13 t15) 4 t15) w14) w12) w6)
   (Q4 (.exit 0) (F.upd (F.upd (F.upd (F.upd f5 8 (f5 4)) 9 (f5 0)) 10 t7) 11 t8) w6))
  (blockQ 0 (seqQ (fun f16 w17 =>
 k (f16 3) w17) (bodyQ Try.prog [.tmp 2] k)))
  (F.upd (F.upd (F.upd (F.upd (F.upd (F.upd (initF [v0]) 2 (.slice none 0 0)) 5 v0) 6 t1) 7 t2) 3 t2) 4 (.int .i64 0)) w3) w
theorem body83 : Try.f83.body = some (bodyOf Try.f83) := by kernel_rfl
theorem same83 (v0 : Value) (k : Value → World → Prop) (w : World) : wpF Try.prog pl83 (bodyOf Try.f83) (bodyQ Try.prog Try.f83.results.toList k) (initF [v0]) w = S83 v0 k w := by kernel_rfl
theorem enter83 {v0 : Value} {k : Value → World → Prop} {w : World} (h : S83 v0 k w) : CallK Try.prog 83 [v0] k w :=
  call_of_wpF (pl := pl83) mixed Try.func83 body83 (by kernel_rfl) (of_decide_eq_true (by kernel_rfl)) (by kernel_rfl) (by kernel_rfl) (same83 v0 k w ▸ h)

/-! loop.example/g00758/impl.isGrammar -/
def pl84 : Plans := fun _ => ⟨false, [], .nil⟩
def S84 (v0 : Value) (k : Value → World → Prop) (w : World) : Prop :=
 Do Try.prog (sBox 37 v0) (fun t1 w2 =>
 Rd Try.prog (WS.at w2) (sFieldAddr 37 t1 0) fun t3 =>
 Rd Try.prog (WS.at w2) (sLoad 3 t3) fun t4 =>
 CallK Try.prog 103 [t4, (.int .i64 1), (.int .i64 6)] (fun t5 w6 =>
 Rd Try.prog (WS.at w6) (sUn .not t5) fun t7 =>
 GuardK t7 false (fun k w' => Rd Try.prog (WS.at w6) (sFieldAddr 37 t1 1) fun v => k v w') (fun t8 w9 =>
 GuardK t7 false (fun k w' => Rd Try.prog (WS.at w9) (sLoad 3 t8) fun v => k v w') (fun t10 w11 =>
 GuardK t7 false (fun k w' => CallK Try.prog 103 [t10, (.int .i64 1), (.int .i64 4)] k w') (fun t12 w13 =>
 GuardK t7 false (fun k w' => Rd Try.prog (WS.at w13) (sUn .not t12) fun v => k v w') (fun t14 w15 =>
 Rd Try.prog (WS.at w15) (sPick t7 (.bool true) t14) fun t16 =>
 GuardK t16 false (fun k w' => Rd Try.prog (WS.at w15) (sFieldAddr 37 t1 2) fun v => k v w') (fun t17 w18 =>
 GuardK t16 false (fun k w' => Rd Try.prog (WS.at w18) (sLoad 35 t17) fun v => k v w') (fun t19 w20 =>
 GuardK t16 false (fun k w' => Rd Try.prog (WS.at w20) (sBuiltin .len #[35] 3 [false] [t19]) fun v => k v w') (fun t21 w22 =>
 GuardK t16 false (fun k w' => Rd Try.prog (WS.at w22) (sBin .gtr 3 true t21 (.int .i64 16)) fun v => k v w') (fun t23 w24 =>
 Rd Try.prog (WS.at w24) (sPick t16 (.bool true) t23) fun t25 =>
 CondK t25
  (k (.bool false) w24)
  (Rd Try.prog (WS.at w24) (sFieldAddr 37 t1 2) fun t26 =>
  Rd Try.prog (WS.at w24) (sLoad 35 t26) fun t27 =>
  Rd Try.prog (WS.at w24) (sBuiltin .len #[35] 3 [false] [t27]) fun t28 =>
  LoopF [25, 26, 27, 28, 4, 3, 29, 30, 31, 32, 33, 34, 35, 36, 37, 38, 39, 40, 41, 42, 43, 44, 45, 46, 47, 48, 49, 50, 51, 2, 52, 53, 54, 55, 56, 57, 2, 58, 24] (fun Q29 f30 w31 =>
   Rd Try.prog (WS.at w31) (sBin .lss 3 false (f30 24) (f30 23)) fun t32 =>
   CondK t32
    (Rd Try.prog (WS.at w31) (sIndexAddr 35 (f30 22) (f30 24)) fun t33 =>
    Rd Try.prog (WS.at w31) (sLoad 77 t33) fun t34 =>
    Do Try.prog (sAlloc 77) (fun t35 w36 =>
    Do Try.prog (sStore 77 t35 t34) (fun _ w37 =>
    Rd Try.prog (WS.at w37) (sFieldAddr 77 t35 0) fun t38 =>
    Rd Try.prog (WS.at w37) (sLoad 3 t38) fun t39 =>
    Rd Try.prog (WS.at w37) (sFieldAddr 37 (f30 1) 0) fun t40 =>
    Rd Try.prog (WS.at w37) (sLoad 3 t40) fun t41 =>
    Rd Try.prog (WS.at w37) (sBin .sub 3 true t41 (.int .i64 1)) fun t42 =>
    CallK Try.prog 103 [t39, (.int .i64 0), t42] (fun t43 w44 =>
    Rd Try.prog (WS.at w44) (sUn .not t43) fun t45 =>
    GuardK t45 false (fun k w' => Rd Try.prog (WS.at w44) (sFieldAddr 77 t35 1) fun v => k v w') (fun t46 w47 =>
    GuardK t45 false (fun k w' => Rd Try.prog (WS.at w47) (sLoad 22 t46) fun v => k v w') (fun t48 w49 =>
    GuardK t45 false (fun k w' => Rd Try.prog (WS.at w49) (sBuiltin .len #[22] 3 [false] [t48]) fun v => k v w') (fun t50 w51 =>
    GuardK t45 false (fun k w' => Rd Try.prog (WS.at w51) (sBin .gtr 3 true t50 (.int .i64 4)) fun v => k v w') (fun t52 w53 =>
    Rd Try.prog (WS.at w53) (sPick t45 (.bool true) t52) fun t54 =>
    GuardK t54 false (fun k w' => Rd Try.prog (WS.at w53) (sFieldAddr 77 t35 1) fun v => k v w') (fun t55 w56 =>
    GuardK t54 false (fun k w' => Rd Try.prog (WS.at w56) (sLoad 22 t55) fun v => k v w') (fun t57 w58 =>
    GuardK t54 false (fun k w' => Rd Try.prog (WS.at w58) (sFieldAddr 37 (f30 1) 0) fun v => k v w') (fun t59 w60 =>
    GuardK t54 false (fun k w' => Rd Try.prog (WS.at w60) (sLoad 3 t59) fun v => k v w') (fun t61 w62 =>
    GuardK t54 false (fun k w' => Rd Try.prog (WS.at w62) (sFieldAddr 37 (f30 1) 1) fun v => k v w') (fun t63 w64 =>
    GuardK t54 false (fun k w' => Rd Try.prog (WS.at w64) (sLoad 3 t63) fun v => k v w') (fun t65 w66 =>
    GuardK t54 false (fun k w' => CallK Try.prog 135 [t57, t61, t65] k w') (fun t67 w68 =>
    GuardK t54 false (fun k w' => Rd Try.prog (WS.at w68) (sUn .not t67) fun v => k v w') (fun t69 w70 =>
    Rd Try.prog (WS.at w70) (sPick t54 (.bool true) t69) fun t71 =>
    CondK t71
     (Q29 .ret (F.upd (F.upd (F.upd (F.upd (F.upd (F.upd (F.upd (F.upd (F.upd (F.upd (F.upd (F.upd (F.upd (F.upd (F.upd (F.upd (F.upd (F.upd (F.upd (F.upd (F.upd (F.upd (F.upd (F.upd (F.upd (F.upd (F.upd (F.upd (F.upd (F.upd f30 25 t32) 26 (f30 24)) 27 t33) 28 t34) 4 t35) 3 (f30 24)) 29 t38) 30 t39) 31 t40) 32 t41) 33 t42) 34 t43) 35 t45) 36 t45) 37 t46) 38 t48) 39 t50) 40 t52) 41 t54) 42 t54) 43 t55) 44 t57) 45 t59) 46 t61) 47 t63) 48 t65) 49 t67) 50 t69) 51 t71) 2 (.bool false)) w70)
     (Rd Try.prog (WS.at w70) (sFieldAddr 37 (f30 1) 2) fun t72 =>
     Rd Try.prog (WS.at w70) (sLoad 35 t72) fun t73 =>
     Rd Try.prog (WS.at w70) (sSlice 35 t73 none (some (f30 24)) none) fun t74 =>
     Rd Try.prog (WS.at w70) (sMakeFunc (.func 137) [] [t35]) fun t75 =>
     CallK Try.prog 136 [t74, t75] (fun t76 w77 =>
     CondK t76
      (Q29 .ret (F.upd (F.upd (F.upd (F.upd (F.upd (F.upd (F.upd (F.upd (F.upd (F.upd (F.upd (F.upd (F.upd (F.upd (F.upd (F.upd (F.upd (F.upd (F.upd (F.upd (F.upd (F.upd (F.upd (F.upd (F.upd (F.upd (F.upd (F.upd (F.upd (F.upd (F.upd (F.upd (F.upd (F.upd (F.upd (F.upd f30 25 t32) 26 (f30 24)) 27 t33) 28 t34) 4 t35) 3 (f30 24)) 29 t38) 30 t39) 31 t40) 32 t41) 33 t42) 34 t43) 35 t45) 36 t45) 37 t46) 38 t48) 39 t50) 40 t52) 41 t54) 42 t54) 43 t55) 44 t57) 45 t59) 46 t61) 47 t63) 48 t65) 49 t67) 50 t69) 51 t71) 52 t72) 53 t73) 54 (f30 24)) 55 t74) 56 t75) 57 t76) 2 (.bool false)) w77)
      (Rd Try.prog (WS.at w77) (sBin .add 3 true (f30 24) (.int .i64 1)) fun t78 =>
      Q29 .normal (F.upd (F.upd (F.upd (F.upd (F.upd (F.upd (F.upd (F.upd (F.upd (F.upd (F.upd (F.upd (F.upd (F.upd (F.upd (F.upd (F.upd (F.upd (F.upd (F.upd (F.upd (F.upd (F.upd (F.upd (F.upd (F.upd (F.upd (F.upd (F.upd (F.upd (F.upd (F.upd (F.upd (F.upd (F.upd (F.upd (F.upd f30 25 t32) 26 (f30 24)) 27 t33) 28 t34) 4 t35) 3 (f30 24)) 29 t38) 30 t39) 31 t40) 32 t41) 33 t42) 34 t43) 35 t45) 36 t45) 37 t46) 38 t48) 39 t50) 40 t52) 41 t54) 42 t54) 43 t55) 44 t57) 45 t59) 46 t61) 47 t63) 48 t65) 49 t67) 50 t69) 51 t71) 52 t72) 53 t73) 54 (f30 24)) 55 t74) 56 t75) 57 t76) 58 t78) 24 t78) w77)) w70)) w68) w66) w64) w62) w60) w58) w56) w53) w51) w49) w47) w44) w37) w36) w31)
    (Q29 (.exit 0) (F.upd f30 25 t32) w31))
   (blockQ 0 (seqQ (fun f79 w80 =>
  k (.bool true) w80) (bodyQ Try.prog [.tmp 2] k)))
   (F.upd (F.upd (F.upd (F.upd (F.upd (F.upd (F.upd (F.upd (F.upd (F.upd (F.upd (F.upd (F.upd (F.upd (F.upd (F.upd (F.upd (F.upd (F.upd (F.upd (F.upd (F.upd (initF [v0]) 1 t1) 2 (.bool false)) 5 t3) 6 t4) 7 t5) 8 t7) 9 t7) 10 t8) 11 t10) 12 t12) 13 t14) 14 t16) 15 t16) 16 t17) 17 t19) 18 t21) 19 t23) 20 t25) 21 t26) 22 t27) 23 t28) 24 (.int .i64 0)) w24)) w22) w20) w18) w15) w13) w11) w9) w6) w2) w
theorem body84 : Try.f84.body = some (bodyOf Try.f84) := by kernel_rfl
theorem same84 (v0 : Value) (k : Value → World → Prop) (w : World) : wpF Try.prog pl84 (bodyOf Try.f84) (bodyQ Try.prog Try.f84.results.toList k) (initF [v0]) w = S84 v0 k w := by kernel_rfl
theorem enter84 {v0 : Value} {k : Value → World → Prop} {w : World} (h : S84 v0 k w) : CallK Try.prog 84 [v0] k w :=
  call_of_wpF (pl := pl84) mixed Try.func84 body84 (by kernel_rfl) (of_decide_eq_true (by kernel_rfl)) (by kernel_rfl) (by kernel_rfl) (same84 v0 k w ▸ h)

/-! loop.example/g00758/laws.eqRuleS -/
def pl85 : Plans := fun i => match i with
  | 6 => ⟨false, [8], .step 0 .any (.step 1 .any (.step 2 .any (.step 3 .held (.step 4 .any (.step 5 .any (.step 6 .any (.step 7 .held (.step 8 .last (.step 9 .any (.nil))))))))))⟩
  | _ => ⟨false, [], .nil⟩
def S85 (v0 v1 : Value) (k : Value → World → Prop) (w : World) : Prop :=
 Rd Try.prog (WS.at w) (sBuiltin .len #[35] 3 [false] [v0]) fun t1 =>
 Rd Try.prog (WS.at w) (sBuiltin .len #[35] 3 [false] [v1]) fun t2 =>
 Rd Try.prog (WS.at w) (sBin .neq 3 false t1 t2) fun t3 =>
 CondK t3
  (k (.bool false) w)
  (LoopF [11, 12, 13, 14, 17, 18, 19, 20, 21, 22, 23, 24, 25, 26, 4, 15, 16, 5] (fun Q4 f5 w6 =>
   Rd Try.prog (WS.at w6) (sBuiltin .len #[35] 3 [false] [(f5 0)]) fun t7 =>
   Rd Try.prog (WS.at w6) (sBin .lss 3 false (f5 5) t7) fun t8 =>
   CondK t8
    (Rd Try.prog WS.any (sIndexAddr 35 (f5 0) (f5 5)) fun t9 =>
    Rd Try.prog (WS.at w6.drew) (sLoad 77 t9) fun t10 =>
    Rd Try.prog WS.any (sIndexAddr 35 (f5 1) (f5 5)) fun t11 =>
    Rd Try.prog (WS.at w6.drew) (sLoad 77 t11) fun t12 =>
    CallK Try.prog 139 [t10, t12] (fun t13 w14 =>
    Rd Try.prog WS.any (sUn .not t13) fun t15 =>
    CondK t15
     (Q4 .ret (F.upd (F.upd (F.upd (F.upd (F.upd (F.upd (F.upd (F.upd (F.upd (F.upd (F.upd (F.upd (F.upd (F.upd (F.upd f5 11 (f5 5)) 12 (f5 0)) 13 t7) 14 t8) 17 (f5 0)) 18 (f5 5)) 19 t9) 20 t10) 21 (f5 1)) 22 (f5 5)) 23 t11) 24 t12) 25 t13) 26 t15) 4 (.bool false)) w14)
     (Rd Try.prog (WS.at w14) (sBin .add 3 true (f5 5) (.int .i64 1)) fun t16 =>
     Q4 .normal (F.upd (F.upd (F.upd (F.upd (F.upd (F.upd (F.upd (F.upd (F.upd (F.upd (F.upd (F.upd (F.upd (F.upd (F.upd (F.upd (F.upd f5 11 (f5 5)) 12 (f5 0)) 13 t7) 14 t8) 17 (f5 0)) 18 (f5 5)) 19 t9) 20 t10) 21 (f5 1)) 22 (f5 5)) 23 t11) 24 t12) 25 t13) 26 t15) 15 (f5 5)) 16 t16) 5 t16) w14)) w6.drew)
    (Q4 (.exit 0) (F.upd (F.upd (F.upd (F.upd f5 11 (f5 5)) 12 (f5 0)) 13 t7) 14 t8) w6))
   (blockQ 0 (seqQ (fun f17 w18 =>
  k (.bool true) w18) (bodyQ Try.prog [.tmp 4] k)))
   (F.upd (F.upd (F.upd (F.upd (F.upd (F.upd (F.upd (initF [v0, v1]) 4 (.bool false)) 6 v0) 7 t1) 8 v1) 9 t2) 10 t3) 5 (.int .i64 0)) w)
theorem body85 : Try.f85.body = some (bodyOf Try.f85) := by kernel_rfl
theorem same85 (v0 v1 : Value) (k : Value → World → Prop) (w : World) : wpF Try.prog pl85 (bodyOf Try.f85) (bodyQ Try.prog Try.f85.results.toList k) (initF [v0, v1]) w = S85 v0 v1 k w := by kernel_rfl
theorem enter85 {v0 v1 : Value} {k : Value → World → Prop} {w : World} (h : S85 v0 v1 k w) : CallK Try.prog 85 [v0, v1] k w :=
  call_of_wpF (pl := pl85) mixed Try.func85 body85 (by kernel_rfl) (of_decide_eq_true (by kernel_rfl)) (by kernel_rfl) (by kernel_rfl) (same85 v0 v1 k w ▸ h)

/-! slices.Equal[[]int,int] -/
def pl110 : Plans := fun i => match i with
  | 6 => ⟨false, [], .step 0 .any (.step 1 .any (.step 2 .any (.step 3 .held (.step 4 .any (.step 5 .any (.step 6 .any (.step 7 .held (.step 8 .any (.nil)))))))))⟩
  | _ => ⟨false, [], .nil⟩
def S110 (v0 v1 : Value) (k : Value → World → Prop) (w : World) : Prop :=
 Rd Try.prog (WS.at w) (sBuiltin .len #[22] 3 [false] [v0]) fun t1 =>
 Rd Try.prog (WS.at w) (sBuiltin .len #[22] 3 [false] [v1]) fun t2 =>
 Rd Try.prog (WS.at w) (sBin .neq 3 false t1 t2) fun t3 =>
 CondK t3
  (k (.bool false) w)
  (Rd Try.prog (WS.at w) (sBuiltin .len #[22] 3 [false] [v0]) fun t4 =>
  LoopF [14, 15, 5, 16, 17, 18, 19, 20, 21, 22, 23, 24, 4, 25, 13] (fun Q5 f6 w7 =>
   Rd Try.prog (WS.at w7) (sBin .lss 3 false (f6 13) (f6 12)) fun t8 =>
   CondK t8
    (Rd Try.prog WS.any (sIndexAddr 22 (f6 0) (f6 13)) fun t9 =>
    Rd Try.prog (WS.at w7.drew) (sLoad 3 t9) fun t10 =>
    Rd Try.prog WS.any (sIndexAddr 22 (f6 1) (f6 13)) fun t11 =>
    Rd Try.prog (WS.at w7.drew) (sLoad 3 t11) fun t12 =>
    Rd Try.prog WS.any (sBin .neq 3 false t10 t12) fun t13 =>
    CondK t13
     (Q5 .ret (F.upd (F.upd (F.upd (F.upd (F.upd (F.upd (F.upd (F.upd (F.upd (F.upd (F.upd (F.upd (F.upd f6 14 t8) 15 (f6 13)) 5 (f6 13)) 16 (f6 0)) 17 (f6 13)) 18 t9) 19 t10) 20 (f6 1)) 21 (f6 13)) 22 t11) 23 t12) 24 t13) 4 (.bool false)) w7.drew)
     (Rd Try.prog (WS.at w7.drew) (sBin .add 3 true (f6 13) (.int .i64 1)) fun t14 =>
     Q5 .normal (F.upd (F.upd (F.upd (F.upd (F.upd (F.upd (F.upd (F.upd (F.upd (F.upd (F.upd (F.upd (F.upd (F.upd f6 14 t8) 15 (f6 13)) 5 (f6 13)) 16 (f6 0)) 17 (f6 13)) 18 t9) 19 t10) 20 (f6 1)) 21 (f6 13)) 22 t11) 23 t12) 24 t13) 25 t14) 13 t14) w7.drew))
    (Q5 (.exit 0) (F.upd f6 14 t8) w7))
   (blockQ 0 (seqQ (fun f15 w16 =>
  k (.bool true) w16) (bodyQ Try.prog [.tmp 4] k)))
   (F.upd (F.upd (F.upd (F.upd (F.upd (F.upd (F.upd (F.upd (F.upd (initF [v0, v1]) 4 (.bool false)) 6 v0) 7 t1) 8 v1) 9 t2) 10 t3) 11 v0) 12 t4) 13 (.int .i64 0)) w)
theorem body110 : Try.f110.body = some (bodyOf Try.f110) := by kernel_rfl
theorem same110 (v0 v1 : Value) (k : Value → World → Prop) (w : World) : wpF Try.prog pl110 (bodyOf Try.f110) (bodyQ Try.prog Try.f110.results.toList k) (initF [v0, v1]) w = S110 v0 v1 k w := by kernel_rfl
theorem enter110 {v0 v1 : Value} {k : Value → World → Prop} {w : World} (h : S110 v0 v1 k w) : CallK Try.prog 110 [v0, v1] k w :=
  call_of_wpF (pl := pl110) mixed Try.func110 body110 (by kernel_rfl) (of_decide_eq_true (by kernel_rfl)) (by kernel_rfl) (by kernel_rfl) (same110 v0 v1 k w ▸ h)

/-! loop.example/g00758/laws.szRule -/
def pl131 : Plans := fun _ => ⟨false, [], .nil⟩
def S131 (v0 v1 : Value) (k : Value → World → Prop) (w : World) : Prop :=
 Do Try.prog (sBox 148 v0) (fun t1 w2 =>
 Rd Try.prog (WS.at w2) (sFieldAddr 148 t1 1) fun t3 =>
 Rd Try.prog (WS.at w2) (sLoad 22 t3) fun t4 =>
 CallK Try.prog 172 [t4, v1] (fun t5 w6 =>
 Rd Try.prog (WS.at w6) (sBin .lss 3 true t5 (.int .i64 0)) fun t7 =>
 CondK t7
  (k (.int .i64 (-1)) w6)
  (k t5 w6)) w2) w
theorem body131 : Try.f131.body = some (bodyOf Try.f131) := by kernel_rfl
theorem same131 (v0 v1 : Value) (k : Value → World → Prop) (w : World) : wpF Try.prog pl131 (bodyOf Try.f131) (bodyQ Try.prog Try.f131.results.toList k) (initF [v0, v1]) w = S131 v0 v1 k w := by kernel_rfl
theorem enter131 {v0 v1 : Value} {k : Value → World → Prop} {w : World} (h : S131 v0 v1 k w) : CallK Try.prog 131 [v0, v1] k w :=
  call_of_wpF (pl := pl131) mixed Try.func131 body131 (by kernel_rfl) (of_decide_eq_true (by kernel_rfl)) (by kernel_rfl) (by kernel_rfl) (same131 v0 v1 k w ▸ h)

/-! loop.example/g00758/spec.l1Symbol -/
def pl132 : Plans := fun _ => ⟨false, [], .nil⟩
def S132 (v0 v1 : Value) (k : Value → World → Prop) (w : World) : Prop :=
 Do Try.prog (sBox 37 v0) (fun t1 w2 =>
 Rd Try.prog (WS.at w2) (sFieldAddr 37 t1 1) fun t3 =>
 Rd Try.prog (WS.at w2) (sLoad 3 t3) fun t4 =>
 Rd Try.prog (WS.at w2) (sUn .neg t4) fun t5 =>
 Rd Try.prog (WS.at w2) (sFieldAddr 37 t1 0) fun t6 =>
 Rd Try.prog (WS.at w2) (sLoad 3 t6) fun t7 =>
 Rd Try.prog (WS.at w2) (sBin .sub 3 true t7 (.int .i64 1)) fun t8 =>
 CallK Try.prog 77 [v1, t5, t8] (fun t9 w10 =>
 k t9 w10) w2) w
theorem body132 : Try.f132.body = some (bodyOf Try.f132) := by kernel_rfl
theorem same132 (v0 v1 : Value) (k : Value → World → Prop) (w : World) : wpF Try.prog pl132 (bodyOf Try.f132) (bodyQ Try.prog Try.f132.results.toList k) (initF [v0, v1]) w = S132 v0 v1 k w := by kernel_rfl
theorem enter132 {v0 v1 : Value} {k : Value → World → Prop} {w : World} (h : S132 v0 v1 k w) : CallK Try.prog 132 [v0, v1] k w :=
  call_of_wpF (pl := pl132) mixed Try.func132 body132 (by kernel_rfl) (of_decide_eq_true (by kernel_rfl)) (by kernel_rfl) (by kernel_rfl) (same132 v0 v1 k w ▸ h)

/-! loop.example/g00758/spec.l1SameRule -/
def pl133 : Plans := fun _ => ⟨false, [], .nil⟩
def S133 (v0 v1 : Value) (k : Value → World → Prop) (w : World) : Prop :=
 Do Try.prog (sBox 77 v0) (fun t1 w2 =>
 Do Try.prog (sBox 77 v1) (fun t3 w4 =>
 Rd Try.prog (WS.at w4) (sFieldAddr 77 t1 0) fun t5 =>
 Rd Try.prog (WS.at w4) (sLoad 3 t5) fun t6 =>
 Rd Try.prog (WS.at w4) (sFieldAddr 77 t3 0) fun t7 =>
 Rd Try.prog (WS.at w4) (sLoad 3 t7) fun t8 =>
 Rd Try.prog (WS.at w4) (sBin .eql 3 false t6 t8) fun t9 =>
 GuardK t9 true (fun k w' => Rd Try.prog (WS.at w4) (sFieldAddr 77 t1 1) fun v => k v w') (fun t10 w11 =>
 GuardK t9 true (fun k w' => Rd Try.prog (WS.at w11) (sLoad 22 t10) fun v => k v w') (fun t12 w13 =>
 GuardK t9 true (fun k w' => Rd Try.prog (WS.at w13) (sFieldAddr 77 t3 1) fun v => k v w') (fun t14 w15 =>
 GuardK t9 true (fun k w' => Rd Try.prog (WS.at w15) (sLoad 22 t14) fun v => k v w') (fun t16 w17 =>
 GuardK t9 true (fun k w' => CallK Try.prog 173 [t12, t16] k w') (fun t18 w19 =>
 Rd Try.prog (WS.at w19) (sPick t9 t18 (.bool false)) fun t20 =>
 k t20 w19) w17) w15) w13) w11) w4) w2) w
theorem body133 : Try.f133.body = some (bodyOf Try.f133) := by kernel_rfl
theorem same133 (v0 v1 : Value) (k : Value → World → Prop) (w : World) : wpF Try.prog pl133 (bodyOf Try.f133) (bodyQ Try.prog Try.f133.results.toList k) (initF [v0, v1]) w = S133 v0 v1 k w := by kernel_rfl
theorem enter133 {v0 v1 : Value} {k : Value → World → Prop} {w : World} (h : S133 v0 v1 k w) : CallK Try.prog 133 [v0, v1] k w :=
  call_of_wpF (pl := pl133) mixed Try.func133 body133 (by kernel_rfl) (of_decide_eq_true (by kernel_rfl)) (by kernel_rfl) (by kernel_rfl) (same133 v0 v1 k w ▸ h)

/-! loop.example/g00758/laws.toRule -/
def pl134 : Plans := fun _ => ⟨false, [], .nil⟩
def S134 (v0 : Value) (k : Value → World → Prop) (w : World) : Prop :=
 Do Try.prog (sBox 148 v0) (fun t1 w2 =>
 Do Try.prog (sAlloc 77) (fun t3 w4 =>
 Do Try.prog (sAlloc 77) (fun t5 w6 =>
 Rd Try.prog (WS.at w6) (sFieldAddr 148 t1 0) fun t7 =>
 Rd Try.prog (WS.at w6) (sLoad 3 t7) fun t8 =>
 Rd Try.prog (WS.at w6) (sFieldAddr 77 t5 0) fun t9 =>
 Do Try.prog (sStore 3 t9 t8) (fun _ w10 =>
 Rd Try.prog (WS.at w10) (sFieldAddr 148 t1 1) fun t11 =>
 Rd Try.prog (WS.at w10) (sLoad 22 t11) fun t12 =>
 CallK Try.prog 24 [t12] (fun t13 w14 =>
 Rd Try.prog (WS.at w14) (sFieldAddr 77 t5 1) fun t15 =>
 Do Try.prog (sStore 22 t15 t13) (fun _ w16 =>
 Rd Try.prog (WS.at w16) (sLoad 77 t5) fun t17 =>
 Do Try.prog (sStore 77 t3 t17) (fun _ w18 =>
 Rd Try.prog (WS.at w18) (sLoadVar 77 t3) fun t19 => k t19 w18) w16) w14) w10) w6) w4) w2) w
theorem body134 : Try.f134.body = some (bodyOf Try.f134) := by kernel_rfl
theorem same134 (v0 : Value) (k : Value → World → Prop) (w : World) : wpF Try.prog pl134 (bodyOf Try.f134) (bodyQ Try.prog Try.f134.results.toList k) (initF [v0]) w = S134 v0 k w := by kernel_rfl
theorem enter134 {v0 : Value} {k : Value → World → Prop} {w : World} (h : S134 v0 k w) : CallK Try.prog 134 [v0] k w :=
  call_of_wpF (pl := pl134) mixed Try.func134 body134 (by kernel_rfl) (of_decide_eq_true (by kernel_rfl)) (by kernel_rfl) (by kernel_rfl) (same134 v0 k w ▸ h)

/-! loop.example/g00758/impl.areSymbols -/
def pl135 : Plans := fun _ => ⟨false, [], .nil⟩
def S135 (v0 v1 v2 : Value) (k : Value → World → Prop) (w : World) : Prop :=
 Do Try.prog (sBox 3 v1) (fun t1 w2 =>
 Do Try.prog (sBox 3 v2) (fun t3 w4 =>
 Rd Try.prog (WS.at w4) (sMakeFunc (.func 174) [] [t1, t3]) fun t5 =>
 CallK Try.prog 129 [v0, t5] (fun t6 w7 =>
 Rd Try.prog (WS.at w7) (sUn .not t6) fun t8 =>
 k t8 w7) w4) w2) w
theorem body135 : Try.f135.body = some (bodyOf Try.f135) := by kernel_rfl
theorem same135 (v0 v1 v2 : Value) (k : Value → World → Prop) (w : World) : wpF Try.prog pl135 (bodyOf Try.f135) (bodyQ Try.prog Try.f135.results.toList k) (initF [v0, v1, v2]) w = S135 v0 v1 v2 k w := by kernel_rfl
theorem enter135 {v0 v1 v2 : Value} {k : Value → World → Prop} {w : World} (h : S135 v0 v1 v2 k w) : CallK Try.prog 135 [v0, v1, v2] k w :=
  call_of_wpF (pl := pl135) mixed Try.func135 body135 (by kernel_rfl) (of_decide_eq_true (by kernel_rfl)) (by kernel_rfl) (by kernel_rfl) (same135 v0 v1 v2 k w ▸ h)

/-! slices.ContainsFunc[[]loop.example/g00758/impl.Rule,loop.example/g00758/impl.Rule] -/
def pl136 : Plans := fun _ => ⟨false, [], .nil⟩
def S136 (v0 v1 : Value) (k : Value → World → Prop) (w : World) : Prop :=
 CallK Try.prog 176 [v0, v1] (fun t1 w2 =>
 Rd Try.prog (WS.at w2) (sBin .geq 3 true t1 (.int .i64 0)) fun t3 =>
 k t3 w2) w
theorem body136 : Try.f136.body = some (bodyOf Try.f136) := by kernel_rfl
theorem same136 (v0 v1 : Value) (k : Value → World → Prop) (w : World) : wpF Try.prog pl136 (bodyOf Try.f136) (bodyQ Try.prog Try.f136.results.toList k) (initF [v0, v1]) w = S136 v0 v1 k w := by kernel_rfl
theorem enter136 {v0 v1 : Value} {k : Value → World → Prop} {w : World} (h : S136 v0 v1 k w) : CallK Try.prog 136 [v0, v1] k w :=
  call_of_wpF (pl := pl136) mixed Try.func136 body136 (by kernel_rfl) (of_decide_eq_true (by kernel_rfl)) (by kernel_rfl) (by kernel_rfl) (same136 v0 v1 k w ▸ h)

/-! loop.example/g00758/impl.isGrammar$1 -/
def pl137 : Plans := fun _ => ⟨false, [], .nil⟩
def S137 (v0 v1 : Value) (k : Value → World → Prop) (w : World) : Prop :=
 Do Try.prog (sBox 77 v0) (fun t1 w2 =>
 Rd Try.prog (WS.at w2) (sLoad 77 t1) fun t3 =>
 Rd Try.prog (WS.at w2) (sLoad 77 v1) fun t4 =>
 CallK Try.prog 138 [t3, t4] (fun t5 w6 =>
 k t5 w6) w2) w
theorem body137 : Try.f137.body = some (bodyOf Try.f137) := by kernel_rfl
theorem same137 (v0 v1 : Value) (k : Value → World → Prop) (w : World) : wpF Try.prog pl137 (bodyOf Try.f137) (bodyQ Try.prog Try.f137.results.toList k) (initF [v0, v1]) w = S137 v0 v1 k w := by kernel_rfl
theorem enter137 {v0 v1 : Value} {k : Value → World → Prop} {w : World} (h : S137 v0 v1 k w) : CallK Try.prog 137 [v0, v1] k w :=
  call_of_wpF (pl := pl137) mixed Try.func137 body137 (by kernel_rfl) (of_decide_eq_true (by kernel_rfl)) (by kernel_rfl) (by kernel_rfl) (same137 v0 v1 k w ▸ h)

/-! loop.example/g00758/impl.sameRule -/
def pl138 : Plans := fun _ => ⟨false, [], .nil⟩
def S138 (v0 v1 : Value) (k : Value → World → Prop) (w : World) : Prop :=
 Do Try.prog (sBox 77 v0) (fun t1 w2 =>
 Do Try.prog (sBox 77 v1) (fun t3 w4 =>
 Rd Try.prog (WS.at w4) (sFieldAddr 77 t1 0) fun t5 =>
 Rd Try.prog (WS.at w4) (sLoad 3 t5) fun t6 =>
 Rd Try.prog (WS.at w4) (sFieldAddr 77 t3 0) fun t7 =>
 Rd Try.prog (WS.at w4) (sLoad 3 t7) fun t8 =>
 Rd Try.prog (WS.at w4) (sBin .eql 3 false t6 t8) fun t9 =>
 GuardK t9 true (fun k w' => Rd Try.prog (WS.at w4) (sFieldAddr 77 t1 1) fun v => k v w') (fun t10 w11 =>
 GuardK t9 true (fun k w' => Rd Try.prog (WS.at w11) (sLoad 22 t10) fun v => k v w') (fun t12 w13 =>
 GuardK t9 true (fun k w' => Rd Try.prog (WS.at w13) (sFieldAddr 77 t3 1) fun v => k v w') (fun t14 w15 =>
 GuardK t9 true (fun k w' => Rd Try.prog (WS.at w15) (sLoad 22 t14) fun v => k v w') (fun t16 w17 =>
 GuardK t9 true (fun k w' => CallK Try.prog 110 [t12, t16] k w') (fun t18 w19 =>
 Rd Try.prog (WS.at w19) (sPick t9 t18 (.bool false)) fun t20 =>
 k t20 w19) w17) w15) w13) w11) w4) w2) w
theorem body138 : Try.f138.body = some (bodyOf Try.f138) := by kernel_rfl
theorem same138 (v0 v1 : Value) (k : Value → World → Prop) (w : World) : wpF Try.prog pl138 (bodyOf Try.f138) (bodyQ Try.prog Try.f138.results.toList k) (initF [v0, v1]) w = S138 v0 v1 k w := by kernel_rfl
theorem enter138 {v0 v1 : Value} {k : Value → World → Prop} {w : World} (h : S138 v0 v1 k w) : CallK Try.prog 138 [v0, v1] k w :=
  call_of_wpF (pl := pl138) mixed Try.func138 body138 (by kernel_rfl) (of_decide_eq_true (by kernel_rfl)) (by kernel_rfl) (by kernel_rfl) (same138 v0 v1 k w ▸ h)

/-! loop.example/g00758/laws.eqRule -/
def pl139 : Plans := fun _ => ⟨false, [], .nil⟩
def S139 (v0 v1 : Value) (k : Value → World → Prop) (w : World) : Prop :=
 Do Try.prog (sBox 77 v0) (fun t1 w2 =>
 Do Try.prog (sBox 77 v1) (fun t3 w4 =>
 Rd Try.prog (WS.at w4) (sFieldAddr 77 t1 0) fun t5 =>
 Rd Try.prog (WS.at w4) (sLoad 3 t5) fun t6 =>
 Rd Try.prog (WS.at w4) (sFieldAddr 77 t3 0) fun t7 =>
 Rd Try.prog (WS.at w4) (sLoad 3 t7) fun t8 =>
 Rd Try.prog (WS.at w4) (sBin .neq 3 false t6 t8) fun t9 =>
 CondK t9
  (k (.bool false) w4)
  (Rd Try.prog (WS.at w4) (sFieldAddr 77 t1 1) fun t10 =>
  Rd Try.prog (WS.at w4) (sLoad 22 t10) fun t11 =>
  Rd Try.prog (WS.at w4) (sFieldAddr 77 t3 1) fun t12 =>
  Rd Try.prog (WS.at w4) (sLoad 22 t12) fun t13 =>
  CallK Try.prog 26 [t11, t13] (fun t14 w15 =>
  Rd Try.prog (WS.at w15) (sUn .not t14) fun t16 =>
  CondK t16
   (k (.bool false) w15)
   (k (.bool true) w15)) w4)) w2) w
theorem body139 : Try.f139.body = some (bodyOf Try.f139) := by kernel_rfl
theorem same139 (v0 v1 : Value) (k : Value → World → Prop) (w : World) : wpF Try.prog pl139 (bodyOf Try.f139) (bodyQ Try.prog Try.f139.results.toList k) (initF [v0, v1]) w = S139 v0 v1 k w := by kernel_rfl
theorem enter139 {v0 v1 : Value} {k : Value → World → Prop} {w : World} (h : S139 v0 v1 k w) : CallK Try.prog 139 [v0, v1] k w :=
  call_of_wpF (pl := pl139) mixed Try.func139 body139 (by kernel_rfl) (of_decide_eq_true (by kernel_rfl)) (by kernel_rfl) (by kernel_rfl) (same139 v0 v1 k w ▸ h)

/-! loop.example/g00758/laws.szIntS -/
def pl172 : Plans := fun _ => ⟨false, [], .nil⟩
def S172 (v0 v1 : Value) (k : Value → World → Prop) (w : World) : Prop :=
 Rd Try.prog (WS.at w) (sBuiltin .len #[22] 3 [false] [v0]) fun t1 =>
 Rd Try.prog (WS.at w) (sBin .sub 3 false v1 t1) fun t2 =>
 Rd Try.prog (WS.at w) (sBin .lss 3 true t2 (.int .i64 0)) fun t3 =>
 CondK t3
  (k (.int .i64 (-1)) w)
  (k t2 w)
theorem body172 : Try.f172.body = some (bodyOf Try.f172) := by kernel_rfl
theorem same172 (v0 v1 : Value) (k : Value → World → Prop) (w : World) : wpF Try.prog pl172 (bodyOf Try.f172) (bodyQ Try.prog Try.f172.results.toList k) (initF [v0, v1]) w = S172 v0 v1 k w := by kernel_rfl
theorem enter172 {v0 v1 : Value} {k : Value → World → Prop} {w : World} (h : S172 v0 v1 k w) : CallK Try.prog 172 [v0, v1] k w :=
  call_of_wpF (pl := pl172) mixed Try.func172 body172 (by kernel_rfl) (of_decide_eq_true (by kernel_rfl)) (by kernel_rfl) (by kernel_rfl) (same172 v0 v1 k w ▸ h)

/-! loop.example/g00758/spec.l1Same -/
def pl173 : Plans := fun i => match i with
  | 6 => ⟨false, [], .step 0 .any (.step 1 .any (.step 2 .any (.step 3 .held (.step 4 .any (.step 5 .any (.step 6 .any (.step 7 .held (.step 8 .any (.nil)))))))))⟩
  | _ => ⟨false, [], .nil⟩
def S173 (v0 v1 : Value) (k : Value → World → Prop) (w : World) : Prop :=
 Rd Try.prog (WS.at w) (sBuiltin .len #[22] 3 [false] [v0]) fun t1 =>
 Rd Try.prog (WS.at w) (sBuiltin .len #[22] 3 [false] [v1]) fun t2 =>
 Rd Try.prog (WS.at w) (sBin .neq 3 false t1 t2) fun t3 =>
 CondK t3
  (k (.bool false) w)
  (Rd Try.prog (WS.at w) (sBuiltin .len #[22] 3 [false] [v0]) fun t4 =>
  LoopF [14, 15, 5, 16, 17, 18, 19, 20, 21, 22, 23, 24, 4, 25, 13] (fun Q5 f6 w7 =>
   Rd Try.prog (WS.at w7) (sBin .lss 3 false (f6 13) (f6 12)) fun t8 =>
   CondK t8
    (Rd Try.prog WS.any (sIndexAddr 22 (f6 0) (f6 13)) fun t9 =>
    Rd Try.prog (WS.at w7.drew) (sLoad 3 t9) fun t10 =>
    Rd Try.prog WS.any (sIndexAddr 22 (f6 1) (f6 13)) fun t11 =>
    Rd Try.prog (WS.at w7.drew) (sLoad 3 t11) fun t12 =>
    Rd Try.prog WS.any (sBin .neq 3 false t10 t12) fun t13 =>
    CondK t13
     (Q5 .ret (F.upd (F.upd (F.upd (F.upd (F.upd (F.upd (F.upd (F.upd (F.upd (F.upd (F.upd (F.upd (F.upd f6 14 t8) 15 (f6 13)) 5 (f6 13)) 16 (f6 0)) 17 (f6 13)) 18 t9) 19 t10) 20 (f6 1)) 21 (f6 13)) 22 t11) 23 t12) 24 t13) 4 (.bool false)) w7.drew)
     (Rd Try.prog (WS.at w7.drew) (sBin .add 3 true (f6 13) (.int .i64 1)) fun t14 =>
     Q5 .normal (F.upd (F.upd (F.upd (F.upd (F.upd (F.upd (F.upd (F.upd (F.upd (F.upd (F.upd (F.upd (F.upd (F.upd f6 14 t8) 15 (f6 13)) 5 (f6 13)) 16 (f6 0)) 17 (f6 13)) 18 t9) 19 t10) 20 (f6 1)) 21 (f6 13)) 22 t11) 23 t12) 24 t13) 25 t14) 13 t14) w7.drew))
    (Q5 (.exit 0) (F.upd f6 14 t8) w7))
   (blockQ 0 (seqQ (fun f15 w16 =>
  k (.bool true) w16) (bodyQ Try.prog [.tmp 4] k)))
   (F.upd (F.upd (F.upd (F.upd (F.upd (F.upd (F.upd (F.upd (F.upd (initF [v0, v1]) 4 (.bool false)) 6 v0) 7 t1) 8 v1) 9 t2) 10 t3) 11 v0) 12 t4) 13 (.int .i64 0)) w)
theorem body173 : Try.f173.body = some (bodyOf Try.f173) := by kernel_rfl
theorem same173 (v0 v1 : Value) (k : Value → World → Prop) (w : World) : wpF Try.prog pl173 (bodyOf Try.f173) (bodyQ Try.prog Try.f173.results.toList k) (initF [v0, v1]) w = S173 v0 v1 k w := by kernel_rfl
theorem enter173 {v0 v1 : Value} {k : Value → World → Prop} {w : World} (h : S173 v0 v1 k w) : CallK Try.prog 173 [v0, v1] k w :=
  call_of_wpF (pl := pl173) mixed Try.func173 body173 (by kernel_rfl) (of_decide_eq_true (by kernel_rfl)) (by kernel_rfl) (by kernel_rfl) (same173 v0 v1 k w ▸ h)

/-! loop.example/g00758/impl.areSymbols$1 -/
def pl174 : Plans := fun _ => ⟨false, [], .nil⟩
def S174 (v0 v1 v2 : Value) (k : Value → World → Prop) (w : World) : Prop :=
 Rd Try.prog (WS.at w) (sLoad 3 v1) fun t1 =>
 Rd Try.prog (WS.at w) (sLoad 3 v2) fun t2 =>
 CallK Try.prog 175 [v0, t1, t2] (fun t3 w4 =>
 Rd Try.prog (WS.at w4) (sUn .not t3) fun t5 =>
 k t5 w4) w
theorem body174 : Try.f174.body = some (bodyOf Try.f174) := by kernel_rfl
theorem same174 (v0 v1 v2 : Value) (k : Value → World → Prop) (w : World) : wpF Try.prog pl174 (bodyOf Try.f174) (bodyQ Try.prog Try.f174.results.toList k) (initF [v0, v1, v2]) w = S174 v0 v1 v2 k w := by kernel_rfl
theorem enter174 {v0 v1 v2 : Value} {k : Value → World → Prop} {w : World} (h : S174 v0 v1 v2 k w) : CallK Try.prog 174 [v0, v1, v2] k w :=
  call_of_wpF (pl := pl174) mixed Try.func174 body174 (by kernel_rfl) (of_decide_eq_true (by kernel_rfl)) (by kernel_rfl) (by kernel_rfl) (same174 v0 v1 v2 k w ▸ h)

/-! loop.example/g00758/impl.isSymbol -/
def pl175 : Plans := fun _ => ⟨false, [], .nil⟩
def S175 (v0 v1 v2 : Value) (k : Value → World → Prop) (w : World) : Prop :=
 Rd Try.prog (WS.at w) (sUn .neg v2) fun t1 =>
 Rd Try.prog (WS.at w) (sBin .sub 3 true v1 (.int .i64 1)) fun t2 =>
 CallK Try.prog 103 [v0, t1, t2] (fun t3 w4 =>
 k t3 w4) w
theorem body175 : Try.f175.body = some (bodyOf Try.f175) := by kernel_rfl
theorem same175 (v0 v1 v2 : Value) (k : Value → World → Prop) (w : World) : wpF Try.prog pl175 (bodyOf Try.f175) (bodyQ Try.prog Try.f175.results.toList k) (initF [v0, v1, v2]) w = S175 v0 v1 v2 k w := by kernel_rfl
theorem enter175 {v0 v1 v2 : Value} {k : Value → World → Prop} {w : World} (h : S175 v0 v1 v2 k w) : CallK Try.prog 175 [v0, v1, v2] k w :=
  call_of_wpF (pl := pl175) mixed Try.func175 body175 (by kernel_rfl) (of_decide_eq_true (by kernel_rfl)) (by kernel_rfl) (by kernel_rfl) (same175 v0 v1 v2 k w ▸ h)

/-! slices.IndexFunc[[]loop.example/g00758/impl.Rule,loop.example/g00758/impl.Rule] -/
def pl176 : Plans := fun _ => ⟨false, [], .nil⟩
def S176 (v0 v1 : Value) (k : Value → World → Prop) (w : World) : Prop :=
 Rd Try.prog (WS.at w) (sBuiltin .len #[35] 3 [false] [v0]) fun t1 =>
 LoopF [9, 10, 5, 11, 12, 13, 14, 15, 16, 17, 4, 18, 8] (fun Q2 f3 w4 =>
  Rd Try.prog (WS.at w4) (sBin .lss 3 false (f3 8) (f3 7)) fun t5 =>
  CondK t5
   (Rd Try.prog (WS.at w4) (sIndexAddr 35 (f3 0) (f3 8)) fun t6 =>
   Rd Try.prog (WS.at w4) (sLoad 77 t6) fun t7 =>
   Do Try.prog (sCallV (f3 1) [t7] 4) (fun t8 w9 =>
   CondK t8
    (Q2 .ret (F.upd (F.upd (F.upd (F.upd (F.upd (F.upd (F.upd (F.upd (F.upd (F.upd (F.upd f3 9 t5) 10 (f3 8)) 5 (f3 8)) 11 (f3 1)) 12 (f3 0)) 13 (f3 8)) 14 t6) 15 t7) 16 t8) 17 (f3 8)) 4 (f3 8)) w9)
    (Rd Try.prog (WS.at w9) (sBin .add 3 true (f3 8) (.int .i64 1)) fun t10 =>
    Q2 .normal (F.upd (F.upd (F.upd (F.upd (F.upd (F.upd (F.upd (F.upd (F.upd (F.upd (F.upd f3 9 t5) 10 (f3 8)) 5 (f3 8)) 11 (f3 1)) 12 (f3 0)) 13 (f3 8)) 14 t6) 15 t7) 16 t8) 18 t10) 8 t10) w9)) w4)
   (Q2 (.exit 0) (F.upd f3 9 t5) w4))
  (blockQ 0 (seqQ (fun f11 w12 =>
 k (.int .i64 (-1)) w12) (bodyQ Try.prog [.tmp 4] k)))
  (F.upd (F.upd (F.upd (F.upd (initF [v0, v1]) 4 (.int .i64 0)) 6 v0) 7 t1) 8 (.int .i64 0)) w
theorem body176 : Try.f176.body = some (bodyOf Try.f176) := by kernel_rfl
theorem same176 (v0 v1 : Value) (k : Value → World → Prop) (w : World) : wpF Try.prog pl176 (bodyOf Try.f176) (bodyQ Try.prog Try.f176.results.toList k) (initF [v0, v1]) w = S176 v0 v1 k w := by kernel_rfl
theorem enter176 {v0 v1 : Value} {k : Value → World → Prop} {w : World} (h : S176 v0 v1 k w) : CallK Try.prog 176 [v0, v1] k w :=
  call_of_wpF (pl := pl176) mixed Try.func176 body176 (by kernel_rfl) (of_decide_eq_true (by kernel_rfl)) (by kernel_rfl) (by kernel_rfl) (same176 v0 v1 k w ▸ h)

end Go.Proofs.Ytiohaeckagjebaa

/- Contracts: how large a grammar is, whether two are the same, and a copy of one. -/
set_option linter.unusedVariables false
set_option linter.unusedSimpArgs false
set_option maxRecDepth 100000
namespace Go.Sh
open Go
def lens (rs : List RuleL) : Nat := (rs.map fun r => r.2.length).sum
def sizeR (rs : List RuleL) : Nat := rs.length + lens rs
def left (n : Int) (s : Nat) : Int := if n < s then -1 else n - s
theorem take_rul {rs : List RuleL} {i : Nat} (h : i < rs.length) : rs.take (i + 1) = rs.take i ++ [rul rs i] := by
  rw [List.take_succ_eq_append_getElem h, rul_eq h]
theorem lens_take {rs : List RuleL} {i : Nat} (h : i < rs.length) : lens (rs.take (i + 1)) = lens (rs.take i) + (rul rs i).2.length := by
  rw [take_rul h]
  simp [lens]
theorem lens_le {rs : List RuleL} {i : Nat} : lens (rs.take i) ≤ lens rs := by
  unfold lens
  conv => rhs; rw [← List.take_append_drop i rs]
  rw [List.map_append, List.sum_append]
  omega
theorem lens_one {rs : List RuleL} {i : Nat} (h : i < rs.length) : (rul rs i).2.length ≤ lens rs := by
  have := lens_take h
  have := @lens_le rs (i + 1)
  omega
theorem rul_take {rs : List RuleL} {i j : Nat} (h : j < i) : rul (rs.take i) j = rul rs j := by
  simp [rul, List.getD_eq_getElem?_getD, List.getElem?_take, h]
end Go.Sh
namespace Go.Proofs.Ytiohaeckagjebaa
open Go Go.Sh Go.RowKit

theorem szIntS_c {w : World} {X : Option Addr} {c l : Nat} {n : Int} (h0 : 0 ≤ n) (h1 : n ≤ 9223372036854775807) (hl : l ≤ 9223372036854775807) {k : Value → World → Prop} (hk : k (.int .i64 (left n l)) w) :
    CallK Try.prog 172 [.slice X l c, .int .i64 n] k w := by
  refine enter172 ?_
  unfold S172
  simp only [go_sem, Nat.reduceEqDiff]
  rw [i64_of (by omega) (by omega)]
  unfold left at hk
  by_cases h : n - l < 0
  · simp only [h, decide_true, go_sem, Nat.reduceEqDiff]
    rwa [if_pos (by omega)] at hk
  · simp only [h, decide_false, go_sem, Nat.reduceEqDiff]
    rwa [if_neg (by omega)] at hk
theorem szRule_c {F : Nat → Prop} {w : World} {v : Value} {r : RuleL} {n : Int} (hv : RuleV F w v r) (h0 : 0 ≤ n) (h1 : n ≤ 9223372036854775807) {k : Value → World → Prop} (hk : ∀ w', Gr w w' → k (.int .i64 (left n r.2.length)) w') :
    CallK Try.prog 131 [v, .int .i64 n] k w := by
  obtain ⟨Y, c, rfl, hc, hy⟩ := hv
  refine enter131 ?_
  unfold S131
  refine do_box fun b w1 g1 hb1 hb => ?_
  simp only [go_sem, Nat.reduceEqDiff]
  rw [ldB22 hb rfl]
  refine szIntS_c h0 h1 hy.is.le ?_
  simp only [go_sem, Nat.reduceEqDiff]
  have := hk _ g1
  by_cases h : left n r.2.length < 0
  · simp only [h, decide_true, go_sem, Nat.reduceEqDiff]
    have e : left n r.2.length = -1 := by
      unfold left at h ⊢
      split at h
      · rw [if_pos (by assumption)]
      · omega
    rwa [e] at this
  · simp only [h, decide_false, go_sem, Nat.reduceEqDiff]
    exact this
theorem szRuleS_c {F : Nat → Prop} {w : World} {X : Option Addr} {c : Nat} {rs : List RuleL} {n : Int} (hx : RulesF F w X rs) (h0 : 0 ≤ n) (h1 : n ≤ 9223372036854775807) {k : Value → World → Prop} (hk : ∀ w', Gr w w' → k (.int .i64 (left n (sizeR rs))) w') :
    CallK Try.prog 80 [.slice X rs.length c, .int .i64 n] k w := by
  refine enter80 ?_
  unfold S80
  simp only [go_sem, Nat.reduceEqDiff]
  have hle := hx.le
  rw [i64_of (by omega) (by omega)]
  by_cases h : n - rs.length < 0
  · simp only [h, decide_true, go_sem, Nat.reduceEqDiff]
    have := hk _ (Gr.refl w)
    rwa [show left n (sizeR rs) = -1 from if_pos (by unfold sizeR; omega)] at this
  simp only [h, decide_false, go_sem, Nat.reduceEqDiff]
  refine ⟨fun f w' => ∃ i : Nat, i ≤ rs.length ∧ f 5 = .int .i64 i ∧ f 1 = .int .i64 (n - rs.length - lens (rs.take i)) ∧ 0 ≤ n - rs.length - lens (rs.take i) ∧ Gr w w', fun f _ => rs.length - (intOf (f 5)).toNat, ⟨0, Nat.zero_le _, rfl, by simp [lens]; rfl, by simp [lens]; omega, Gr.refl w⟩, ?_⟩
  rintro f w1 hag ⟨i, hi, h5, hf1, hpos, g1⟩
  have f0 : f 0 = .slice X rs.length c := hag 0 (by decide)
  simp only [f0, hf1, h5, go_sem, Nat.reduceEqDiff]
  by_cases hlt : i < rs.length
  · have hlt' : (i : Int) < rs.length := by omega
    simp only [hlt', decide_true, go_sem, Nat.reduceEqDiff]
    rw [ixn29 hx.ptr hlt]
    refine ld_rule agg148 sz148 (hx.gr g1) hlt fun v hv => ?_
    refine szRule_c hv hpos (by omega) fun w2 g2 => ?_
    simp only [go_sem, Nat.reduceEqDiff]
    have e := lens_take hlt
    by_cases hs : left (n - rs.length - lens (rs.take i)) (rul rs i).2.length < 0
    · simp only [hs, decide_true, go_sem, Nat.reduceEqDiff]
      have := hk _ (gr_trans g1 g2)
      have h2 := @lens_le rs (i + 1)
      have e2 : n < sizeR rs := by
        unfold left at hs
        unfold sizeR
        split at hs <;> omega
      rwa [show left n (sizeR rs) = -1 from if_pos e2] at this
    · simp only [hs, decide_false, go_sem, Nat.reduceEqDiff]
      rw [i64_of (by omega) (by omega)]
      have e3 : left (n - rs.length - lens (rs.take i)) (rul rs i).2.length = n - rs.length - lens (rs.take (i + 1)) := by
        unfold left at hs ⊢
        split at hs
        · omega
        · rw [if_neg (by assumption)]; omega
      rw [e3] at hs ⊢
      refine ⟨⟨i + 1, hlt, rfl, rfl, by omega, gr_trans g1 g2⟩, ?_⟩
      simp only [intOf]
      omega
  · simp only [show ¬ (i : Int) < rs.length from by omega, decide_false, go_sem, Nat.reduceEqDiff]
    have := hk _ g1
    have hi' : i = rs.length := by omega
    subst hi'
    rw [List.take_length] at hpos ⊢
    rwa [show left n (sizeR rs) = n - rs.length - lens rs from by unfold left sizeR; rw [if_neg (by omega)]; omega] at this
theorem szGrammar_c {F : Nat → Prop} {w : World} {v : Value} {gm : Gram} {n : Int} (hv : GramV F w v gm) (h0 : 0 ≤ n) (h1 : n ≤ 9223372036854775807) {k : Value → World → Prop} (hk : ∀ w', Gr w w' → k (.int .i64 (left n (sizeR gm.rules))) w') :
    CallK Try.prog 29 [v, .int .i64 n] k w := by
  obtain ⟨Y, c, rfl, hc, hy⟩ := hv
  refine enter29 ?_
  unfold S29
  refine do_box fun b w1 g1 hb1 hb => ?_
  simp only [go_sem, Nat.reduceEqDiff]
  rw [ldB29 hb rfl]
  refine szRuleS_c (hy.gr g1) h0 h1 fun w2 g2 => ?_
  simp only [go_sem, Nat.reduceEqDiff]
  have := hk _ (gr_trans g1 g2)
  by_cases h : left n (sizeR gm.rules) < 0
  · simp only [h, decide_true, go_sem, Nat.reduceEqDiff]
    have e : left n (sizeR gm.rules) = -1 := by
      unfold left at h ⊢
      split at h
      · rw [if_pos (by assumption)]
      · omega
    rwa [e] at this
  · simp only [h, decide_false, go_sem, Nat.reduceEqDiff]
    exact this
end Go.Proofs.Ytiohaeckagjebaa

/- Contracts: equality of grammars, copies of grammars. -/
set_option linter.unusedVariables false
set_option linter.unusedSimpArgs false
set_option maxRecDepth 100000
namespace Go.Sh
open Go
theorem rules_ext {rs qs : List RuleL} (hl : rs.length = qs.length) (h : ∀ j, j < rs.length → rul rs j = rul qs j) : rs = qs := by
  apply List.ext_getElem hl
  intro j h1 h2
  have := h j h1
  rwa [rul_eq h1, rul_eq h2] at this
end Go.Sh
namespace Go.Proofs.Ytiohaeckagjebaa
open Go Go.Sh Go.RowKit

theorem eqRule_c {F E : Nat → Prop} {w : World} {v u : Value} {r q : RuleL} (hv : RuleV F w v r) (hu : RuleV E w u q) {k : Value → World → Prop} (hk : ∀ w', Gr w w' → k (.bool (decide (r = q))) w') :
    CallK Try.prog 139 [v, u] k w := by
  obtain ⟨Y, c, rfl, hc, hy⟩ := hv
  obtain ⟨Z, d, rfl, hd, hz⟩ := hu
  refine enter139 ?_
  unfold S139
  refine do_box fun b w1 g1 hb1 hb => ?_
  refine do_box fun b' w2 g2 hb2 hb' => ?_
  have hb := hb.gr g2
  have g := gr_trans g1 g2
  simp only [go_sem, Nat.reduceEqDiff]
  rw [ldB3 hb rfl, ldB3 hb' rfl]
  simp only [go_sem, Nat.reduceEqDiff]
  by_cases h : r.1 = q.1
  · simp only [h, decide_true, go_sem, Nat.reduceEqDiff]
    rw [ldB22 hb rfl, ldB22 hb' rfl]
    refine eqIntS_c (hy.is.gr g) (hz.is.gr g) fun w3 g3 => ?_
    have := hk w3 (gr_trans g g3)
    simp only [go_sem, Nat.reduceEqDiff]
    by_cases h2 : r.2 = q.2
    · simp only [h2, decide_true, go_sem, Nat.reduceEqDiff]
      rwa [decide_eq_true (Prod.ext h h2)] at this
    · simp only [h2, decide_false, Bool.not_false, go_sem, Nat.reduceEqDiff]
      rwa [decide_eq_false (fun e => h2 (by rw [e]))] at this
  · simp only [h, decide_false, Bool.not_false, go_sem, Nat.reduceEqDiff]
    have := hk w2 g
    rwa [decide_eq_false (fun e => h (by rw [e]))] at this
theorem eqRuleS_c {F E : Nat → Prop} {w : World} {X Y : Option Addr} {c d : Nat} {rs qs : List RuleL} (hx : RulesF F w X rs) (hy : RulesF E w Y qs) {k : Value → World → Prop} (hk : ∀ w', Gr w w' → k (.bool (decide (rs = qs))) w') :
    CallK Try.prog 85 [.slice X rs.length c, .slice Y qs.length d] k w := by
  refine enter85 ?_
  unfold S85
  simp only [go_sem, Nat.reduceEqDiff]
  by_cases hl : rs.length = qs.length
  rotate_left
  · simp only [Int.ofNat_inj, hl, decide_false, Bool.not_false, go_sem, Nat.reduceEqDiff]
    have := hk _ (Gr.refl w)
    rwa [decide_eq_false (fun e => hl (by rw [e]))] at this
  simp only [Int.ofNat_inj, hl, decide_true, Bool.not_true, go_sem, Nat.reduceEqDiff]
  refine ⟨fun f w' => ∃ i : Nat, i ≤ rs.length ∧ f 5 = .int .i64 i ∧ Gr w w' ∧ ∀ j, j < i → rul rs j = rul qs j, fun f _ => rs.length - (intOf (f 5)).toNat, ⟨0, Nat.zero_le _, rfl, Gr.refl w, fun j hj => absurd hj (Nat.not_lt_zero j)⟩, ?_⟩
  rintro f w1 hag ⟨i, hi, h5, g1, hpre⟩
  have f0 : f 0 = .slice X rs.length c := (hag 0 (by decide)).trans (by rw [hl]; rfl)
  have f1 : f 1 = .slice Y qs.length d := hag 1 (by decide)
  simp only [f0, f1, h5, go_sem, Nat.reduceEqDiff]
  by_cases hlt : i < rs.length
  · have hlt' : (i : Int) < rs.length := by omega
    have := hx.le
    simp only [hlt', decide_true, go_sem, Nat.reduceEqDiff]
    have gd := gr_trans g1 (gr_drew w1)
    rw [ixn35 hx.ptr hlt]
    refine ld_rule agg77 sz77 (hx.gr gd) hlt fun v hv => ?_
    rw [ixn35 hy.ptr (by omega)]
    refine ld_rule agg77 sz77 (hy.gr gd) (by omega) fun u hu => ?_
    refine eqRule_c hv hu fun w2 g2 => ?_
    have g2' := gr_trans gd g2
    by_cases he : rul rs i = rul qs i
    · simp only [he, decide_true, Bool.not_true, go_sem, Nat.reduceEqDiff]
      rw [i64_of (by omega) (by omega)]
      refine ⟨⟨i + 1, hlt, rfl, g2', fun j hj => ?_⟩, ?_⟩
      · rcases Nat.lt_succ_iff_lt_or_eq.1 hj with h | rfl
        · exact hpre j h
        · exact he
      · simp only [intOf]
        omega
    · simp only [he, decide_false, Bool.not_false, go_sem, Nat.reduceEqDiff]
      have := hk _ g2'
      rwa [decide_eq_false (fun e => he (by rw [e]))] at this
  · simp only [show ¬ (i : Int) < rs.length from by omega, decide_false, go_sem, Nat.reduceEqDiff]
    have := hk _ g1
    rwa [decide_eq_true (rules_ext hl fun j hj => hpre j (by omega))] at this
theorem eqGrammar_c {F E : Nat → Prop} {w : World} {v u : Value} {a b : Gram} (hv : GramV F w v a) (hu : GramV E w u b) {k : Value → World → Prop} (hk : ∀ w', Gr w w' → k (.bool (decide (a = b))) w') :
    CallK Try.prog 33 [v, u] k w := by
  obtain ⟨Y, c, rfl, hc, hy⟩ := hv
  obtain ⟨Z, d, rfl, hd, hz⟩ := hu
  obtain ⟨n1, t1, r1⟩ := a
  obtain ⟨n2, t2, r2⟩ := b
  refine enter33 ?_
  unfold S33
  refine do_box fun b w1 g1 hb1 hb => ?_
  refine do_box fun b' w2 g2 hb2 hb' => ?_
  have hb := hb.gr g2
  have g := gr_trans g1 g2
  simp only [go_sem, Nat.reduceEqDiff]
  rw [ldB3 hb rfl, ldB3 hb' rfl]
  simp only [go_sem, Nat.reduceEqDiff]
  by_cases h : n1 = n2
  rotate_left
  · simp only [h, decide_false, Bool.not_false, go_sem, Nat.reduceEqDiff]
    have := hk w2 g
    rwa [decide_eq_false (fun e => h (by injection e))] at this
  simp only [h, decide_true, go_sem, Nat.reduceEqDiff]
  rw [ldB3 hb rfl, ldB3 hb' rfl]
  simp only [go_sem, Nat.reduceEqDiff]
  by_cases h2 : t1 = t2
  rotate_left
  · simp only [h2, decide_false, Bool.not_false, go_sem, Nat.reduceEqDiff]
    have := hk w2 g
    rwa [decide_eq_false (fun e => h2 (by injection e))] at this
  simp only [h2, decide_true, go_sem, Nat.reduceEqDiff]
  rw [ldB35 hb rfl, ldB35 hb' rfl]
  refine eqRuleS_c (hy.gr g) (hz.gr g) fun w3 g3 => ?_
  have := hk w3 (gr_trans g g3)
  simp only [go_sem, Nat.reduceEqDiff]
  by_cases h3 : r1 = r2
  · simp only [h3, decide_true, Bool.not_true, go_sem, Nat.reduceEqDiff]
    rwa [decide_eq_true (by rw [h, h2, h3])] at this
  · simp only [h3, decide_false, Bool.not_false, go_sem, Nat.reduceEqDiff]
    rwa [decide_eq_false (fun e => h3 (by injection e))] at this
end Go.Proofs.Ytiohaeckagjebaa

/- Contracts: a copy of a grammar, that the call owns. -/
set_option linter.unusedVariables false
set_option linter.unusedSimpArgs false
set_option maxRecDepth 100000
namespace Go.Sh
open Go
/-- A grammar as a value, of the call's own. -/
def GramO (w : World) (B : Nat) (v : Value) (g : Gram) : Prop := ∃ X c ps, v = .agg #[.int .i64 g.nons, .int .i64 g.toks, .slice X g.rules.length c] ∧ OwnR 77 3 w B X c g.rules ps
theorem GramO.gx {D : Nat → Prop} {w w' : World} {B : Nat} {v : Value} {r : Gram} (h : GramO w B v r) (g : Gx D w w') (hn : ∀ b, B ≤ b → b < w.heap.size → ¬ D b) : GramO w' B v r := by
  obtain ⟨X, c, ps, h1, h2⟩ := h
  exact ⟨X, c, ps, h1, h2.gx g hn⟩
theorem GramO.gr {w w' : World} {B : Nat} {v : Value} {r : Gram} (h : GramO w B v r) (g : Gr w w') : GramO w' B v r := by
  obtain ⟨X, c, ps, h1, h2⟩ := h
  exact ⟨X, c, ps, h1, h2.gr g⟩
theorem GramO.mono {w : World} {B B' : Nat} {v : Value} {r : Gram} (h : GramO w B v r) (hb : B' ≤ B) : GramO w B' v r := by
  obtain ⟨X, c, ps, h1, h2⟩ := h
  exact ⟨X, c, ps, h1, h2.mono hb⟩
theorem GramO.read {w : World} {B : Nat} {v : Value} {r : Gram} (h : GramO w B v r) : GramV (fun b => B ≤ b ∧ b < w.heap.size) w v r := by
  obtain ⟨X, c, ps, h1, h2⟩ := h
  obtain ⟨⟨cells, hr, _⟩, _⟩ := h2
  exact ⟨X, c, h1, (Row.cap hr).1, OwnR.read ⟨⟨cells, hr, by assumption⟩, by assumption, by assumption⟩⟩
theorem zeros_rules {n j : Nat} (h : j < n) : (madeCells (Value.cells (.agg #[.int .i64 0, .slice none 0 0])) (n * 2)).toList[j * 2]? = some (.int .i64 0) ∧ (madeCells (Value.cells (.agg #[.int .i64 0, .slice none 0 0])) (n * 2)).toList[j * 2 + 1]? = some (.slice none 0 0) := by
  constructor
  · simp [madeCells, Value.cells]
    rw [List.getElem?_range (by omega)]
    simp
  · simp [madeCells, Value.cells]
    rw [List.getElem?_range (by omega)]
    simp [Nat.add_mod]
theorem rul_replicate {n j : Nat} : rul (List.replicate n (0, [])) j = (0, []) := by
  simp only [rul, List.getD_eq_getElem?_getD, List.getElem?_replicate]
  split <;> rfl
end Go.Sh
namespace Go.Proofs.Ytiohaeckagjebaa
open Go Go.Sh Go.RowKit

theorem toRule_c {F : Nat → Prop} {w : World} {v : Value} {r : RuleL} (hv : RuleV F w v r) (hb : r.2.length * 8 ≤ 281474976710656) {k : Value → World → Prop}
    (hk : ∀ Y d w', Gr w w' → Own 3 w' w.heap.size Y d r.2 → k (.agg #[.int .i64 r.1, .slice Y r.2.length d]) w') :
    CallK Try.prog 134 [v] k w := by
  obtain ⟨Y, c, rfl, hc, hy⟩ := hv
  refine enter134 ?_
  unfold S134
  refine do_box fun b w1 g1 hb1 hB => ?_
  refine do_alloc_of inf77 fun b3 w2 g2 hb2 h3 => ?_
  have n1 := hB.ne hb2
  have hB := hB.gr g2
  refine do_alloc_of inf77 fun b5 w3 g3 hb3 h5 => ?_
  have n2 := hB.ne hb3
  have n3 := h3.ne hb3
  have hB := hB.gr g3
  have h3 := h3.gr g3
  have g := gr_trans g1 (gr_trans g2 g3)
  have q3 := Nat.le_trans g1.size hb2
  have q5 := Nat.le_trans (gr_trans g1 g2).size hb3
  simp only [go_sem, Nat.reduceEqDiff]
  rw [ldB3 hB rfl]
  refine do_store sz3 rfl (by intro u hu; simp [Value.cells] at hu; subst hu; rfl) h5 (by simp [Value.cells]) fun w4 g4 s4 h5 => ?_
  have hB := hB.put g4 n2
  have h3 := h3.put g4 n3
  have g := gr_put g g4 q5
  rw [ldB22 hB rfl]
  refine toIntS_c (hy.is.gr g) rfl (by assumption) fun X' c' w5 g5 o5 => ?_
  have l5 := h5.lt
  have l3 := h3.lt
  refine do_store sz22 rfl (by intro u hu; simp [Value.cells] at hu; subst hu; rfl) (h5.gr g5) (by simp [Value.cells]) fun w6 g6 s6 h5 => ?_
  have h3 := (h3.gr g5).put g6 n3
  have o6 := Row.kept_old o5 g6 l5
  have g := gr_put (gr_trans g g5) g6 q5
  rw [ldB_agg agg77 sz77 rfl h5]
  refine do_store sz77 rfl (by intro u hu; simp [Value.cells] at hu; rcases hu with rfl | rfl <;> rfl) h3 (by simp [Value.cells]) fun w7 g7 s7 h3 => ?_
  have o7 := Row.kept_old o6 g7 l3
  have g := gr_put g g7 q3
  rw [rd_loadVar, ldB_agg agg77 sz77 rfl h3]
  exact hk X' c' w7 g (Row.mono o7 (by have := g.size; omega))
theorem toRuleS_c {F : Nat → Prop} {w : World} {X : Option Addr} {c : Nat} {rs : List RuleL} (hx : RulesF F w X rs) (hb : sizeR rs ≤ 1048576) {k : Value → World → Prop}
    (hk : ∀ X' c' ps w', Gr w w' → OwnR 77 3 w' w.heap.size X' c' rs ps → k (.slice X' rs.length c') w') :
    CallK Try.prog 83 [.slice X rs.length c] k w := by
  have hn : rs.length ≤ 1048576 := by unfold sizeR at hb; omega
  refine enter83 ?_
  unfold S83
  simp only [go_sem, Nat.reduceEqDiff]
  refine mk35 (by omega) fun b w1 hb1 hb2 g1 hrow => ?_
  have o1 := hrow _ (Nat.le_refl _)
  refine ⟨fun f w' => ∃ i : Nat, i ≤ rs.length ∧ f 4 = .int .i64 i ∧ Gr w w' ∧ ∃ ps, (∀ j, i ≤ j → ps j = (none, 0)) ∧ OwnR 77 3 w' w.heap.size (some ⟨b, 0, none⟩) rs.length (rs.take i ++ (List.replicate rs.length ((0 : Int), ([] : List Int))).drop i) ps, fun f _ => rs.length - (intOf (f 4)).toNat,
    ⟨0, Nat.zero_le _, rfl, g1, fun _ => (none, 0), fun _ _ => rfl, ?_⟩, ?_⟩
  · rw [List.take_zero, List.nil_append, List.drop_zero]
    refine ⟨⟨_, by rw [List.length_replicate]; exact o1, fun j hj => ?_⟩, fun j hj => ?_, fun i j hi hj hij => .inl rfl⟩
    · rw [List.length_replicate] at hj
      rw [rul_replicate]
      exact zeros_rules hj
    · rw [rul_replicate]
      exact Row.nil _ _ _ _
  rintro f w2 hag ⟨i, hi, h4, g2, ps, hps, o2⟩
  have f0 : f 0 = .slice X rs.length c := hag 0 (by decide)
  have f3 : f 3 = .slice (some ⟨b, 0, none⟩) rs.length rs.length := hag 3 (by decide)
  simp only [f0, f3, h4, go_sem, Nat.reduceEqDiff]
  have hlen : (rs.take i ++ (List.replicate rs.length ((0 : Int), ([] : List Int))).drop i).length = rs.length := by simp; omega
  by_cases hlt : i < rs.length
  · have hlt' : (i : Int) < rs.length := by omega
    simp only [hlt', decide_true, go_sem, Nat.reduceEqDiff]
    rw [ixn29 hx.ptr hlt]
    refine ld_rule agg148 sz148 (hx.gr g2) hlt fun v hv => ?_
    have hone := lens_one hlt
    refine toRule_c hv (by unfold sizeR at hb; omega) fun Y d w3 g3 o3 => ?_
    rw [ixn35 (X := some ⟨b, 0, none⟩) (fun _ => rfl) hlt]
    refine do_store_rule sz77 (by decide) (o2.gr g3) (by rw [hlen]; exact hlt) (Row.mono o3 (Nat.le_refl _) |>.mono g2.size) (fun j hj hji => ?_) fun w4 g4 s4 o4 => ?_
    · cases hq : blk Y with
      | none => exact .inl rfl
      | some q =>
        refine .inr fun e => ?_
        have h1 := (Row.ge o3 hq).1
        have h2 := (Row.ge (o2.own j hj) e.symm).2
        omega
    rw [set_rul (by simpa using hlt) (by simp)] at o4
    have hq : w.heap.size ≤ b := hb1
    rw [i64_of (by omega) (by omega)]
    refine ⟨⟨i + 1, hlt, rfl, gr_put (gr_trans g2 g3) g4 hq, _, fun j hj => ?_, o4⟩, ?_⟩
    · rw [if_neg (by omega)]
      exact hps j (by omega)
    · simp only [intOf]
      omega
  · have hi' : i = rs.length := by omega
    subst hi'
    simp only [Int.lt_irrefl, decide_false, go_sem, Nat.reduceEqDiff]
    refine hk _ _ ps w2 g2 ?_
    simpa using o2
/-- A copy of a grammar. -/
theorem toGrammar_c {F : Nat → Prop} {w : World} {v : Value} {gm : Gram} (hv : GramV F w v gm) (hb : sizeR gm.rules ≤ 1048576) {k : Value → World → Prop}
    (hk : ∀ v' w', Gr w w' → GramO w' w.heap.size v' gm → k v' w') : CallK Try.prog 31 [v] k w := by
  obtain ⟨Y, c, rfl, hc, hy⟩ := hv
  refine enter31 ?_
  unfold S31
  refine do_box fun b w1 g1 hb1 hB => ?_
  refine do_alloc_of inf37 fun b3 w2 g2 hb2 h3 => ?_
  have n1 := hB.ne hb2
  have hB := hB.gr g2
  refine do_alloc_of inf37 fun b5 w3 g3 hb3 h5 => ?_
  have n2 := hB.ne hb3
  have n3 := h3.ne hb3
  have hB := hB.gr g3
  have h3 := h3.gr g3
  have g := gr_trans g1 (gr_trans g2 g3)
  have q3 := Nat.le_trans g1.size hb2
  have q5 := Nat.le_trans (gr_trans g1 g2).size hb3
  simp only [go_sem, Nat.reduceEqDiff]
  rw [ldB3 hB rfl]
  refine do_store sz3 rfl (by intro u hu; simp [Value.cells] at hu; subst hu; rfl) h5 (by simp [Value.cells]) fun w4 g4 s4 h5 => ?_
  have hB := hB.put g4 n2
  have h3 := h3.put g4 n3
  have g := gr_put g g4 q5
  rw [ldB3 hB rfl]
  refine do_store sz3 rfl (by intro u hu; simp [Value.cells] at hu; subst hu; rfl) h5 (by simp [Value.cells]) fun w4 g4 s4 h5 => ?_
  have hB := hB.put g4 n2
  have h3 := h3.put g4 n3
  have g := gr_put g g4 q5
  rw [ldB29 hB rfl]
  refine toRuleS_c (hy.gr g) (by assumption) fun X' c' ps w5 g5 o5 => ?_
  have l5 := h5.lt
  have l3 := h3.lt
  refine do_store sz35 rfl (by intro u hu; simp [Value.cells] at hu; subst hu; rfl) (h5.gr g5) (by simp [Value.cells]) fun w6 g6 s6 h5 => ?_
  have h3 := (h3.gr g5).put g6 n3
  have o6 := o5.gx (gx_of g6 (D := fun q => q = b5) fun q hq => by simpa using hq.symm) (fun q h1 h2 h3 => by omega)
  have g := gr_put (gr_trans g g5) g6 q5
  rw [ldB_agg agg37 sz37 rfl h5]
  refine do_store sz37 rfl (by intro u hu; simp [Value.cells] at hu; rcases hu with rfl | rfl | rfl <;> rfl) h3 (by simp [Value.cells]) fun w7 g7 s7 h3 => ?_
  have o7 := o6.gx (gx_of g7 (D := fun q => q = b3) fun q hq => by simpa using hq.symm) (fun q h1 h2 h3 => by omega)
  have g := gr_put g g7 q3
  rw [rd_loadVar, ldB_agg agg37 sz37 rfl h3]
  exact hk _ w7 g ⟨X', c', ps, rfl, o7.mono (by have := g.size; omega)⟩
end Go.Proofs.Ytiohaeckagjebaa

/- append to a row of the call's own, once more: the row stays in its block, or is new. -/
set_option linter.unusedVariables false
set_option linter.unusedSimpArgs false
set_option maxRecDepth 100000
namespace Go.Sh
open Go
/-- Same block, or a new one. -/
def Moved (w : World) (X X' : Option Addr) : Prop := blk X' = blk X ∨ ∀ q, blk X' = some q → w.heap.size ≤ q
section
variable {P : Program} {k : Value → World → Prop} {w : World}
theorem do_append2 {t e u sz by' : Nat} {z : Value} (ht : P.underlying t = some (.slice e)) (H : Inf P e z sz by') (hzs : z.cells.size = sz) (hsz : 0 < sz)
    {cs : List Bool} {B n c m d : Nat} {X Y : Option Addr} {cells news : List Value} (hO : Row w B e sz X n c cells) (hS : Src w Y news) (hl : news.length = m * sz) (h1 : ∀ v ∈ news, v.oneCell' = true) (hm : (n + m) * by' ≤ 140737488355328) (hmax : n + m ≤ 9223372036854775807) (hB : B ≤ w.heap.size)
    (h : ∀ X' c' w', Row w' B e sz X' (n + m) c' (cells ++ news) → w.grownBy w' (blk X) → Moved w X X' → k (.slice X' (n + m) c') w') : Do P (sBuiltin .append #[t, t] u cs [.slice X n c, .slice Y m d]) k w := by
  obtain ⟨i, hi, hz, hsize, hby⟩ := H
  have hfin : ∀ (v' : Value) (w' : World), (Builtin.append_ #[t, t] u #[.slice X n c, .slice Y m d]).run P w = .ok v' w' → w'.ownsRow B e sz v' (n + m) (cells ++ news) → w.grownBy w' (blk X) → (v'.ownBlock = blk X ∨ ∀ q, v'.ownBlock = some q → w.heap.size ≤ q) → Do P (sBuiltin .append #[t, t] u cs [.slice X n c, .slice Y m d]) k w := by
    intro v' w' hr ho hg hv
    have e' : (sBuiltin .append #[t, t] u cs [.slice X n c, .slice Y m d]).run P w = .ok (.value v') w' := by
      simp only [sBuiltin, builtin, Sem.run_bind]
      rw [show [Value.slice X n c, Value.slice Y m d].toArray = #[.slice X n c, .slice Y m d] from rfl, hr]
      rfl
    rw [do_value e']
    rcases ho.2 with ⟨rfl, hn⟩ | ⟨g, cap, cur, rfl, rest⟩
    · have := h none 0 w' (by rw [hn] at ho ⊢; exact ho) hg hv
      rwa [hn] at this
    · exact h _ _ _ ho hg hv
  cases Y with
  | none =>
    have hn : news = [] := by
      cases news with
      | nil => rfl
      | cons v vs => have := hS.ptr (by simp); cases this
    subst hn
    have hm0 : m = 0 := by
      rcases Nat.mul_eq_zero.1 (show m * sz = 0 from hl.symm) with h | h
      · exact h
      · omega
    subst hm0
    exact hfin _ _ (run_append_none ht ⟨i, hi, hsize⟩ hO.cap.1) (by rw [List.append_nil, Nat.add_zero]; exact hO) (gr_any (Gr.refl w) _) (.inl own_eq)
  | some a =>
    have h63 : n + m ≤ maxLen := by unfold maxLen; omega
    rcases hO.at_ with ⟨rfl, rfl, rfl⟩ | ⟨g, rfl, hbg, hgl⟩
    · have hnil : cells = [] := List.eq_nil_of_length_eq_zero (by rw [hO.len]; omega)
      subst hnil
      obtain ⟨v', w', h1', h2', h3', _⟩ := run_append_own (P := P) (w := w) w.heap.size t u e i z sz by' ht hi hz hsize hby hzs hsz (.slice none 0 0) 0 [] (Row.nil w w.heap.size e sz) a m d news hl (fun j u hu => hS.cell j u hu) h1 h63 hm (Nat.le_refl _)
      refine hfin v' w' h1' ?_ h3' (.inr fun q hq => ?_)
      · rcases h2'.2 with ⟨rfl, hn⟩ | ⟨g, cap, cur, rfl, e2, rest⟩
        · exact ⟨h2'.1, .inl ⟨rfl, hn⟩⟩
        · exact ⟨h2'.1, .inr ⟨g, cap, cur, rfl, Nat.le_trans hB e2, rest⟩⟩
      · rcases h2'.2 with ⟨rfl, hn⟩ | ⟨g, cap, cur, rfl, e2, rest⟩
        · cases hq
        · have : g = q := by simpa [Value.ownBlock] using hq
          omega
    · by_cases hroom : n + m ≤ c
      · obtain ⟨v', w', h1', h2', h3', _⟩ := run_append_own (P := P) (w := w) B t u e i z sz by' ht hi hz hsize hby hzs hsz _ n cells hO a m d news hl (fun j u hu => hS.cell j u hu) h1 h63 hm hB
        refine hfin v' w' h1' h2' (by rw [← own_eq]; exact h3') (.inl ?_)
        rcases hO.2 with ⟨hbad, _⟩ | ⟨g', cap', cur, e1, e2, e3, e4, e5, e6, e7⟩
        · simp at hbad
        obtain ⟨rfl, _, rfl⟩ : g = g' ∧ n = n ∧ c = cap' := by simpa using e1
        subst hsize
        have hr := run_append_room (P := P) w t u e i ht hi g n c cur e3 a m d news hl (fun j u hu => hS.cell j u hu) h1 hroom (by rw [hl, e6, ← Nat.add_mul]; exact Nat.mul_le_mul_right _ hroom)
        rw [hr] at h1'
        injection h1' with hv _
        rw [← hv]
        rfl
      · obtain ⟨v', w', h1', h2', h3'⟩ := run_append_arg_grows (P := P) (w := w) t u e i z sz by' ht hi hz hsize hby hzs hsz ⟨g, 0, none⟩ n c cells hO.len (fun j u hu => by
          have := hO.src.cell j u hu
          exact this) a m d news hl (fun j u hu => hS.cell j u hu) (by omega) h63 hm
        refine hfin v' w' h1' ?_ (gr_any h3' _) (.inr fun q hq => ?_)
        · rcases h2'.2 with ⟨rfl, hn⟩ | ⟨g, cap, cur, rfl, e2, rest⟩
          · exact ⟨h2'.1, .inl ⟨rfl, hn⟩⟩
          · exact ⟨h2'.1, .inr ⟨g, cap, cur, rfl, Nat.le_trans hB e2, rest⟩⟩
        · rcases h2'.2 with ⟨rfl, hn⟩ | ⟨g, cap, cur, rfl, e2, rest⟩
          · cases hq
          · have : g = q := by simpa [Value.ownBlock] using hq
            omega
end
end Go.Sh

/- Rules that the call owns: appended. -/
set_option linter.unusedVariables false
set_option linter.unusedSimpArgs false
set_option maxRecDepth 100000
namespace Go.Sh
open Go
/-- The cells of a row of rules. -/
def RCells (cells : List Value) (rs : List RuleL) (ps : Nat → Option Addr × Nat) : Prop :=
  cells.length = rs.length * 2 ∧ ∀ j, j < rs.length → cells[j * 2]? = some (.int .i64 (rul rs j).1) ∧ cells[j * 2 + 1]? = some (.slice (ps j).1 (rul rs j).2.length (ps j).2)
def joinP (n : Nat) (ps qp : Nat → Option Addr × Nat) : Nat → Option Addr × Nat := fun i => if i < n then ps i else qp (i - n)
theorem rul_left {rs qs : List RuleL} {i : Nat} (h : i < rs.length) : rul (rs ++ qs) i = rul rs i := by
  simp [rul, List.getD_eq_getElem?_getD, List.getElem?_append_left h]
theorem rul_right {rs qs : List RuleL} {i : Nat} (h : rs.length ≤ i) : rul (rs ++ qs) i = rul qs (i - rs.length) := by
  simp [rul, List.getD_eq_getElem?_getD, List.getElem?_append_right h]
theorem RCells.append {cells news : List Value} {rs qs : List RuleL} {ps qp : Nat → Option Addr × Nat} (h : RCells cells rs ps) (g : RCells news qs qp) : RCells (cells ++ news) (rs ++ qs) (joinP rs.length ps qp) := by
  refine ⟨by rw [List.length_append, List.length_append, h.1, g.1, Nat.add_mul], fun j hj => ?_⟩
  have h1 := h.1
  by_cases hlt : j < rs.length
  · rw [List.getElem?_append_left (by omega), List.getElem?_append_left (by omega), rul_left hlt]
    simp only [joinP, hlt, if_true]
    exact h.2 j hlt
  · rw [List.getElem?_append_right (by omega), List.getElem?_append_right (by omega), rul_right (by omega), h1]
    simp only [joinP, hlt, if_false]
    have := g.2 (j - rs.length) (by rw [List.length_append] at hj; omega)
    rw [show j * 2 - rs.length * 2 = (j - rs.length) * 2 from by omega, show j * 2 + 1 - rs.length * 2 = (j - rs.length) * 2 + 1 from by omega]
    exact this
theorem RCells.one {cells : List Value} {rs : List RuleL} {ps : Nat → Option Addr × Nat} (h : RCells cells rs ps) : ∀ v ∈ cells, v.oneCell' = true := by
  intro v hv
  obtain ⟨k, hk, rfl⟩ := List.getElem_of_mem hv
  have hl := h.1
  obtain ⟨h1, h2⟩ := h.2 (k / 2) (by omega)
  rcases Nat.mod_two_eq_zero_or_one k with e | e
  · rw [show k / 2 * 2 = k from by omega, List.getElem?_eq_getElem hk] at h1
    rw [Option.some.inj h1]
    rfl
  · rw [show k / 2 * 2 + 1 = k from by omega, List.getElem?_eq_getElem hk] at h2
    rw [Option.some.inj h2]
    rfl
theorem OwnR.cells {e1 e2 : Nat} {w : World} {B : Nat} {X : Option Addr} {c : Nat} {rs : List RuleL} {ps : Nat → Option Addr × Nat} (h : OwnR e1 e2 w B X c rs ps) : ∃ cells, Row w B e1 2 X rs.length c cells ∧ RCells cells rs ps := by
  obtain ⟨cells, hr, hc⟩ := h.row
  exact ⟨cells, hr, hr.len, hc⟩
theorem blk_ne {X Y : Option Addr} {a b : Nat} (h : ∀ q, blk X = some q → q < a) (g : ∀ q, blk Y = some q → b ≤ q) (hab : a ≤ b) : blk X = none ∨ blk X ≠ blk Y := by
  cases hq : blk X with
  | none => exact .inl rfl
  | some q =>
    refine .inr fun e => ?_
    have := h q hq
    have := g q e.symm
    omega
section
variable {P : Program} {S : WS} {k : Value → Prop}
theorem rd_build3 {t sz by' n0 n1 n2 : Nat} {z : Value} {f0 f1 f2 : Field} {ps : List (Nat × Value)} {cells : Array Value} (ht : P.underlying t = some (.struct #[f0, f1, f2])) (H : Inf P t z sz by') (h0 : szOf P f0.type n0) (h1 : szOf P f1.type n1) (h2 : szOf P f2.type n2)
    (hf : Instr.fill (#[(f0.offset, n0), (f1.offset, n1), (f2.offset, n2)][·]?) z.cells ps = some cells) : Rd P S (sBuild t ps) k = k (.agg cells) := rd_eq fun w _ => by
  obtain ⟨i, hi, hz, _, _⟩ := H
  have e0 : (zeroValue t).run P w = .ok z w := by simp [zeroValue, run_info hi, hz]
  have hf' : Instr.fill (fun x => [(f0.offset, n0), (f1.offset, n1), (f2.offset, n2)][x]?) z.cells ps = some cells := by simpa using hf
  simp [sBuild, Instr.build, e0, run_underlying ht, run_size h0, run_size h1, run_size h2, hf']
theorem rd_build2 {t sz by' n0 n1 : Nat} {z : Value} {f0 f1 : Field} {ps : List (Nat × Value)} {cells : Array Value} (ht : P.underlying t = some (.struct #[f0, f1])) (H : Inf P t z sz by') (h0 : szOf P f0.type n0) (h1 : szOf P f1.type n1)
    (hf : Instr.fill (#[(f0.offset, n0), (f1.offset, n1)][·]?) z.cells ps = some cells) : Rd P S (sBuild t ps) k = k (.agg cells) := rd_eq fun w _ => by
  obtain ⟨i, hi, hz, _, _⟩ := H
  have e0 : (zeroValue t).run P w = .ok z w := by simp [zeroValue, run_info hi, hz]
  have hf' : Instr.fill (fun x => [(f0.offset, n0), (f1.offset, n1)][x]?) z.cells ps = some cells := by simpa using hf
  simp [sBuild, Instr.build, e0, run_underlying ht, run_size h0, run_size h1, hf']
theorem rd_field {t : Nat} {fs : Array Field} {f : Field} {i : Nat} {cs : Array Value} {v : Value} (ht : P.underlying t = some (.struct fs)) (hf : fs[i]? = some f) (hp : ∀ w, (part f.type cs f.offset).run P w = .ok v w) : Rd P S (sField t (.agg cs) i) k = k v := rd_eq fun w _ => by
  simp [sField, Instr.field, run_underlying ht, hf, asAgg, hp]
end
/-- A box and a row of another type are different blocks. -/
theorem box_row {w : World} {b t B e sz n c : Nat} {cs xs : List Value} {X : Option Addr} (hb : Box w b cs t) (h : Row w B e sz X n c xs) (he : e ≠ t) : blk X ≠ some b := by
  intro hq
  rcases h.2 with h2 | ⟨q, cap, cur, e1, e2, e3, e4⟩
  · obtain ⟨rfl, _, _⟩ : X = none ∧ n = 0 ∧ c = 0 := by simpa using h2.1
    cases hq
  · obtain ⟨rfl, _, _⟩ : X = some ⟨q, 0, none⟩ ∧ n = n ∧ c = cap := by simpa using e1
    have : q = b := by simpa [blk] using hq
    subst this
    unfold Box at hb
    rw [hb] at e3
    simp at e3
    exact he e3.2.symm
theorem OwnR.put {e1 e2 : Nat} {w w' : World} {B b t : Nat} {X : Option Addr} {c : Nat} {rs : List RuleL} {ps : Nat → Option Addr × Nat} {cs : List Value} (h : OwnR e1 e2 w B X c rs ps) (hb : Box w b cs t) (h1 : e1 ≠ t) (h2 : e2 ≠ t) (g : w.grownBy w' (some b)) : OwnR e1 e2 w' B X c rs ps := by
  obtain ⟨⟨cells, hr, hc⟩, ho, ht⟩ := h
  exact ⟨⟨cells, Row.kept hr g (.inr (box_row hb hr h1)), hc⟩, fun j hj => Row.kept (ho j hj) g (.inr (box_row hb (ho j hj) h2)), ht⟩
section
variable {P : Program} {k : Value → World → Prop} {w : World}
/-- Rules appended to rules. -/
theorem do_append_rules {t u e1 e2 by' : Nat} {z : Value} (ht : P.underlying t = some (.slice e1)) (H : Inf P e1 z 2 by') (hzs : z.cells.size = 2) (he : e1 ≠ e2) {cs : List Bool} {B c d n m : Nat} {X Y : Option Addr} {rs qs : List RuleL} {ps qp : Nat → Option Addr × Nat} {news : List Value}
    (hn : n = rs.length) (hmq : m = qs.length) (hO : OwnR e1 e2 w B X c rs ps) (hS : Src w Y news) (hN : RCells news qs qp) (hown : ∀ j, j < qs.length → Own e2 w B (qp j).1 (qp j).2 (rul qs j).2)
    (htwo : ∀ i j, i < qs.length → j < qs.length → i ≠ j → blk (qp i).1 = none ∨ blk (qp i).1 ≠ blk (qp j).1) (hsep : ∀ i j, i < rs.length → j < qs.length → blk (ps i).1 = none ∨ blk (ps i).1 ≠ blk (qp j).1)
    (hm : (rs.length + qs.length) * by' ≤ 140737488355328) (hmax : rs.length + qs.length ≤ 9223372036854775807) (hB : B ≤ w.heap.size)
    (h : ∀ X' c' w', w.grownBy w' (blk X) → OwnR e1 e2 w' B X' c' (rs ++ qs) (joinP rs.length ps qp) → Moved w X X' → k (.slice X' (n + m) c') w') : Do P (sBuiltin .append #[t, t] u cs [.slice X n c, .slice Y m d]) k w := by
  subst hn hmq
  obtain ⟨cells, hr, hc⟩ := hO.cells
  refine do_append2 ht H hzs (by decide) hr hS hN.1 hN.one hm hmax hB fun X' c' w' hr' g hmv => h X' c' w' g ?_ hmv
  have hX : ∀ {Z : Option Addr} {n c : Nat} {xs : List Value}, Row w B e2 1 Z n c xs → blk Z = none ∨ blk Z ≠ blk X := fun hz => row_ne hz hr (fun e => he e.symm)
  have hsym : ∀ {U V : Option Addr}, (blk U = none ∨ blk U ≠ blk V) → blk V = none ∨ blk V ≠ blk U := fun {U V} h => by
    cases hq : blk V with
    | none => exact .inl rfl
    | some q =>
      refine .inr fun e => ?_
      rcases h with h | h
      · rw [h] at e; cases e
      · exact h (by rw [hq, e])
  refine ⟨⟨_, by rw [List.length_append]; exact hr', (hc.append hN).2⟩, fun j hj => ?_, fun i j hi hj hij => ?_⟩
  · rw [List.length_append] at hj
    by_cases hlt : j < rs.length
    · rw [rul_left hlt]
      simp only [joinP, hlt, if_true]
      exact Row.kept (hO.own j hlt) g (hX (hO.own j hlt))
    · rw [rul_right (by omega)]
      simp only [joinP, hlt, if_false]
      exact Row.kept (hown _ (by omega)) g (hX (hown _ (by omega)))
  · rw [List.length_append] at hi hj
    by_cases h1 : i < rs.length <;> by_cases h2 : j < rs.length <;> simp only [joinP, h1, h2, if_true, if_false]
    · exact hO.two i j h1 h2 hij
    · exact hsep i _ h1 (by omega)
    · exact hsym (hsep j _ h2 (by omega))
    · exact htwo _ _ (by omega) (by omega) (by omega)
end
theorem rng1 : Array.range 1 = #[0] := by decide
theorem rng2 : Array.range 2 = #[0, 1] := by decide
theorem rng3 : Array.range 3 = #[0, 1, 2] := by decide
theorem rng4 : Array.range 4 = #[0, 1, 2, 3] := by decide
end Go.Sh
namespace Go.Proofs.Ytiohaeckagjebaa
open Go Go.Sh
theorem part_one {t : TypeId} {cs : Array Value} {off : Nat} {v : Value} (ht : one Try.prog t) (hc : cs[off]? = some v) (w : World) : (part t cs off).run Try.prog w = .ok v w := by
  simp [part, run_isAgg_one ht, hc]
theorem bd37 {S : WS} {k : Value → Prop} {ps : List (Nat × Value)} {cells : Array Value} (hf : Instr.fill (#[(0, 1), (1, 1), (2, 1)][·]?) #[.int .i64 0, .int .i64 0, .slice none 0 0] ps = some cells) : Rd Try.prog S (sBuild 37 ps) k = k (.agg cells) :=
  rd_build3 Try.underlying37 inf37 sz3 sz3 sz35 hf
theorem bd77 {S : WS} {k : Value → Prop} {ps : List (Nat × Value)} {cells : Array Value} (hf : Instr.fill (#[(0, 1), (1, 1)][·]?) #[.int .i64 0, .slice none 0 0] ps = some cells) : Rd Try.prog S (sBuild 77 ps) k = k (.agg cells) :=
  rd_build2 Try.underlying77 inf77 sz3 sz22 hf
theorem fd37_2 {S : WS} {k : Value → Prop} {a b c : Value} : Rd Try.prog S (sField 37 (.agg #[a, b, c]) 2) k = k c :=
  rd_field Try.underlying37 rfl (part_one one35 rfl)
end Go.Proofs.Ytiohaeckagjebaa

/- Bc: bodies of functions as terms of the frame calculus, printed by shgen.py of this repository. -/
set_option linter.unusedVariables false
set_option maxRecDepth 100000
namespace Go.Proofs.Ytiohaeckagjebaa
open Go Go.Sh

/-! loop.example/g00758/laws.FnExactStarOf -/
def pl5 : Plans := fun i => match i with
  | 10 => ⟨true, [3], .step 0 .held (.step 1 .held (.step 2 .one (.step 3 .last (.step 4 .any (.nil)))))⟩
  | _ => ⟨false, [], .nil⟩
def S5 (v0 : Value) (k : Value → World → Prop) (w : World) : Prop :=
 Do Try.prog (sBox 31 v0) (fun t1 w2 =>
 Rd Try.prog (WS.at w2) (sLoad 31 t1) fun t3 =>
 CallK Try.prog 29 [t3, (.int .i64 1048576)] (fun t4 w5 =>
 Rd Try.prog (WS.at w5) (sBin .lss 3 true t4 (.int .i64 0)) fun t6 =>
 CondK t6
  (k (.bool true) w5)
  (Rd Try.prog (WS.at w5) (sLoad 31 t1) fun t7 =>
  CallK Try.prog 31 [t7] (fun t8 w9 =>
  CallK Try.prog 34 [t8] (fun t10 w11 =>
  Rd Try.prog (WS.at w11) (sExtract t10 0) fun t12 =>
  Rd Try.prog (WS.at w11) (sExtract t10 1) fun t13 =>
  Do Try.prog (sAlloc 37) (fun t14 w15 =>
  Do Try.prog (sStore 37 t14 t12) (fun _ w16 =>
  Rd Try.prog (WS.at w16) (sLoad 31 t1) fun t17 =>
  CallK Try.prog 31 [t17] (fun t18 w19 =>
  Do Try.prog (sAlloc 37) (fun t20 w21 =>
  Do Try.prog (sStore 37 t20 t18) (fun _ w22 =>
  Rd Try.prog (WS.at w22) (sLoad 37 t20) fun t23 =>
  CallK Try.prog 35 [t23] (fun t24 w25 =>
  Rd Try.prog (WS.at w25) (sExtract t24 0) fun t26 =>
  Rd Try.prog (WS.at w25) (sExtract t24 1) fun t27 =>
  Do Try.prog (sAlloc 37) (fun t28 w29 =>
  Do Try.prog (sStore 37 t28 t26) (fun _ w30 =>
  Rd Try.prog (WS.at w30) (sLoad 37 t28) fun t31 =>
  Rd Try.prog (WS.at w30) (sLoad 37 t14) fun t32 =>
  CallK Try.prog 33 [t31, t32] (fun t33 w34 =>
  Rd Try.prog (WS.at w34) (sUn .not t33) fun t35 =>
  GuardK t35 false (fun k w' => k t27 w') (fun t36 w37 =>
  GuardK t35 false (fun k w' => k t13 w') (fun t38 w39 =>
  GuardK t35 false (fun k w' => Rd Try.prog (WS.at w39) (sBin .neq 4 false t36 t38) fun v => k v w') (fun t40 w41 =>
  Rd Try.prog (WS.at w41) (sPick t35 (.bool true) t40) fun t42 =>
  CondK t42
   (k (.bool false) w41)
   (∃ S43 : World → Prop, ∃ h44 : S43 w41.drew,
   Rd Try.prog ⟨S43, w41.drew, h44⟩ (sLoad 37 t20) fun t45 =>
   Rd Try.prog ⟨S43, w41.drew, h44⟩ (sLoad 31 t1) fun t46 =>
   CallK Try.prog 31 [t46] (fun t47 w48 =>
   S43 w48 ∧ CallK Try.prog 33 [t45, t47] (fun t49 w50 =>
   Rd Try.prog WS.any (sUn .not t49) fun t51 =>
   CondK t51
    (k (.bool false) w50)
    (Rd Try.prog (WS.at w50) (sLoad 37 t20) fun t52 =>
    CallK Try.prog 36 [t52, (.int .i64 1)] (fun t53 w54 =>
    Rd Try.prog (WS.at w54) (sBin .lss 3 true t53 (.int .i64 0)) fun t55 =>
    GuardK t55 false (fun k w' => Rd Try.prog (WS.at w54) (sLoad 37 t28) fun v => k v w') (fun t56 w57 =>
    GuardK t55 false (fun k w' => Rd Try.prog (WS.at w57) (sLoad 37 t14) fun v => k v w') (fun t58 w59 =>
    GuardK t55 false (fun k w' => CallK Try.prog 33 [t56, t58] k w') (fun t60 w61 =>
    GuardK t55 false (fun k w' => Rd Try.prog (WS.at w61) (sUn .not t60) fun v => k v w') (fun t62 w63 =>
    Rd Try.prog (WS.at w63) (sPick t55 (.bool true) t62) fun t64 =>
    GuardK t64 false (fun k w' => k t27 w') (fun t65 w66 =>
    GuardK t64 false (fun k w' => k t13 w') (fun t67 w68 =>
    GuardK t64 false (fun k w' => Rd Try.prog (WS.at w68) (sBin .neq 4 false t65 t67) fun v => k v w') (fun t69 w70 =>
    Rd Try.prog (WS.at w70) (sPick t64 (.bool true) t69) fun t71 =>
    CondK t71
     (k (.bool false) w70)
     (Rd Try.prog (WS.at w70) (sLoad 37 t28) fun t72 =>
     CallK Try.prog 36 [t72, (.int .i64 1)] (fun t73 w74 =>
     Rd Try.prog (WS.at w74) (sLoad 37 t28) fun t75 =>
     CallK Try.prog 37 [t75, (.int .i64 1)] (fun t76 w77 =>
     Rd Try.prog (WS.at w77) (sBin .lss 3 true t76 (.int .i64 0)) fun t78 =>
     CondK t78
      (k (.bool false) w77)
      (Rd Try.prog (WS.at w77) (sBin .neq 3 false t76 t73) fun t79 =>
      CondK t79
       (k (.bool false) w77)
       (Rd Try.prog (WS.at w77) (sLoad 31 t1) fun t80 =>
       CallK Try.prog 31 [t80] (fun t81 w82 =>
       CallK Try.prog 35 [t81] (fun t83 w84 =>
       Rd Try.prog (WS.at w84) (sExtract t83 0) fun t85 =>
       Rd Try.prog (WS.at w84) (sExtract t83 1) fun t86 =>
       Do Try.prog (sAlloc 37) (fun t87 w88 =>
       Do Try.prog (sStore 37 t87 t85) (fun _ w89 =>
       Rd Try.prog (WS.at w89) (sLoad 37 t87) fun t90 =>
       Rd Try.prog (WS.at w89) (sLoad 37 t14) fun t91 =>
       CallK Try.prog 33 [t90, t91] (fun t92 w93 =>
       Rd Try.prog (WS.at w93) (sUn .not t92) fun t94 =>
       GuardK t94 false (fun k w' => k t86 w') (fun t95 w96 =>
       GuardK t94 false (fun k w' => k t13 w') (fun t97 w98 =>
       GuardK t94 false (fun k w' => Rd Try.prog (WS.at w98) (sBin .neq 4 false t95 t97) fun v => k v w') (fun t99 w100 =>
       Rd Try.prog (WS.at w100) (sPick t94 (.bool true) t99) fun t101 =>
       CondK t101
        (k (.bool false) w100)
        (Rd Try.prog (WS.at w100) (sLoad 37 t28) fun t102 =>
        CallK Try.prog 37 [t102, (.int .i64 1)] (fun t103 w104 =>
        Rd Try.prog (WS.at w104) (sBin .lss 3 true t103 (.int .i64 0)) fun t105 =>
        CondK t105
         (k (.bool false) w104)
         (Rd Try.prog (WS.at w104) (sBin .neq 3 false t103 t73) fun t106 =>
         CondK t106
          (k (.bool false) w104)
          (k (.bool true) w104))) w100)) w98) w96) w93) w89) w88) w84) w82) w77))) w74) w70)) w68) w66) w63) w61) w59) w57) w54) w50)) w48) w41.drew)) w39) w37) w34) w30) w29) w25) w22) w21) w19) w16) w15) w11) w9) w5)) w2) w
theorem body5 : Try.f5.body = some (bodyOf Try.f5) := by kernel_rfl
theorem same5 (v0 : Value) (k : Value → World → Prop) (w : World) : wpF Try.prog pl5 (bodyOf Try.f5) (bodyQ Try.prog Try.f5.results.toList k) (initF [v0]) w = S5 v0 k w := by kernel_rfl
theorem enter5 {v0 : Value} {k : Value → World → Prop} {w : World} (h : S5 v0 k w) : CallK Try.prog 5 [v0] k w :=
  call_of_wpF (pl := pl5) mixed Try.func5 body5 (by kernel_rfl) (of_decide_eq_true (by kernel_rfl)) (by kernel_rfl) (by kernel_rfl) (same5 v0 k w ▸ h)

/-! loop.example/g00758/spec.StarOf -/
def pl34 : Plans := fun _ => ⟨false, [], .nil⟩
def S34 (v0 : Value) (k : Value → World → Prop) (w : World) : Prop :=
 Do Try.prog (sBox 37 v0) (fun t1 w2 =>
 Do Try.prog (sAlloc 37) (fun t3 w4 =>
 Rd Try.prog (WS.at w4) (sLoad 37 t1) fun t5 =>
 CallK Try.prog 81 [t5] (fun t6 w7 =>
 Rd Try.prog (WS.at w7) (sUn .not t6) fun t8 =>
 CondK t8
  (Rd Try.prog (WS.at w7) (sBuild 37 []) fun t9 =>
  Do Try.prog (sStore 37 t3 t9) (fun _ w10 =>
  Rd Try.prog (WS.at w10) (sLoadVar 37 t3) fun t11 => k (.tuple #[t11, (.bool false)]) w10) w7)
  (Rd Try.prog (WS.at w7) (sFieldAddr 37 t1 0) fun t12 =>
  Rd Try.prog (WS.at w7) (sLoad 3 t12) fun t13 =>
  Rd Try.prog (WS.at w7) (sBin .add 3 true (.int .i64 1) t13) fun t14 =>
  Rd Try.prog (WS.at w7) (sFieldAddr 37 t1 1) fun t15 =>
  Rd Try.prog (WS.at w7) (sLoad 3 t15) fun t16 =>
  Rd Try.prog (WS.at w7) (sBuild 77 []) fun t17 =>
  Do Try.prog (sBuildSlice 22 2 [(0, (.int .i64 1)), (1, (.int .i64 0))]) (fun t18 w19 =>
  Rd Try.prog (WS.at w19) (sBuild 77 [(1, t18)]) fun t20 =>
  Do Try.prog (sBuildSlice 35 2 [(0, t17), (1, t20)]) (fun t21 w22 =>
  Rd Try.prog (WS.at w22) (sLoad 37 t1) fun t23 =>
  Do Try.prog (sBuildSlice 154 1 [(0, t23)]) (fun t24 w25 =>
  CallK Try.prog 86 [t14, t16, t21, t24] (fun t26 w27 =>
  Rd Try.prog (WS.at w27) (sExtract t26 0) fun t28 =>
  Rd Try.prog (WS.at w27) (sExtract t26 1) fun t29 =>
  Do Try.prog (sStore 37 t3 t28) (fun _ w30 =>
  Rd Try.prog (WS.at w30) (sLoadVar 37 t3) fun t31 => k (.tuple #[t31, t29]) w30) w27) w25) w22) w19) w7)) w4) w2) w
theorem body34 : Try.f34.body = some (bodyOf Try.f34) := by kernel_rfl
theorem same34 (v0 : Value) (k : Value → World → Prop) (w : World) : wpF Try.prog pl34 (bodyOf Try.f34) (bodyQ Try.prog Try.f34.results.toList k) (initF [v0]) w = S34 v0 k w := by kernel_rfl
theorem enter34 {v0 : Value} {k : Value → World → Prop} {w : World} (h : S34 v0 k w) : CallK Try.prog 34 [v0] k w :=
  call_of_wpF (pl := pl34) mixed Try.func34 body34 (by kernel_rfl) (of_decide_eq_true (by kernel_rfl)) (by kernel_rfl) (by kernel_rfl) (same34 v0 k w ▸ h)

/-! loop.example/g00758/impl.StarOf -/
def pl35 : Plans := fun _ => ⟨false, [], .nil⟩
def S35 (v0 : Value) (k : Value → World → Prop) (w : World) : Prop :=
 Do Try.prog (sBox 37 v0) (fun t1 w2 =>
 Do Try.prog (sAlloc 37) (fun t3 w4 =>
 Rd Try.prog (WS.at w4) (sLoad 37 t1) fun t5 =>
 CallK Try.prog 84 [t5] (fun t6 w7 =>
 Rd Try.prog (WS.at w7) (sUn .not t6) fun t8 =>
 CondK t8
  (Rd Try.prog (WS.at w7) (sBuild 37 []) fun t9 =>
  Do Try.prog (sStore 37 t3 t9) (fun _ w10 =>
  Rd Try.prog (WS.at w10) (sLoadVar 37 t3) fun t11 => k (.tuple #[t11, (.bool false)]) w10) w7)
  (Do Try.prog (sBuildSlice 22 0 []) (fun t12 w13 =>
  Do Try.prog (sBuildSlice 22 2 [(0, (.int .i64 1)), (1, (.int .i64 0))]) (fun t14 w15 =>
  Do Try.prog (sBuildSlice 48 2 [(0, t12), (1, t14)]) (fun t16 w17 =>
  Rd Try.prog (WS.at w17) (sLoad 37 t1) fun t18 =>
  Do Try.prog (sBuildSlice 154 1 [(0, t18)]) (fun t19 w20 =>
  CallK Try.prog 87 [t16, t19] (fun t21 w22 =>
  Rd Try.prog (WS.at w22) (sExtract t21 0) fun t23 =>
  Rd Try.prog (WS.at w22) (sExtract t21 1) fun t24 =>
  Do Try.prog (sStore 37 t3 t23) (fun _ w25 =>
  Rd Try.prog (WS.at w25) (sLoadVar 37 t3) fun t26 => k (.tuple #[t26, t24]) w25) w22) w20) w17) w15) w13) w7)) w4) w2) w
theorem body35 : Try.f35.body = some (bodyOf Try.f35) := by kernel_rfl
theorem same35 (v0 : Value) (k : Value → World → Prop) (w : World) : wpF Try.prog pl35 (bodyOf Try.f35) (bodyQ Try.prog Try.f35.results.toList k) (initF [v0]) w = S35 v0 k w := by kernel_rfl
theorem enter35 {v0 : Value} {k : Value → World → Prop} {w : World} (h : S35 v0 k w) : CallK Try.prog 35 [v0] k w :=
  call_of_wpF (pl := pl35) mixed Try.func35 body35 (by kernel_rfl) (of_decide_eq_true (by kernel_rfl)) (by kernel_rfl) (by kernel_rfl) (same35 v0 k w ▸ h)

/-! loop.example/g00758/laws.markGrammar -/
def pl36 : Plans := fun _ => ⟨false, [], .nil⟩
def S36 (v0 v1 : Value) (k : Value → World → Prop) (w : World) : Prop :=
 Do Try.prog (sBox 37 v0) (fun t1 w2 =>
 Rd Try.prog (WS.at w2) (sFieldAddr 37 t1 2) fun t3 =>
 Rd Try.prog (WS.at w2) (sLoad 35 t3) fun t4 =>
 CallK Try.prog 88 [t4, v1] (fun t5 w6 =>
 k t5 w6) w2) w
theorem body36 : Try.f36.body = some (bodyOf Try.f36) := by kernel_rfl
theorem same36 (v0 v1 : Value) (k : Value → World → Prop) (w : World) : wpF Try.prog pl36 (bodyOf Try.f36) (bodyQ Try.prog Try.f36.results.toList k) (initF [v0, v1]) w = S36 v0 v1 k w := by kernel_rfl
theorem enter36 {v0 v1 : Value} {k : Value → World → Prop} {w : World} (h : S36 v0 v1 k w) : CallK Try.prog 36 [v0, v1] k w :=
  call_of_wpF (pl := pl36) mixed Try.func36 body36 (by kernel_rfl) (of_decide_eq_true (by kernel_rfl)) (by kernel_rfl) (by kernel_rfl) (same36 v0 v1 k w ▸ h)

/-! loop.example/g00758/laws.heldGrammar -/
def pl37 : Plans := fun _ => ⟨false, [], .nil⟩
def S37 (v0 v1 : Value) (k : Value → World → Prop) (w : World) : Prop :=
 Do Try.prog (sBox 37 v0) (fun t1 w2 =>
 Rd Try.prog (WS.at w2) (sFieldAddr 37 t1 2) fun t3 =>
 Rd Try.prog (WS.at w2) (sLoad 35 t3) fun t4 =>
 CallK Try.prog 89 [t4, v1] (fun t5 w6 =>
 Rd Try.prog (WS.at w6) (sBin .lss 3 true t5 (.int .i64 0)) fun t7 =>
 CondK t7
  (k (.int .i64 (-1)) w6)
  (k t5 w6)) w2) w
theorem body37 : Try.f37.body = some (bodyOf Try.f37) := by kernel_rfl
theorem same37 (v0 v1 : Value) (k : Value → World → Prop) (w : World) : wpF Try.prog pl37 (bodyOf Try.f37) (bodyQ Try.prog Try.f37.results.toList k) (initF [v0, v1]) w = S37 v0 v1 k w := by kernel_rfl
theorem enter37 {v0 v1 : Value} {k : Value → World → Prop} {w : World} (h : S37 v0 v1 k w) : CallK Try.prog 37 [v0, v1] k w :=
  call_of_wpF (pl := pl37) mixed Try.func37 body37 (by kernel_rfl) (of_decide_eq_true (by kernel_rfl)) (by kernel_rfl) (by kernel_rfl) (same37 v0 v1 k w ▸ h)

/-! loop.example/g00758/spec.l20Made -/
def pl86 : Plans := fun i => match i with
  | 6 => ⟨true, [5, 7], .step 0 .any (.step 1 .held (.step 2 .held (.step 3 .any (.step 4 .one (.step 5 .last (.step 6 .any (.step 7 .last (.nil))))))))⟩
  | _ => ⟨false, [], .nil⟩
def S86 (v0 v1 v2 v3 : Value) (k : Value → World → Prop) (w : World) : Prop :=
 Do Try.prog (sAlloc 37) (fun t1 w2 =>
 Rd Try.prog (WS.at w2) (sBuild 37 [(0, v0), (1, v1), (2, v2)]) fun t3 =>
 Do Try.prog (sAlloc 37) (fun t4 w5 =>
 Do Try.prog (sStore 37 t4 t3) (fun _ w6 =>
 Rd Try.prog (WS.at w6) (sBuiltin .len #[154] 3 [false] [v3]) fun t7 =>
 LoopF [21, 22, 23, 13, 24, 25, 26, 27, 28, 29, 30, 31, 32, 33, 34, 11, 35, 20] (fun Q8 f9 w10 =>
  Rd Try.prog (WS.at w10) (sBin .lss 3 false (f9 20) (f9 19)) fun t11 =>
  CondK t11
   (Rd Try.prog (WS.at w10) (sIndexAddr 154 (f9 18) (f9 20)) fun t12 =>
   Rd Try.prog (WS.at w10) (sLoad 37 t12) fun t13 =>
   Do Try.prog (sAlloc 37) (fun t14 w15 =>
   Do Try.prog (sStore 37 t14 t13) (fun _ w16 =>
   ∃ S17 : World → Prop, ∃ h18 : S17 w16.drew,
   Rd Try.prog WS.any (sFieldAddr 37 (f9 10) 2) fun t19 =>
   Rd Try.prog ⟨S17, w16.drew, h18⟩ (sLoad 35 t19) fun t20 =>
   Rd Try.prog ⟨S17, w16.drew, h18⟩ (sLoad 37 t14) fun t21 =>
   CallK Try.prog 140 [t21, (f9 11)] (fun t22 w23 =>
   S17 w23 ∧ Do Try.prog (sBuiltin .append #[35, 35] 35 [false, false] [t20, t22]) (fun t24 w25 =>
   Rd Try.prog WS.any (sFieldAddr 37 (f9 10) 2) fun t26 =>
   Do Try.prog (sStore 35 t26 t24) (fun _ w27 =>
   Rd Try.prog (WS.at w27) (sFieldAddr 37 t14 0) fun t28 =>
   Rd Try.prog (WS.at w27) (sLoad 3 t28) fun t29 =>
   Rd Try.prog (WS.at w27) (sBin .add 3 false (f9 11) t29) fun t30 =>
   Rd Try.prog (WS.at w27) (sBin .add 3 true (f9 20) (.int .i64 1)) fun t31 =>
   Q8 .normal (F.upd (F.upd (F.upd (F.upd (F.upd (F.upd (F.upd (F.upd (F.upd (F.upd (F.upd (F.upd (F.upd (F.upd (F.upd (F.upd (F.upd (F.upd f9 21 t11) 22 t12) 23 t13) 13 t14) 24 t19) 25 t20) 26 t21) 27 (f9 11)) 28 t22) 29 t24) 30 t26) 31 (f9 11)) 32 t28) 33 t29) 34 t30) 11 t30) 35 t31) 20 t31) w27) w25) w23) w16.drew) w15) w10)
   (Q8 (.exit 0) (F.upd f9 21 t11) w10))
  (blockQ 0 (seqQ (fun f32 w33 =>
 Rd Try.prog (WS.at w33) (sLoad 37 (f32 10)) fun t34 =>
 CallK Try.prog 81 [t34] (fun t35 w36 =>
 Rd Try.prog (WS.at w36) (sUn .not t35) fun t37 =>
 CondK t37
  (Rd Try.prog (WS.at w36) (sBuild 37 []) fun t38 =>
  Do Try.prog (sStore 37 (f32 8) t38) (fun _ w39 =>
  Rd Try.prog (WS.at w39) (sLoadVar 37 (f32 8)) fun t40 => k (.tuple #[t40, (.bool false)]) w39) w36)
  (Rd Try.prog (WS.at w36) (sLoad 37 (f32 10)) fun t41 =>
  Do Try.prog (sStore 37 (f32 8) t41) (fun _ w42 =>
  Rd Try.prog (WS.at w42) (sLoadVar 37 (f32 8)) fun t43 => k (.tuple #[t43, (.bool true)]) w42) w36)) w33) (bodyQ Try.prog [.cell 8 37, .tmp 9] k)))
  (F.upd (F.upd (F.upd (F.upd (F.upd (F.upd (F.upd (F.upd (F.upd (F.upd (F.upd (initF [v0, v1, v2, v3]) 8 t1) 9 (.bool false)) 14 v0) 15 v1) 16 v2) 17 t3) 10 t4) 11 (.int .i64 1)) 18 v3) 19 t7) 20 (.int .i64 0)) w6) w5) w2) w
theorem body86 : Try.f86.body = some (bodyOf Try.f86) := by kernel_rfl
theorem same86 (v0 v1 v2 v3 : Value) (k : Value → World → Prop) (w : World) : wpF Try.prog pl86 (bodyOf Try.f86) (bodyQ Try.prog Try.f86.results.toList k) (initF [v0, v1, v2, v3]) w = S86 v0 v1 v2 v3 k w := by kernel_rfl
theorem enter86 {v0 v1 v2 v3 : Value} {k : Value → World → Prop} {w : World} (h : S86 v0 v1 v2 v3 k w) : CallK Try.prog 86 [v0, v1, v2, v3] k w :=
  call_of_wpF (pl := pl86) mixed Try.func86 body86 (by kernel_rfl) (of_decide_eq_true (by kernel_rfl)) (by kernel_rfl) (by kernel_rfl) (same86 v0 v1 v2 v3 k w ▸ h)

/-! loop.example/g00758/impl.beside -/
def pl87 : Plans := fun i => match i with
  | 5 => ⟨true, [7, 9], .step 0 .any (.step 1 .held (.step 3 .any (.step 2 .one (.step 4 .one (.step 5 .any (.step 6 .one (.step 7 .last (.step 8 .any (.step 9 .last (.nil))))))))))⟩
  | _ => ⟨false, [], .nil⟩
def S87 (v0 v1 : Value) (k : Value → World → Prop) (w : World) : Prop :=
 Do Try.prog (sAlloc 37) (fun t1 w2 =>
 Rd Try.prog (WS.at w2) (sIndexAddr 154 v1 (.int .i64 0)) fun t3 =>
 Rd Try.prog (WS.at w2) (sFieldAddr 37 t3 1) fun t4 =>
 Rd Try.prog (WS.at w2) (sLoad 3 t4) fun t5 =>
 Rd Try.prog (WS.at w2) (sBuild 37 [(0, (.int .i64 1)), (1, t5)]) fun t6 =>
 Do Try.prog (sAlloc 37) (fun t7 w8 =>
 Do Try.prog (sStore 37 t7 t6) (fun _ w9 =>
 Rd Try.prog (WS.at w9) (sBuiltin .len #[48] 3 [false] [v0]) fun t10 =>
 LoopF [23, 24, 25, 8, 26, 27, 28, 29, 30, 31, 32, 33, 34, 35, 22] (fun Q11 f12 w13 =>
  Rd Try.prog (WS.at w13) (sBin .lss 3 false (f12 22) (f12 21)) fun t14 =>
  CondK t14
   (Rd Try.prog (WS.at w13) (sIndexAddr 48 (f12 20) (f12 22)) fun t15 =>
   Rd Try.prog (WS.at w13) (sLoad 22 t15) fun t16 =>
   ∃ S17 : World → Prop, ∃ h18 : S17 w13.drew,
   Rd Try.prog WS.any (sFieldAddr 37 (f12 6) 2) fun t19 =>
   Rd Try.prog ⟨S17, w13.drew, h18⟩ (sLoad 35 t19) fun t20 =>
   Do Try.prog (sBuildSlice 22 0 []) (fun t21 w22 =>
   S17 w22 ∧ Do Try.prog (sBuiltin .append #[22, 22] 22 [false, false] [t21, t16]) (fun t23 w24 =>
   S17 w24 ∧ Rd Try.prog WS.any (sBuild 77 [(1, t23)]) fun t25 =>
   Do Try.prog (sBuildSlice 35 1 [(0, t25)]) (fun t26 w27 =>
   S17 w27 ∧ Do Try.prog (sBuiltin .append #[35, 35] 35 [false, false] [t20, t26]) (fun t28 w29 =>
   Rd Try.prog WS.any (sFieldAddr 37 (f12 6) 2) fun t30 =>
   Do Try.prog (sStore 35 t30 t28) (fun _ w31 =>
   Rd Try.prog (WS.at w31) (sBin .add 3 true (f12 22) (.int .i64 1)) fun t32 =>
   Q11 .normal (F.upd (F.upd (F.upd (F.upd (F.upd (F.upd (F.upd (F.upd (F.upd (F.upd (F.upd (F.upd (F.upd (F.upd (F.upd f12 23 t14) 24 t15) 25 t16) 8 t16) 26 t19) 27 t20) 29 t16) 28 t21) 30 t23) 31 t25) 32 t26) 33 t28) 34 t30) 35 t32) 22 t32) w31) w29) w27) w24) w22) w13.drew)
   (Q11 (.exit 0) (F.upd f12 23 t14) w13))
  (blockQ 0 (seqQ (fun f33 w34 =>
 Rd Try.prog (WS.at w34) (sBuiltin .len #[154] 3 [false] [(f33 1)]) fun t35 =>
 LoopF [39, 40, 41, 10, 42, 43, 44, 45, 46, 47, 48, 49, 12, 50, 51, 52, 53, 54, 55, 56, 57, 58, 59, 60, 61, 62, 63, 13, 14, 64, 65, 66, 67, 68, 69, 70, 71, 72, 73, 74, 59, 75, 76, 77, 78, 79, 80, 81, 46, 82, 83, 84, 85, 86, 87, 88, 38] (fun Q36 f37 w38 =>
  Rd Try.prog (WS.at w38) (sBin .lss 3 false (f37 38) (f37 37)) fun t39 =>
  CondK t39
   (Rd Try.prog (WS.at w38) (sIndexAddr 154 (f37 36) (f37 38)) fun t40 =>
   Rd Try.prog (WS.at w38) (sLoad 37 t40) fun t41 =>
   Do Try.prog (sAlloc 37) (fun t42 w43 =>
   Do Try.prog (sStore 37 t42 t41) (fun _ w44 =>
   Rd Try.prog (WS.at w44) (sLoad 37 t42) fun t45 =>
   CallK Try.prog 141 [t45] (fun t46 w47 =>
   Rd Try.prog (WS.at w47) (sField 37 t46 2) fun t48 =>
   Rd Try.prog (WS.at w47) (sBuiltin .len #[35] 3 [false] [t48]) fun t49 =>
   LoopF [47, 48, 49, 12, 50, 51, 52, 53, 54, 55, 56, 57, 58, 59, 60, 61, 62, 63, 13, 14, 64, 65, 66, 67, 68, 69, 70, 71, 72, 73, 74, 59, 75, 76, 77, 78, 79, 80, 81, 46] (fun Q50 f51 w52 =>
    Rd Try.prog (WS.at w52) (sBin .lss 3 false (f51 46) (f51 45)) fun t53 =>
    CondK t53
     (Rd Try.prog (WS.at w52) (sIndexAddr 35 (f51 44) (f51 46)) fun t54 =>
     Rd Try.prog (WS.at w52) (sLoad 77 t54) fun t55 =>
     Do Try.prog (sAlloc 77) (fun t56 w57 =>
     Do Try.prog (sStore 77 t56 t55) (fun _ w58 =>
     Rd Try.prog (WS.at w58) (sFieldAddr 77 t56 0) fun t59 =>
     Rd Try.prog (WS.at w58) (sLoad 3 t59) fun t60 =>
     Rd Try.prog (WS.at w58) (sFieldAddr 37 (f51 6) 0) fun t61 =>
     Rd Try.prog (WS.at w58) (sLoad 3 t61) fun t62 =>
     Rd Try.prog (WS.at w58) (sBin .add 3 false t60 t62) fun t63 =>
     Rd Try.prog (WS.at w58) (sFieldAddr 77 t56 0) fun t64 =>
     Do Try.prog (sStore 3 t64 t63) (fun _ w65 =>
     Rd Try.prog (WS.at w65) (sFieldAddr 77 t56 1) fun t66 =>
     Rd Try.prog (WS.at w65) (sLoad 22 t66) fun t67 =>
     Rd Try.prog (WS.at w65) (sBuiltin .len #[22] 3 [false] [t67]) fun t68 =>
     LoopF [60, 61, 62, 63, 13, 14, 64, 65, 66, 67, 68, 69, 70, 71, 72, 73, 74, 59] (fun Q69 f70 w71 =>
      Rd Try.prog (WS.at w71) (sBin .lss 3 false (f70 59) (f70 58)) fun t72 =>
      CondK t72
       (Join (fun K73 =>
       Rd Try.prog (WS.at w71) (sIndexAddr 22 (f70 57) (f70 59)) fun t76 =>
       Rd Try.prog (WS.at w71) (sLoad 3 t76) fun t77 =>
       Rd Try.prog (WS.at w71) (sBin .geq 3 true t77 (.int .i64 0)) fun t78 =>
       CondK t78
        (Rd Try.prog (WS.at w71) (sFieldAddr 77 (f70 12) 1) fun t79 =>
        Rd Try.prog (WS.at w71) (sLoad 22 t79) fun t80 =>
        Rd Try.prog (WS.at w71) (sFieldAddr 37 (f70 6) 0) fun t81 =>
        Rd Try.prog (WS.at w71) (sLoad 3 t81) fun t82 =>
        Rd Try.prog (WS.at w71) (sBin .add 3 false t77 t82) fun t83 =>
        Rd Try.prog (WS.at w71) (sIndexAddr 22 t80 (f70 59)) fun t84 =>
        Do Try.prog (sStore 3 t84 t83) (fun _ w85 =>
        K73 (F.upd (F.upd (F.upd (F.upd (F.upd (F.upd (F.upd (F.upd (F.upd (F.upd (F.upd (F.upd (F.upd (F.upd (F.upd (F.upd f70 60 t72) 61 (f70 59)) 62 t76) 63 t77) 13 (f70 59)) 14 t77) 64 t77) 65 t78) 66 t79) 67 t80) 68 (f70 59)) 69 t77) 70 t81) 71 t82) 72 t83) 73 t84) w85) w71)
        (K73 (F.upd (F.upd (F.upd (F.upd (F.upd (F.upd (F.upd (F.upd f70 60 t72) 61 (f70 59)) 62 t76) 63 t77) 13 (f70 59)) 14 t77) 64 t77) 65 t78) w71)) (fun f74 w75 =>
       Rd Try.prog (WS.at w75) (sBin .add 3 true (f74 59) (.int .i64 1)) fun t86 =>
       Q69 .normal (F.upd (F.upd f74 74 t86) 59 t86) w75))
       (Q69 (.exit 6) (F.upd f70 60 t72) w71))
      (blockQ 6 (seqQ (fun f87 w88 =>
     Rd Try.prog (WS.at w88) (sFieldAddr 37 (f87 6) 2) fun t89 =>
     Rd Try.prog (WS.at w88) (sLoad 35 t89) fun t90 =>
     Rd Try.prog (WS.at w88) (sLoad 77 (f87 12)) fun t91 =>
     Do Try.prog (sBuildSlice 35 1 [(0, t91)]) (fun t92 w93 =>
     Do Try.prog (sBuiltin .append #[35, 35] 35 [false, false] [t90, t92]) (fun t94 w95 =>
     Rd Try.prog (WS.at w95) (sFieldAddr 37 (f87 6) 2) fun t96 =>
     Do Try.prog (sStore 35 t96 t94) (fun _ w97 =>
     Rd Try.prog (WS.at w97) (sBin .add 3 true (f87 46) (.int .i64 1)) fun t98 =>
     Q50 .normal (F.upd (F.upd (F.upd (F.upd (F.upd (F.upd (F.upd (F.upd f87 75 t89) 76 t90) 77 t91) 78 t92) 79 t94) 80 t96) 81 t98) 46 t98) w97) w95) w93) w88) (blockQ 5 (seqQ (fun f99 w100 =>
     Rd Try.prog (WS.at w100) (sBin .add 3 true (f99 46) (.int .i64 1)) fun t101 =>
     Q50 .normal (F.upd (F.upd f99 81 t101) 46 t101) w100) Q50))))
      (F.upd (F.upd (F.upd (F.upd (F.upd (F.upd (F.upd (F.upd (F.upd (F.upd (F.upd (F.upd (F.upd (F.upd f51 47 t53) 48 t54) 49 t55) 12 t56) 50 t59) 51 t60) 52 t61) 53 t62) 54 t63) 55 t64) 56 t66) 57 t67) 58 t68) 59 (.int .i64 0)) w65) w58) w57) w52)
     (Q50 (.exit 4) (F.upd f51 47 t53) w52))
    (blockQ 4 (seqQ (fun f102 w103 =>
   Rd Try.prog (WS.at w103) (sFieldAddr 37 (f102 6) 0) fun t104 =>
   Rd Try.prog (WS.at w103) (sLoad 3 t104) fun t105 =>
   Rd Try.prog (WS.at w103) (sFieldAddr 37 (f102 10) 0) fun t106 =>
   Rd Try.prog (WS.at w103) (sLoad 3 t106) fun t107 =>
   Rd Try.prog (WS.at w103) (sBin .add 3 false t105 t107) fun t108 =>
   Rd Try.prog (WS.at w103) (sFieldAddr 37 (f102 6) 0) fun t109 =>
   Do Try.prog (sStore 3 t109 t108) (fun _ w110 =>
   Rd Try.prog (WS.at w110) (sBin .add 3 true (f102 38) (.int .i64 1)) fun t111 =>
   Q36 .normal (F.upd (F.upd (F.upd (F.upd (F.upd (F.upd (F.upd (F.upd f102 82 t104) 83 t105) 84 t106) 85 t107) 86 t108) 87 t109) 88 t111) 38 t111) w110) w103) (blockQ 3 (seqQ (fun f112 w113 =>
   Rd Try.prog (WS.at w113) (sBin .add 3 true (f112 38) (.int .i64 1)) fun t114 =>
   Q36 .normal (F.upd (F.upd f112 88 t114) 38 t114) w113) Q36))))
    (F.upd (F.upd (F.upd (F.upd (F.upd (F.upd (F.upd (F.upd (F.upd f37 39 t39) 40 t40) 41 t41) 10 t42) 42 t45) 43 t46) 44 t48) 45 t49) 46 (.int .i64 0)) w47) w44) w43) w38)
   (Q36 (.exit 2) (F.upd f37 39 t39) w38))
  (blockQ 2 (seqQ (fun f115 w116 =>
 Rd Try.prog (WS.at w116) (sLoad 37 (f115 6)) fun t117 =>
 CallK Try.prog 84 [t117] (fun t118 w119 =>
 Rd Try.prog (WS.at w119) (sUn .not t118) fun t120 =>
 CondK t120
  (Rd Try.prog (WS.at w119) (sBuild 37 []) fun t121 =>
  Do Try.prog (sStore 37 (f115 4) t121) (fun _ w122 =>
  Rd Try.prog (WS.at w122) (sLoadVar 37 (f115 4)) fun t123 => k (.tuple #[t123, (.bool false)]) w122) w119)
  (Rd Try.prog (WS.at w119) (sLoad 37 (f115 6)) fun t124 =>
  Do Try.prog (sStore 37 (f115 4) t124) (fun _ w125 =>
  Rd Try.prog (WS.at w125) (sLoadVar 37 (f115 4)) fun t126 => k (.tuple #[t126, (.bool true)]) w125) w119)) w116) (bodyQ Try.prog [.cell 4 37, .tmp 5] k)))
  (F.upd (F.upd (F.upd f33 36 (f33 1)) 37 t35) 38 (.int .i64 0)) w34) (bodyQ Try.prog [.cell 4 37, .tmp 5] k)))
  (F.upd (F.upd (F.upd (F.upd (F.upd (F.upd (F.upd (F.upd (F.upd (F.upd (F.upd (initF [v0, v1]) 4 t1) 5 (.bool false)) 15 v1) 16 t3) 17 t4) 18 t5) 19 t6) 6 t7) 20 v0) 21 t10) 22 (.int .i64 0)) w9) w8) w2) w
theorem body87 : Try.f87.body = some (bodyOf Try.f87) := by kernel_rfl
theorem same87 (v0 v1 : Value) (k : Value → World → Prop) (w : World) : wpF Try.prog pl87 (bodyOf Try.f87) (bodyQ Try.prog Try.f87.results.toList k) (initF [v0, v1]) w = S87 v0 v1 k w := by kernel_rfl
theorem enter87 {v0 v1 : Value} {k : Value → World → Prop} {w : World} (h : S87 v0 v1 k w) : CallK Try.prog 87 [v0, v1] k w :=
  call_of_wpF (pl := pl87) mixed Try.func87 body87 (by kernel_rfl) (of_decide_eq_true (by kernel_rfl)) (by kernel_rfl) (by kernel_rfl) (same87 v0 v1 k w ▸ h)

/-! loop.example/g00758/laws.markRuleS -/
def pl88 : Plans := fun _ => ⟨false, [], .nil⟩
def S88 (v0 v1 : Value) (k : Value → World → Prop) (w : World) : Prop :=
 LoopF [6, 7, 8, 9, 12, 13, 14, 15, 16, 17, 18, 1, 19, 20, 21, 22, 23, 24, 25, 1, 10, 11, 5] (fun Q1 f2 w3 =>
  Rd Try.prog (WS.at w3) (sBuiltin .len #[35] 3 [false] [(f2 0)]) fun t4 =>
  Rd Try.prog (WS.at w3) (sBin .lss 3 false (f2 5) t4) fun t5 =>
  CondK t5
   (Rd Try.prog (WS.at w3) (sIndexAddr 35 (f2 0) (f2 5)) fun t6 =>
   Rd Try.prog (WS.at w3) (sFieldAddr 77 t6 0) fun t7 =>
   Do Try.prog (sStore 3 t7 (f2 1)) (fun _ w8 =>
   Rd Try.prog (WS.at w8) (sBin .add 3 true (f2 1) (.int .i64 1)) fun t9 =>
   Rd Try.prog (WS.at w8) (sIndexAddr 35 (f2 0) (f2 5)) fun t10 =>
   Rd Try.prog (WS.at w8) (sFieldAddr 77 t10 1) fun t11 =>
   Rd Try.prog (WS.at w8) (sLoad 22 t11) fun t12 =>
   CallK Try.prog 27 [t12, t9] (fun t13 w14 =>
   Rd Try.prog (WS.at w14) (sBin .add 3 true (f2 5) (.int .i64 1)) fun t15 =>
   Q1 .normal (F.upd (F.upd (F.upd (F.upd (F.upd (F.upd (F.upd (F.upd (F.upd (F.upd (F.upd (F.upd (F.upd (F.upd (F.upd (F.upd (F.upd (F.upd (F.upd (F.upd (F.upd (F.upd (F.upd f2 6 (f2 5)) 7 (f2 0)) 8 t4) 9 t5) 12 (f2 0)) 13 (f2 5)) 14 (f2 1)) 15 t6) 16 t7) 17 (f2 1)) 18 t9) 1 t9) 19 (f2 0)) 20 (f2 5)) 21 t10) 22 t11) 23 t12) 24 t9) 25 t13) 1 t13) 10 (f2 5)) 11 t15) 5 t15) w14) w8) w3)
   (Q1 (.exit 0) (F.upd (F.upd (F.upd (F.upd f2 6 (f2 5)) 7 (f2 0)) 8 t4) 9 t5) w3))
  (blockQ 0 (seqQ (fun f16 w17 =>
 k (f16 1) w17) (bodyQ Try.prog [.tmp 4] k)))
  (F.upd (F.upd (initF [v0, v1]) 4 (.int .i64 0)) 5 (.int .i64 0)) w
theorem body88 : Try.f88.body = some (bodyOf Try.f88) := by kernel_rfl
theorem same88 (v0 v1 : Value) (k : Value → World → Prop) (w : World) : wpF Try.prog pl88 (bodyOf Try.f88) (bodyQ Try.prog Try.f88.results.toList k) (initF [v0, v1]) w = S88 v0 v1 k w := by kernel_rfl
theorem enter88 {v0 v1 : Value} {k : Value → World → Prop} {w : World} (h : S88 v0 v1 k w) : CallK Try.prog 88 [v0, v1] k w :=
  call_of_wpF (pl := pl88) mixed Try.func88 body88 (by kernel_rfl) (of_decide_eq_true (by kernel_rfl)) (by kernel_rfl) (by kernel_rfl) (same88 v0 v1 k w ▸ h)

/-! loop.example/g00758/laws.heldRuleS -/
def pl89 : Plans := fun _ => ⟨false, [], .nil⟩
def S89 (v0 v1 : Value) (k : Value → World → Prop) (w : World) : Prop :=
 LoopF [6, 7, 8, 9, 12, 13, 14, 15, 16, 17, 18, 4, 19, 20, 1, 21, 22, 23, 24, 25, 26, 27, 1, 28, 29, 4, 10, 11, 5] (fun Q1 f2 w3 =>
  Rd Try.prog (WS.at w3) (sBuiltin .len #[35] 3 [false] [(f2 0)]) fun t4 =>
  Rd Try.prog (WS.at w3) (sBin .lss 3 false (f2 5) t4) fun t5 =>
  CondK t5
   (Rd Try.prog (WS.at w3) (sIndexAddr 35 (f2 0) (f2 5)) fun t6 =>
   Rd Try.prog (WS.at w3) (sFieldAddr 77 t6 0) fun t7 =>
   Rd Try.prog (WS.at w3) (sLoad 3 t7) fun t8 =>
   Rd Try.prog (WS.at w3) (sBin .neq 3 false t8 (f2 1)) fun t9 =>
   CondK t9
    (Q1 .ret (F.upd (F.upd (F.upd (F.upd (F.upd (F.upd (F.upd (F.upd (F.upd (F.upd (F.upd (F.upd f2 6 (f2 5)) 7 (f2 0)) 8 t4) 9 t5) 12 (f2 0)) 13 (f2 5)) 14 t6) 15 t7) 16 t8) 17 (f2 1)) 18 t9) 4 (.int .i64 (-1))) w3)
    (Rd Try.prog (WS.at w3) (sBin .add 3 true (f2 1) (.int .i64 1)) fun t10 =>
    Rd Try.prog (WS.at w3) (sIndexAddr 35 (f2 0) (f2 5)) fun t11 =>
    Rd Try.prog (WS.at w3) (sFieldAddr 77 t11 1) fun t12 =>
    Rd Try.prog (WS.at w3) (sLoad 22 t12) fun t13 =>
    CallK Try.prog 28 [t13, t10] (fun t14 w15 =>
    Rd Try.prog (WS.at w15) (sBin .lss 3 true t14 (.int .i64 0)) fun t16 =>
    CondK t16
     (Q1 .ret (F.upd (F.upd (F.upd (F.upd (F.upd (F.upd (F.upd (F.upd (F.upd (F.upd (F.upd (F.upd (F.upd (F.upd (F.upd (F.upd (F.upd (F.upd (F.upd (F.upd (F.upd (F.upd (F.upd (F.upd (F.upd f2 6 (f2 5)) 7 (f2 0)) 8 t4) 9 t5) 12 (f2 0)) 13 (f2 5)) 14 t6) 15 t7) 16 t8) 17 (f2 1)) 18 t9) 19 (f2 1)) 20 t10) 1 t10) 21 (f2 0)) 22 (f2 5)) 23 t11) 24 t12) 25 t13) 26 t10) 27 t14) 1 t14) 28 t14) 29 t16) 4 (.int .i64 (-1))) w15)
     (Rd Try.prog (WS.at w15) (sBin .add 3 true (f2 5) (.int .i64 1)) fun t17 =>
     Q1 .normal (F.upd (F.upd (F.upd (F.upd (F.upd (F.upd (F.upd (F.upd (F.upd (F.upd (F.upd (F.upd (F.upd (F.upd (F.upd (F.upd (F.upd (F.upd (F.upd (F.upd (F.upd (F.upd (F.upd (F.upd (F.upd (F.upd (F.upd f2 6 (f2 5)) 7 (f2 0)) 8 t4) 9 t5) 12 (f2 0)) 13 (f2 5)) 14 t6) 15 t7) 16 t8) 17 (f2 1)) 18 t9) 19 (f2 1)) 20 t10) 1 t10) 21 (f2 0)) 22 (f2 5)) 23 t11) 24 t12) 25 t13) 26 t10) 27 t14) 1 t14) 28 t14) 29 t16) 10 (f2 5)) 11 t17) 5 t17) w15)) w3))
   (Q1 (.exit 0) (F.upd (F.upd (F.upd (F.upd f2 6 (f2 5)) 7 (f2 0)) 8 t4) 9 t5) w3))
  (blockQ 0 (seqQ (fun f18 w19 =>
 k (f18 1) w19) (bodyQ Try.prog [.tmp 4] k)))
  (F.upd (F.upd (initF [v0, v1]) 4 (.int .i64 0)) 5 (.int .i64 0)) w
theorem body89 : Try.f89.body = some (bodyOf Try.f89) := by kernel_rfl
theorem same89 (v0 v1 : Value) (k : Value → World → Prop) (w : World) : wpF Try.prog pl89 (bodyOf Try.f89) (bodyQ Try.prog Try.f89.results.toList k) (initF [v0, v1]) w = S89 v0 v1 k w := by kernel_rfl
theorem enter89 {v0 v1 : Value} {k : Value → World → Prop} {w : World} (h : S89 v0 v1 k w) : CallK Try.prog 89 [v0, v1] k w :=
  call_of_wpF (pl := pl89) mixed Try.func89 body89 (by kernel_rfl) (of_decide_eq_true (by kernel_rfl)) (by kernel_rfl) (by kernel_rfl) (same89 v0 v1 k w ▸ h)

/-! loop.example/g00758/spec.l20Shift -/
def pl140 : Plans := fun _ => ⟨false, [], .nil⟩
def S140 (v0 v1 : Value) (k : Value → World → Prop) (w : World) : Prop :=
 Do Try.prog (sBox 37 v0) (fun t1 w2 =>
 Rd Try.prog (WS.at w2) (sFieldAddr 37 t1 2) fun t3 =>
 Rd Try.prog (WS.at w2) (sLoad 35 t3) fun t4 =>
 Rd Try.prog (WS.at w2) (sBuiltin .len #[35] 3 [false] [t4]) fun t5 =>
 LoopF [15, 16, 17, 7, 18, 19, 20, 21, 22, 8, 23, 24, 25, 26, 27, 28, 29, 10, 30, 31, 32, 33, 34, 10, 35, 36, 37, 38, 39, 40, 41, 26, 42, 43, 44, 45, 5, 46, 14] (fun Q6 f7 w8 =>
  Rd Try.prog (WS.at w8) (sBin .lss 3 false (f7 14) (f7 13)) fun t9 =>
  CondK t9
   (Rd Try.prog (WS.at w8) (sIndexAddr 35 (f7 12) (f7 14)) fun t10 =>
   Rd Try.prog (WS.at w8) (sLoad 77 t10) fun t11 =>
   Do Try.prog (sAlloc 77) (fun t12 w13 =>
   Do Try.prog (sStore 77 t12 t11) (fun _ w14 =>
   Rd Try.prog (WS.at w14) (sFieldAddr 77 t12 0) fun t15 =>
   Rd Try.prog (WS.at w14) (sLoad 3 t15) fun t16 =>
   Rd Try.prog (WS.at w14) (sBin .add 3 false t16 (f7 1)) fun t17 =>
   Rd Try.prog (WS.at w14) (sBuild 77 [(0, t17)]) fun t18 =>
   Do Try.prog (sAlloc 77) (fun t19 w20 =>
   Do Try.prog (sStore 77 t19 t18) (fun _ w21 =>
   Rd Try.prog (WS.at w21) (sFieldAddr 77 t12 1) fun t22 =>
   Rd Try.prog (WS.at w21) (sLoad 22 t22) fun t23 =>
   Rd Try.prog (WS.at w21) (sBuiltin .len #[22] 3 [false] [t23]) fun t24 =>
   LoopF [27, 28, 29, 10, 30, 31, 32, 33, 34, 10, 35, 36, 37, 38, 39, 40, 41, 26] (fun Q25 f26 w27 =>
    Rd Try.prog (WS.at w27) (sBin .lss 3 false (f26 26) (f26 25)) fun t28 =>
    CondK t28
     (Join (fun K29 =>
     Rd Try.prog (WS.at w27) (sIndexAddr 22 (f26 24) (f26 26)) fun t32 =>
     Rd Try.prog (WS.at w27) (sLoad 3 t32) fun t33 =>
     Join (fun K34 =>
     Rd Try.prog (WS.at w27) (sBin .geq 3 true t33 (.int .i64 0)) fun t37 =>
     CondK t37
      (Rd Try.prog (WS.at w27) (sBin .add 3 false t33 (f26 1)) fun t38 =>
      K34 (F.upd (F.upd (F.upd (F.upd (F.upd (F.upd (F.upd (F.upd (F.upd (F.upd f26 27 t28) 28 t32) 29 t33) 10 t33) 30 t33) 31 t37) 32 t33) 33 (f26 1)) 34 t38) 10 t38) w27)
      (K34 (F.upd (F.upd (F.upd (F.upd (F.upd (F.upd f26 27 t28) 28 t32) 29 t33) 10 t33) 30 t33) 31 t37) w27)) (fun f35 w36 =>
     Rd Try.prog (WS.at w36) (sFieldAddr 77 (f35 8) 1) fun t39 =>
     Rd Try.prog (WS.at w36) (sLoad 22 t39) fun t40 =>
     Do Try.prog (sBuildSlice 22 1 [(0, (f35 10))]) (fun t41 w42 =>
     Do Try.prog (sBuiltin .append #[22, 22] 22 [false, false] [t40, t41]) (fun t43 w44 =>
     Rd Try.prog (WS.at w44) (sFieldAddr 77 (f35 8) 1) fun t45 =>
     Do Try.prog (sStore 22 t45 t43) (fun _ w46 =>
     K29 (F.upd (F.upd (F.upd (F.upd (F.upd (F.upd f35 35 t39) 36 t40) 37 (f35 10)) 38 t41) 39 t43) 40 t45) w46) w44) w42) w36)) (fun f30 w31 =>
     Rd Try.prog (WS.at w31) (sBin .add 3 true (f30 26) (.int .i64 1)) fun t47 =>
     Q25 .normal (F.upd (F.upd f30 41 t47) 26 t47) w31))
     (Q25 (.exit 2) (F.upd f26 27 t28) w27))
    (blockQ 2 (seqQ (fun f48 w49 =>
   Rd Try.prog (WS.at w49) (sLoad 77 (f48 8)) fun t50 =>
   Do Try.prog (sBuildSlice 35 1 [(0, t50)]) (fun t51 w52 =>
   Do Try.prog (sBuiltin .append #[35, 35] 35 [false, false] [(f48 5), t51]) (fun t53 w54 =>
   Rd Try.prog (WS.at w54) (sBin .add 3 true (f48 14) (.int .i64 1)) fun t55 =>
   Q6 .normal (F.upd (F.upd (F.upd (F.upd (F.upd (F.upd (F.upd f48 42 (f48 5)) 43 t50) 44 t51) 45 t53) 5 t53) 46 t55) 14 t55) w54) w52) w49) (blockQ 1 (seqQ (fun f56 w57 =>
   Rd Try.prog (WS.at w57) (sBin .add 3 true (f56 14) (.int .i64 1)) fun t58 =>
   Q6 .normal (F.upd (F.upd f56 46 t58) 14 t58) w57) Q6))))
    (F.upd (F.upd (F.upd (F.upd (F.upd (F.upd (F.upd (F.upd (F.upd (F.upd (F.upd (F.upd (F.upd (F.upd f7 15 t9) 16 t10) 17 t11) 7 t12) 18 t15) 19 t16) 20 (f7 1)) 21 t17) 22 t18) 8 t19) 23 t22) 24 t23) 25 t24) 26 (.int .i64 0)) w21) w20) w14) w13) w8)
   (Q6 (.exit 0) (F.upd f7 15 t9) w8))
  (blockQ 0 (seqQ (fun f59 w60 =>
 k (f59 5) w60) (bodyQ Try.prog [.tmp 4] k)))
  (F.upd (F.upd (F.upd (F.upd (F.upd (F.upd (F.upd (initF [v0, v1]) 2 t1) 4 (.slice none 0 0)) 5 (.slice none 0 0)) 11 t3) 12 t4) 13 t5) 14 (.int .i64 0)) w2) w
theorem body140 : Try.f140.body = some (bodyOf Try.f140) := by kernel_rfl
theorem same140 (v0 v1 : Value) (k : Value → World → Prop) (w : World) : wpF Try.prog pl140 (bodyOf Try.f140) (bodyQ Try.prog Try.f140.results.toList k) (initF [v0, v1]) w = S140 v0 v1 k w := by kernel_rfl
theorem enter140 {v0 v1 : Value} {k : Value → World → Prop} {w : World} (h : S140 v0 v1 k w) : CallK Try.prog 140 [v0, v1] k w :=
  call_of_wpF (pl := pl140) mixed Try.func140 body140 (by kernel_rfl) (of_decide_eq_true (by kernel_rfl)) (by kernel_rfl) (by kernel_rfl) (same140 v0 v1 k w ▸ h)

/-! loop.example/g00758/impl.copyGrammar -/
def pl141 : Plans := fun i => match i with
  | 5 => ⟨true, [10, 12], .step 0 .any (.step 1 .held (.step 2 .any (.step 3 .held (.step 5 .any (.step 6 .held (.step 4 .one (.step 7 .one (.step 8 .any (.step 9 .one (.step 10 .last (.step 11 .any (.step 12 .last (.nil)))))))))))))⟩
  | _ => ⟨false, [], .nil⟩
def S141 (v0 : Value) (k : Value → World → Prop) (w : World) : Prop :=
 Do Try.prog (sBox 37 v0) (fun t1 w2 =>
 Do Try.prog (sAlloc 37) (fun t3 w4 =>
 Rd Try.prog (WS.at w4) (sFieldAddr 37 t1 0) fun t5 =>
 Rd Try.prog (WS.at w4) (sLoad 3 t5) fun t6 =>
 Rd Try.prog (WS.at w4) (sFieldAddr 37 t1 1) fun t7 =>
 Rd Try.prog (WS.at w4) (sLoad 3 t7) fun t8 =>
 Rd Try.prog (WS.at w4) (sBuild 37 [(0, t6), (1, t8)]) fun t9 =>
 Do Try.prog (sAlloc 37) (fun t10 w11 =>
 Do Try.prog (sStore 37 t10 t9) (fun _ w12 =>
 Rd Try.prog (WS.at w12) (sFieldAddr 37 t1 2) fun t13 =>
 Rd Try.prog (WS.at w12) (sLoad 35 t13) fun t14 =>
 Rd Try.prog (WS.at w12) (sBuiltin .len #[35] 3 [false] [t14]) fun t15 =>
 LoopF [15, 16, 17, 5, 18, 19, 20, 21, 22, 23, 24, 25, 26, 27, 28, 29, 30, 14] (fun Q16 f17 w18 =>
  Rd Try.prog (WS.at w18) (sBin .lss 3 false (f17 14) (f17 13)) fun t19 =>
  CondK t19
   (Rd Try.prog (WS.at w18) (sIndexAddr 35 (f17 12) (f17 14)) fun t20 =>
   Rd Try.prog (WS.at w18) (sLoad 77 t20) fun t21 =>
   Do Try.prog (sAlloc 77) (fun t22 w23 =>
   Do Try.prog (sStore 77 t22 t21) (fun _ w24 =>
   ∃ S25 : World → Prop, ∃ h26 : S25 w24.drew,
   Rd Try.prog WS.any (sFieldAddr 37 (f17 3) 2) fun t27 =>
   Rd Try.prog ⟨S25, w24.drew, h26⟩ (sLoad 35 t27) fun t28 =>
   Rd Try.prog WS.any (sFieldAddr 77 t22 0) fun t29 =>
   Rd Try.prog ⟨S25, w24.drew, h26⟩ (sLoad 3 t29) fun t30 =>
   Rd Try.prog WS.any (sFieldAddr 77 t22 1) fun t31 =>
   Rd Try.prog ⟨S25, w24.drew, h26⟩ (sLoad 22 t31) fun t32 =>
   Do Try.prog (sBuildSlice 22 0 []) (fun t33 w34 =>
   S25 w34 ∧ Do Try.prog (sBuiltin .append #[22, 22] 22 [false, false] [t33, t32]) (fun t35 w36 =>
   S25 w36 ∧ Rd Try.prog WS.any (sBuild 77 [(0, t30), (1, t35)]) fun t37 =>
   Do Try.prog (sBuildSlice 35 1 [(0, t37)]) (fun t38 w39 =>
   S25 w39 ∧ Do Try.prog (sBuiltin .append #[35, 35] 35 [false, false] [t28, t38]) (fun t40 w41 =>
   Rd Try.prog WS.any (sFieldAddr 37 (f17 3) 2) fun t42 =>
   Do Try.prog (sStore 35 t42 t40) (fun _ w43 =>
   Rd Try.prog (WS.at w43) (sBin .add 3 true (f17 14) (.int .i64 1)) fun t44 =>
   Q16 .normal (F.upd (F.upd (F.upd (F.upd (F.upd (F.upd (F.upd (F.upd (F.upd (F.upd (F.upd (F.upd (F.upd (F.upd (F.upd (F.upd (F.upd (F.upd f17 15 t19) 16 t20) 17 t21) 5 t22) 18 t27) 19 t28) 20 t29) 21 t30) 23 t31) 24 t32) 22 t33) 25 t35) 26 t37) 27 t38) 28 t40) 29 t42) 30 t44) 14 t44) w43) w41) w39) w36) w34) w24.drew) w23) w18)
   (Q16 (.exit 0) (F.upd f17 15 t19) w18))
  (blockQ 0 (seqQ (fun f45 w46 =>
 Rd Try.prog (WS.at w46) (sLoad 37 (f45 3)) fun t47 =>
 Do Try.prog (sStore 37 (f45 2) t47) (fun _ w48 =>
 Rd Try.prog (WS.at w48) (sLoadVar 37 (f45 2)) fun t49 => k t49 w48) w46) (bodyQ Try.prog [.cell 2 37] k)))
  (F.upd (F.upd (F.upd (F.upd (F.upd (F.upd (F.upd (F.upd (F.upd (F.upd (F.upd (F.upd (initF [v0]) 1 t1) 2 t3) 6 t5) 7 t6) 8 t7) 9 t8) 10 t9) 3 t10) 11 t13) 12 t14) 13 t15) 14 (.int .i64 0)) w12) w11) w4) w2) w
theorem body141 : Try.f141.body = some (bodyOf Try.f141) := by kernel_rfl
theorem same141 (v0 : Value) (k : Value → World → Prop) (w : World) : wpF Try.prog pl141 (bodyOf Try.f141) (bodyQ Try.prog Try.f141.results.toList k) (initF [v0]) w = S141 v0 k w := by kernel_rfl
theorem enter141 {v0 : Value} {k : Value → World → Prop} {w : World} (h : S141 v0 k w) : CallK Try.prog 141 [v0] k w :=
  call_of_wpF (pl := pl141) mixed Try.func141 body141 (by kernel_rfl) (of_decide_eq_true (by kernel_rfl)) (by kernel_rfl) (by kernel_rfl) (same141 v0 k w ▸ h)

end Go.Proofs.Ytiohaeckagjebaa

/- Contracts: marks in a grammar, and looks at them. -/
set_option linter.unusedVariables false
set_option linter.unusedSimpArgs false
set_option maxRecDepth 100000
namespace Go.Sh
open Go
def markAt (m : Int) (rs : List RuleL) (j : Nat) : RuleL := (m + sizeR (rs.take j), marks (m + sizeR (rs.take j) + 1) (rul rs j).2.length)
def markR (m : Int) (rs : List RuleL) : List RuleL := (List.range rs.length).map (markAt m rs)
theorem markR_length (m : Int) (rs : List RuleL) : (markR m rs).length = rs.length := by simp [markR]
theorem rul_markR {m : Int} {rs : List RuleL} {j : Nat} (h : j < rs.length) : rul (markR m rs) j = markAt m rs j := by
  rw [rul_eq (by rw [markR_length]; exact h)]
  simp [markR]
theorem sizeR_take {rs : List RuleL} {i : Nat} (h : i < rs.length) : sizeR (rs.take (i + 1)) = sizeR (rs.take i) + 1 + (rul rs i).2.length := by
  unfold sizeR
  rw [lens_take h]
  simp
  omega
theorem sizeR_le {rs : List RuleL} {i : Nat} : sizeR (rs.take i) ≤ sizeR rs := by
  unfold sizeR
  have := @lens_le rs i
  simp
  omega
/-- The left side of one rule is written. -/
theorem OwnR.left {e1 e2 : Nat} {w w' : World} {B c i : Nat} {X : Option Addr} {rs : List RuleL} {ps : Nat → Option Addr × Nat} {m : Int} {cells : List Value} (h : OwnR e1 e2 w B X c rs ps) (he : e1 ≠ e2) (hi : i < rs.length) (hc : RCells cells rs ps) (hr0 : Row w B e1 2 X rs.length c cells) (hr : Row w' B e1 2 X rs.length c (cells.set (i * 2) (.int .i64 m))) (g : w.grownBy w' (blk X)) : OwnR e1 e2 w' B X c (rs.set i (m, (rul rs i).2)) ps := by
  have hl := hc.1
  refine ⟨⟨_, by rw [List.length_set]; exact hr, fun j hj => ?_⟩, fun j hj => ?_, fun a b ha hb hab => ?_⟩
  · rw [List.length_set] at hj
    obtain ⟨h1, h2⟩ := hc.2 j hj
    rw [rul_set hi]
    by_cases hij : j = i
    · subst hij
      rw [if_pos rfl]
      exact ⟨by rw [List.getElem?_set_self (by omega)], by rw [List.getElem?_set_ne (by omega)]; exact h2⟩
    · rw [if_neg hij]
      exact ⟨by rw [List.getElem?_set_ne (by omega)]; exact h1, by rw [List.getElem?_set_ne (by omega)]; exact h2⟩
  · rw [List.length_set] at hj
    have := Row.kept (h.own j hj) g (row_ne (h.own j hj) hr0 (fun e => he e.symm))
    rw [rul_set hi]
    by_cases hij : j = i
    · subst hij
      rw [if_pos rfl]
      exact this
    · rw [if_neg hij]
      exact this
  · rw [List.length_set] at ha hb
    exact h.two a b ha hb hab
/-- The right side of one rule is written. -/
theorem OwnR.right {e1 e2 : Nat} {w w' : World} {B c i : Nat} {X : Option Addr} {rs : List RuleL} {ps : Nat → Option Addr × Nat} {ys : List Int} (h : OwnR e1 e2 w B X c rs ps) (he : e1 ≠ e2) (hi : i < rs.length) (hl : ys.length = (rul rs i).2.length) (ho : Own e2 w' B (ps i).1 (ps i).2 ys) (g : w.grownBy w' (blk (ps i).1)) : OwnR e1 e2 w' B X c (rs.set i ((rul rs i).1, ys)) ps := by
  obtain ⟨cells, hr, hc⟩ := h.cells
  refine ⟨⟨cells, by rw [List.length_set]; exact Row.kept hr g (row_ne hr (h.own i hi) he), fun j hj => ?_⟩, fun j hj => ?_, fun a b ha hb hab => ?_⟩
  · rw [List.length_set] at hj
    obtain ⟨h1, h2⟩ := hc.2 j hj
    rw [rul_set hi]
    by_cases hij : j = i
    · subst hij
      rw [if_pos rfl]
      exact ⟨h1, by rw [h2, hl]⟩
    · rw [if_neg hij]
      exact ⟨h1, h2⟩
  · rw [List.length_set] at hj
    rw [rul_set hi]
    by_cases hij : j = i
    · subst hij
      rw [if_pos rfl]
      exact ho
    · rw [if_neg hij]
      exact Row.kept (h.own j hj) g (h.two j i hj hi hij)
  · rw [List.length_set] at ha hb
    exact h.two a b ha hb hab
/-- The blocks of rules that the call owns. -/
def Foot (X : Option Addr) (ps : Nat → Option Addr × Nat) (n : Nat) (q : Nat) : Prop := blk X = some q ∨ ∃ l, l < n ∧ blk (ps l).1 = some q
theorem OwnR.foot {e1 e2 : Nat} {w : World} {B c : Nat} {X : Option Addr} {rs : List RuleL} {ps : Nat → Option Addr × Nat} (h : OwnR e1 e2 w B X c rs ps) {q : Nat} (hq : Foot X ps rs.length q) : B ≤ q ∧ q < w.heap.size := by
  rcases hq with hq | ⟨l, hl, hq⟩
  · obtain ⟨cells, hr, _⟩ := h.cells
    exact Row.ge hr hq
  · exact Row.ge (h.own l hl) hq
theorem OwnR.foot_box {e1 e2 : Nat} {w : World} {B c b t : Nat} {X : Option Addr} {rs : List RuleL} {ps : Nat → Option Addr × Nat} {cs : List Value} (h : OwnR e1 e2 w B X c rs ps) (hb : Box w b cs t) (h1 : e1 ≠ t) (h2 : e2 ≠ t) : ¬ Foot X ps rs.length b := by
  rintro (hq | ⟨l, hl, hq⟩)
  · obtain ⟨cells, hr, _⟩ := h.cells
    exact box_row hb hr h1 hq
  · exact box_row hb (h.own l hl) h2 hq
theorem rul_part {rs qs : List RuleL} {i : Nat} (hl : rs.length = qs.length) (h : i < qs.length) : rul (rs.take i ++ qs.drop i) i = rul qs i := by
  have : (rs.take i).length = i := by simp; omega
  rw [rul_right (by omega), this, Nat.sub_self]
  simp [rul, List.getD_eq_getElem?_getD]
end Go.Sh
namespace Go.Proofs.Ytiohaeckagjebaa
open Go Go.Sh Go.RowKit

theorem markRuleS_c {w : World} {B c n : Nat} {X : Option Addr} {rs : List RuleL} {ps : Nat → Option Addr × Nat} {m : Int} (hx : OwnR 77 3 w B X c rs ps) (hn : n = rs.length) (h0 : 0 ≤ m) (h1 : m + sizeR rs ≤ 9223372036854775807) {k : Value → World → Prop}
    (hk : ∀ w', Gx (Foot X ps rs.length) w w' → OwnR 77 3 w' B X c (markR m rs) ps → k (.int .i64 (m + sizeR rs)) w') : CallK Try.prog 88 [.slice X n c, .int .i64 m] k w := by
  subst hn
  refine enter88 ?_
  unfold S88
  refine ⟨fun f w' => ∃ i : Nat, i ≤ rs.length ∧ f 5 = .int .i64 i ∧ f 1 = .int .i64 (m + sizeR (rs.take i)) ∧ Gx (Foot X ps rs.length) w w' ∧ OwnR 77 3 w' B X c ((markR m rs).take i ++ rs.drop i) ps, fun f _ => rs.length - (intOf (f 5)).toNat,
    ⟨0, Nat.zero_le _, rfl, by simp [sizeR, lens]; rfl, Gx.refl _ w, by simpa using hx⟩, ?_⟩
  rintro f w2 hag ⟨i, hi, h5, hf1, g2, o2⟩
  have f0 : f 0 = .slice X rs.length c := hag 0 (by decide)
  have hlen : ((markR m rs).take i ++ rs.drop i).length = rs.length := by simp [markR_length]; omega
  have hcap := hx.read.le
  simp only [f0, hf1, h5, go_sem, Nat.reduceEqDiff]
  by_cases hlt : i < rs.length
  · have hlt' : (i : Int) < rs.length := by omega
    simp only [hlt', decide_true, go_sem, Nat.reduceEqDiff]
    have hsz := sizeR_take hlt
    have hsl := @sizeR_le rs (i + 1)
    obtain ⟨cells, hr, hc⟩ := o2.cells
    rw [hlen] at hr
    have hp : 0 < rs.length → X = some (ad X) := fun h => Row.ptr hr h
    rw [ixn35 hp hlt, fa77_0, add_zero']
    refine do_store_row sz3 rfl rfl hr (by omega) fun w3 g3 s3 hr3 => ?_
    have o3 := o2.left (w' := w3) (i := i) (m := m + sizeR (rs.take i)) (cells := cells) (by decide) (by omega) hc (by rw [hlen]; exact hr) (by rw [hlen]; exact hr3) g3
    rw [rul_part (markR_length _ _) hlt] at o3
    rw [i64_of (by omega) (by omega), ixn35 hp hlt, fa77_1, add_add]
    obtain ⟨cells3, hr3', hc3⟩ := o3.cells
    have hl3 : (((markR m rs).take i ++ rs.drop i).set i (m + sizeR (rs.take i), (rul rs i).2)).length = rs.length := by rw [List.length_set]; exact hlen
    have hrul3 : rul (((markR m rs).take i ++ rs.drop i).set i (m + sizeR (rs.take i), (rul rs i).2)) i = (m + sizeR (rs.take i), (rul rs i).2) := by rw [rul_set (by omega), if_pos rfl]
    obtain ⟨_, hc31⟩ := hc3.2 i (by omega)
    rw [hrul3] at hc31
    dsimp only at hc31
    rw [ld22 ((Row.src hr3').cell _ _ hc31)]
    have oi := o3.own i (by omega)
    rw [hrul3] at oi
    dsimp only at oi
    refine markIntS_c oi rfl (by omega) (by omega) fun w4 g4 o4 => ?_
    have o5 := o3.right (by decide) (by omega) (by rw [hrul3, marks_length]) o4 g4
    rw [hrul3, List.set_set] at o5
    have hset : ((markR m rs).take i ++ rs.drop i).set i (m + sizeR (rs.take i), marks (m + sizeR (rs.take i) + 1) (rul rs i).2.length) = (markR m rs).take (i + 1) ++ rs.drop (i + 1) := by
      have e : rul (markR m rs) i = (m + sizeR (rs.take i), marks (m + sizeR (rs.take i) + 1) (rul rs i).2.length) := rul_markR hlt
      rw [← e]
      exact set_rul hlt (markR_length _ _)
    rw [hset] at o5
    rw [i64_of (by omega) (by omega)]
    have hG3 : Gx (Foot X ps rs.length) w w3 := g2.after (gx_of g3 (D := fun q => blk X = some q) fun q hq => hq) fun q hq hl => .inl hq
    have hG4 : Gx (Foot X ps rs.length) w w4 := hG3.after (gx_of g4 (D := fun q => blk (ps i).1 = some q) fun q hq => hq) fun q hq hl => .inr ⟨i, hlt, hq⟩
    refine ⟨⟨i + 1, hlt, rfl, ?_, hG4, o5⟩, ?_⟩
    · rw [hsz]
      congr 1
      omega
    · simp only [intOf]
      omega
  · have hi' : i = rs.length := by omega
    subst hi'
    simp only [Int.lt_irrefl, decide_false, go_sem, Nat.reduceEqDiff]
    rw [List.take_length, List.drop_length, List.append_nil, List.take_of_length_le (by rw [markR_length]; exact Nat.le_refl _)] at *
    exact hk w2 g2 o2
theorem markGrammar_c {w : World} {B c n : Nat} {X : Option Addr} {ps : Nat → Option Addr × Nat} {gm : Gram} {m : Int} (ho : OwnR 77 3 w B X c gm.rules ps) (hn : n = gm.rules.length) (h0 : 0 ≤ m) (h1 : m + sizeR gm.rules ≤ 9223372036854775807) {k : Value → World → Prop}
    (hk : ∀ w', Gx (Foot X ps gm.rules.length) w w' → OwnR 77 3 w' B X c (markR m gm.rules) ps → k (.int .i64 (m + sizeR gm.rules)) w') : CallK Try.prog 36 [.agg #[.int .i64 gm.nons, .int .i64 gm.toks, .slice X n c], .int .i64 m] k w := by
  refine enter36 ?_
  unfold S36
  refine do_box fun b w1 g1 hb1 hB => ?_
  simp only [go_sem, Nat.reduceEqDiff]
  rw [ldB35 hB rfl]
  refine markRuleS_c (ho.gr g1) hn h0 h1 fun w2 g2 o2 => ?_
  exact hk w2 ((gx_of_gr g1 _).trans g2) o2
theorem heldRuleS_c {F : Nat → Prop} {w : World} {X : Option Addr} {c n : Nat} {rs : List RuleL} {m : Int} (hx : RulesF F w X (markR m rs)) (hn : n = rs.length) (h0 : 0 ≤ m) (h1 : m + sizeR rs ≤ 9223372036854775807) {k : Value → World → Prop}
    (hk : ∀ w', Gr w w' → k (.int .i64 (m + sizeR rs)) w') : CallK Try.prog 89 [.slice X n c, .int .i64 m] k w := by
  subst hn
  refine enter89 ?_
  unfold S89
  refine ⟨fun f w' => ∃ i : Nat, i ≤ rs.length ∧ f 5 = .int .i64 i ∧ f 1 = .int .i64 (m + sizeR (rs.take i)) ∧ Gr w w', fun f _ => rs.length - (intOf (f 5)).toNat,
    ⟨0, Nat.zero_le _, rfl, by simp [sizeR, lens]; rfl, Gr.refl w⟩, ?_⟩
  rintro f w2 hag ⟨i, hi, h5, hf1, g2⟩
  have f0 : f 0 = .slice X rs.length c := hag 0 (by decide)
  have hll := markR_length m rs
  have hle := hx.le
  simp only [f0, hf1, h5, go_sem, Nat.reduceEqDiff]
  by_cases hlt : i < rs.length
  · have hlt' : (i : Int) < rs.length := by omega
    simp only [hlt', decide_true, go_sem, Nat.reduceEqDiff]
    have hsz := sizeR_take hlt
    have hsl := @sizeR_le rs (i + 1)
    obtain ⟨Y, y, h2, h3, h4, h6⟩ := (hx.gr g2).row i (by omega)
    rw [rul_markR hlt] at h2 h3 h4 h6
    simp only [markAt, marks_length] at h2 h3 h4 h6
    have hp : 0 < rs.length → X = some (ad X) := fun h => hx.ptr (by omega)
    rw [ixn35 hp hlt, fa77_0, add_zero', ld3 h2]
    simp only [decide_true, Bool.not_true, go_sem, Nat.reduceEqDiff]
    rw [i64_of (by omega) (by omega), ixn35 hp hlt, fa77_1, add_add, ld22 h3]
    refine heldIntS_c h6.is rfl (by omega) (by omega) fun w3 g3 => ?_
    simp only [show ¬ (m + sizeR (rs.take i) + 1 + (rul rs i).2.length < 0) from by omega, decide_false, go_sem, Nat.reduceEqDiff]
    rw [i64_of (by omega) (by omega)]
    refine ⟨⟨i + 1, hlt, rfl, ?_, gr_trans g2 g3⟩, ?_⟩
    · rw [hsz]
      congr 1
      omega
    · simp only [intOf]
      omega
  · have hi' : i = rs.length := by omega
    subst hi'
    simp only [Int.lt_irrefl, decide_false, go_sem, Nat.reduceEqDiff]
    rw [List.take_length] at *
    exact hk w2 g2
theorem heldGrammar_c {F : Nat → Prop} {w : World} {v : Value} {gm : Gram} {m : Int} (hv : GramV F w v ⟨gm.nons, gm.toks, markR m gm.rules⟩) (h0 : 0 ≤ m) (h1 : m + sizeR gm.rules ≤ 9223372036854775807) {k : Value → World → Prop}
    (hk : ∀ w', Gr w w' → k (.int .i64 (m + sizeR gm.rules)) w') : CallK Try.prog 37 [v, .int .i64 m] k w := by
  obtain ⟨X, c, rfl, hc, hx⟩ := hv
  refine enter37 ?_
  unfold S37
  refine do_box fun b w1 g1 hb1 hB => ?_
  simp only [go_sem, Nat.reduceEqDiff]
  rw [ldB35 hB rfl]
  refine heldRuleS_c (hx.gr g1) (markR_length _ _) h0 h1 fun w2 g2 => ?_
  simp only [show ¬ (m + sizeR gm.rules < 0) from by omega, decide_false, go_sem, Nat.reduceEqDiff]
  exact hk w2 (gr_trans g1 g2)
end Go.Proofs.Ytiohaeckagjebaa

/- Local state as a list of owned things that lie apart: what each operation does to it. -/
set_option linter.unusedVariables false
set_option linter.unusedSimpArgs false
set_option maxRecDepth 100000
namespace Go.Sh
open Go
/-- What is owned: a fact of the world, and the blocks that it lies in. -/
structure Thing where
  P : World → Prop
  ft : Nat → Prop
structure Thing.Ok (it : Thing) (w0 w : World) : Prop where
  lo : ∀ q, it.ft q → w0.heap.size ≤ q
  hi : ∀ q, it.ft q → q < w.heap.size
  kept : ∀ w', (∀ q, it.ft q → w'.heap[q]? = w.heap[q]?) → it.P w'
theorem Thing.Ok.step {it : Thing} {w0 w w' : World} (h : it.Ok w0 w) (hs : w.heap.size ≤ w'.heap.size) (hb : ∀ q, it.ft q → w'.heap[q]? = w.heap[q]?) : it.Ok w0 w' :=
  ⟨h.lo, fun q hq => Nat.lt_of_lt_of_le (h.hi q hq) hs, fun w'' h'' => h.kept w'' fun q hq => (h'' q hq).trans (hb q hq)⟩
/-- Things that lie apart, all of them younger than w0; nothing else has changed since w0. -/
structure Apt (w0 w : World) (L : List Thing) : Prop where
  gr : Gr w0 w
  ok : ∀ (i : Nat) (it : Thing), L[i]? = some it → it.Ok w0 w
  two : ∀ (i j : Nat) (a b : Thing), i ≠ j → L[i]? = some a → L[j]? = some b → ∀ q, a.ft q → ¬ b.ft q
theorem get_snoc {L : List Thing} {x a : Thing} {i : Nat} (h : (L ++ [x])[i]? = some a) : L[i]? = some a ∨ (i = L.length ∧ a = x) := by
  by_cases hi : i < L.length
  · rw [List.getElem?_append_left hi] at h
    exact .inl h
  · rw [List.getElem?_append_right (by omega)] at h
    have : i - L.length = 0 := by
      have := (List.getElem?_eq_some_iff.1 h).1
      simpa using this
    rw [this] at h
    refine .inr ⟨by omega, ?_⟩
    simpa using h.symm
theorem get_lt {L : List Thing} {a : Thing} {i : Nat} (h : L[i]? = some a) : i < L.length := (List.getElem?_eq_some_iff.1 h).1
theorem get_set {L : List Thing} {x a : Thing} {i j : Nat} (h : (L.set i x)[j]? = some a) : (j = i ∧ a = x) ∨ (j ≠ i ∧ L[j]? = some a) := by
  rw [List.getElem?_set] at h
  by_cases hij : i = j
  · rw [if_pos hij] at h
    split at h
    · exact .inl ⟨hij.symm, by simpa using h.symm⟩
    · cases h
  · rw [if_neg hij] at h
    exact .inr ⟨fun e => hij e.symm, h⟩
theorem Apt.nil (w : World) : Apt w w [] := ⟨Gr.refl w, fun i it h => by simp at h, fun i j a b _ h => by simp at h⟩
theorem Apt.step {w0 w w' : World} {L : List Thing} (H : Apt w0 w L) (g : Gr w w') : Apt w0 w' L :=
  ⟨gr_trans H.gr g, fun i it hi => (H.ok i it hi).step g.size fun q hq => g.block q ((H.ok i it hi).hi q hq) (by simp), H.two⟩
theorem Apt.drew {w0 w : World} {L : List Thing} (H : Apt w0 w L) : Apt w0 w.drew L := H.step (gr_drew w)
theorem Apt.get {w0 w : World} {L : List Thing} (H : Apt w0 w L) (i : Nat) {it : Thing} (hi : L[i]? = some it) : it.P w := (H.ok i it hi).kept w fun _ _ => rfl
theorem Apt.add {w0 w w' : World} {L : List Thing} (H : Apt w0 w L) (g : Gr w w') (it : Thing) (lo : ∀ q, it.ft q → w.heap.size ≤ q) (hi : ∀ q, it.ft q → q < w'.heap.size) (kept : ∀ w'', (∀ q, it.ft q → w''.heap[q]? = w'.heap[q]?) → it.P w'') : Apt w0 w' (L ++ [it]) := by
  have H' := H.step g
  refine ⟨H'.gr, fun i a ha => ?_, fun i j a b hij ha hb q hq hq' => ?_⟩
  · rcases get_snoc ha with h | ⟨_, rfl⟩
    · exact H'.ok i a h
    · exact ⟨fun q hq => Nat.le_trans H.gr.size (lo q hq), hi, kept⟩
  · rcases get_snoc ha with h | ⟨e, rfl⟩ <;> rcases get_snoc hb with h' | ⟨e', rfl⟩
    · exact H.two i j a b hij h h' q hq hq'
    · have := (H.ok i a h).hi q hq
      have := lo q hq'
      omega
    · have := (H.ok j b h').hi q hq'
      have := lo q hq
      omega
    · exact hij (e.trans e'.symm)
theorem Apt.set {w0 w w' : World} {L : List Thing} (H : Apt w0 w L) {i : Nat} {it it' : Thing} (hi : L[i]? = some it) (g : Gx it.ft w w') (lo : ∀ q, it'.ft q → it.ft q ∨ w.heap.size ≤ q) (hh : ∀ q, it'.ft q → q < w'.heap.size) (kept : ∀ w'', (∀ q, it'.ft q → w''.heap[q]? = w'.heap[q]?) → it'.P w'') : Apt w0 w' (L.set i it') := by
  have hit := H.ok i it hi
  have hsz := H.gr.size
  refine ⟨Gx.gr_after H.gr g fun q hq => hit.lo q hq, fun j a ha => ?_, fun j l a b hjl ha hb q hq hq' => ?_⟩
  · rcases get_set ha with ⟨rfl, rfl⟩ | ⟨hj, h⟩
    · refine ⟨fun q hq => ?_, hh, kept⟩
      rcases lo q hq with h | h
      · exact hit.lo q h
      · omega
    · have := H.ok j a h
      exact this.step g.size fun q hq => g.block q (this.hi q hq) fun hq' => H.two j i a it hj h hi q hq hq'
  · rcases get_set ha with ⟨rfl, rfl⟩ | ⟨hj, h⟩ <;> rcases get_set hb with ⟨rfl, rfl⟩ | ⟨hl, h'⟩
    · exact hjl rfl
    · rcases lo q hq with h2 | h2
      · exact H.two _ _ _ _ (fun e => hl e.symm) hi h' q h2 hq'
      · have := (H.ok l b h').hi q hq'
        omega
    · rcases lo q hq' with h2 | h2
      · exact H.two _ _ _ _ hj h hi q hq h2
      · have := (H.ok j a h).hi q hq
        omega
    · exact H.two j l a b hjl h h' q hq hq'
theorem Apt.cast {w0 w : World} {L L' : List Thing} (H : Apt w0 w L) (e : L = L') : Apt w0 w L' := e ▸ H
/-- Some of the things alone, in another order. -/
theorem Apt.pick {w0 w : World} {L L' : List Thing} (H : Apt w0 w L) (m : Nat → Nat) (h : ∀ i a, L'[i]? = some a → L[m i]? = some a) (hm : ∀ i j, i < L'.length → j < L'.length → m i = m j → i = j) : Apt w0 w L' :=
  ⟨H.gr, fun i a ha => H.ok _ a (h i a ha), fun i j a b hij ha hb => H.two _ _ a b (fun e => hij (hm i j (get_lt ha) (get_lt hb) e)) (h i a ha) (h j b hb)⟩
theorem Apt.take {w0 w : World} {L : List Thing} (H : Apt w0 w L) (n : Nat) : Apt w0 w (L.take n) := by
  have h : ∀ (i : Nat) (a : Thing), (L.take n)[i]? = some a → L[i]? = some a := fun i a ha => by
    rw [List.getElem?_take] at ha
    split at ha
    · exact ha
    · cases ha
  exact ⟨H.gr, fun i a ha => H.ok i a (h i a ha), fun i j a b hij ha hb => H.two i j a b hij (h i a ha) (h j b hb)⟩

/-- Things of a later stretch beside those of an earlier one. -/
theorem Apt.append {w0 w1 w2 : World} {L M : List Thing} (H : Apt w0 w1 L) (G : Apt w1 w2 M) : Apt w0 w2 (L ++ M) := by
  have H' := H.step G.gr
  have get : ∀ (i : Nat) (a : Thing), (L ++ M)[i]? = some a → (i < L.length ∧ L[i]? = some a) ∨ (L.length ≤ i ∧ M[i - L.length]? = some a) := fun i a ha => by
    by_cases h : i < L.length
    · rw [List.getElem?_append_left h] at ha
      exact .inl ⟨h, ha⟩
    · rw [List.getElem?_append_right (by omega)] at ha
      exact .inr ⟨by omega, ha⟩
  refine ⟨H'.gr, fun i a ha => ?_, fun i j a b hij ha hb q hq hq' => ?_⟩
  · rcases get i a ha with ⟨_, h⟩ | ⟨_, h⟩
    · exact H'.ok i a h
    · have := G.ok _ a h
      exact ⟨fun q hq => Nat.le_trans H.gr.size (this.lo q hq), this.hi, this.kept⟩
  · rcases get i a ha with ⟨h1, h⟩ | ⟨h1, h⟩ <;> rcases get j b hb with ⟨h2, h'⟩ | ⟨h2, h'⟩
    · exact H.two i j a b hij h h' q hq hq'
    · have := (H.ok i a h).hi q hq
      have := (G.ok _ b h').lo q hq'
      omega
    · have := (H.ok j b h').hi q hq'
      have := (G.ok _ a h).lo q hq
      omega
    · exact G.two _ _ a b (by omega) h h' q hq hq'
theorem Apt.swap {w0 w : World} {a b : Thing} (H : Apt w0 w [a, b]) : Apt w0 w [b, a] :=
  H.pick (fun i => 1 - i) (fun i x hx => by
    match i, hx with
    | 0, hx => exact hx
    | 1, hx => exact hx
    | i + 2, hx => simp at hx) (fun i j hi hj e => by simp at hi hj; omega)
/-- A join: what holds at each way out. -/
theorem join_as {b : (F → World → Prop) → Prop} {n : F → World → Prop} (C : F → World → Prop) (hb : ∀ K, (∀ f w, C f w → K f w) → b K) (hn : ∀ f w, C f w → n f w) : Join b n := hb n hn
/-! ### Things -/
theorem Row.same {w w' : World} {B e sz n c : Nat} {X : Option Addr} {cells : List Value} (h : Row w B e sz X n c cells) (hs : ∀ q, blk X = some q → w'.heap[q]? = w.heap[q]?) : Row w' B e sz X n c cells := by
  obtain ⟨hl, h2⟩ := h
  refine ⟨hl, ?_⟩
  rcases h2 with h2 | ⟨q, cap, cur, e1, e2, e3, e4⟩
  · exact .inl h2
  · refine .inr ⟨q, cap, cur, e1, e2, ?_, e4⟩
    obtain ⟨rfl, _, _⟩ : X = some ⟨q, 0, none⟩ ∧ n = n ∧ c = cap := by simpa using e1
    rw [hs q rfl]
    exact e3
theorem Row.up {w : World} {B B' e sz n c : Nat} {X : Option Addr} {cells : List Value} (h : Row w B e sz X n c cells) (hb : ∀ q, blk X = some q → B' ≤ q) : Row w B' e sz X n c cells := by
  obtain ⟨hl, h2⟩ := h
  refine ⟨hl, ?_⟩
  rcases h2 with h2 | ⟨q, cap, cur, e1, e2, e3⟩
  · exact .inl h2
  · obtain ⟨rfl, _, _⟩ : X = some ⟨q, 0, none⟩ ∧ n = n ∧ c = cap := by simpa using e1
    exact .inr ⟨q, cap, cur, e1, hb q rfl, e3⟩
theorem OwnR.same {e1 e2 : Nat} {w w' : World} {B : Nat} {X : Option Addr} {c : Nat} {rs : List RuleL} {ps : Nat → Option Addr × Nat} (h : OwnR e1 e2 w B X c rs ps) (hs : ∀ q, Foot X ps rs.length q → w'.heap[q]? = w.heap[q]?) : OwnR e1 e2 w' B X c rs ps := by
  obtain ⟨⟨cells, hr, hc⟩, ho, ht⟩ := h
  exact ⟨⟨cells, hr.same fun q hq => hs q (.inl hq), hc⟩, fun j hj => Row.same (ho j hj) fun q hq => hs q (.inr ⟨j, hj, hq⟩), ht⟩
theorem OwnR.up {e1 e2 : Nat} {w : World} {B B' : Nat} {X : Option Addr} {c : Nat} {rs : List RuleL} {ps : Nat → Option Addr × Nat} (h : OwnR e1 e2 w B X c rs ps) (hs : ∀ q, Foot X ps rs.length q → B' ≤ q) : OwnR e1 e2 w B' X c rs ps := by
  obtain ⟨⟨cells, hr, hc⟩, ho, ht⟩ := h
  exact ⟨⟨cells, hr.up fun q hq => hs q (.inl hq), hc⟩, fun j hj => Row.up (ho j hj) fun q hq => hs q (.inr ⟨j, hj, hq⟩), ht⟩
def bx (b : Nat) (cs : List Value) (t : TypeId) : Thing := ⟨fun w => Box w b cs t, fun q => q = b⟩
def rwi (e sz : Nat) (X : Option Addr) (n c : Nat) (cells : List Value) : Thing := ⟨fun w => Row w 0 e sz X n c cells, fun q => blk X = some q⟩
def rls (e1 e2 : Nat) (X : Option Addr) (c : Nat) (rs : List RuleL) (ps : Nat → Option Addr × Nat) : Thing := ⟨fun w => OwnR e1 e2 w 0 X c rs ps, Foot X ps rs.length⟩
theorem bx_kept {w : World} {b t : Nat} {cs : List Value} (h : Box w b cs t) : ∀ w', (∀ q, (bx b cs t).ft q → w'.heap[q]? = w.heap[q]?) → (bx b cs t).P w' := fun w' hq => (hq b rfl).trans h
theorem rwi_kept {w : World} {B e sz n c : Nat} {X : Option Addr} {cells : List Value} (h : Row w B e sz X n c cells) : ∀ w', (∀ q, (rwi e sz X n c cells).ft q → w'.heap[q]? = w.heap[q]?) → (rwi e sz X n c cells).P w' := fun w' hq => (Row.mono h (Nat.zero_le B)).same hq
theorem rls_kept {w : World} {B e1 e2 c : Nat} {X : Option Addr} {rs : List RuleL} {ps : Nat → Option Addr × Nat} (h : OwnR e1 e2 w B X c rs ps) : ∀ w', (∀ q, (rls e1 e2 X c rs ps).ft q → w'.heap[q]? = w.heap[q]?) → (rls e1 e2 X c rs ps).P w' := fun w' hq => (h.mono (Nat.zero_le B)).same hq
section
variable {w0 w w' : World} {L : List Thing}
theorem Apt.box (H : Apt w0 w L) (i : Nat) {b t : Nat} {cs : List Value} (hi : L[i]? = some (bx b cs t)) : Box w b cs t := H.get i hi
theorem Apt.row (H : Apt w0 w L) (i : Nat) {e sz n c : Nat} {X : Option Addr} {cells : List Value} (hi : L[i]? = some (rwi e sz X n c cells)) : Row w w0.heap.size e sz X n c cells := Row.up (H.get i hi) (H.ok i _ hi).lo
theorem Apt.rules (H : Apt w0 w L) (i : Nat) {e1 e2 c : Nat} {X : Option Addr} {rs : List RuleL} {ps : Nat → Option Addr × Nat} (hi : L[i]? = some (rls e1 e2 X c rs ps)) : OwnR e1 e2 w w0.heap.size X c rs ps := OwnR.up (H.get i hi) (H.ok i _ hi).lo
theorem Apt.addBox (H : Apt w0 w L) (g : Gr w w') {b t : Nat} {cs : List Value} (hb : w.heap.size ≤ b) (h : Box w' b cs t) : Apt w0 w' (L ++ [bx b cs t]) := H.add g _ (fun q hq => (show q = b from hq) ▸ hb) (fun q hq => (show q = b from hq) ▸ h.lt) (bx_kept h)
theorem Apt.addRow (H : Apt w0 w L) (g : Gr w w') {e sz n c : Nat} {X : Option Addr} {cells : List Value} (h : Row w' w.heap.size e sz X n c cells) : Apt w0 w' (L ++ [rwi e sz X n c cells]) := H.add g _ (fun q hq => (Row.ge h hq).1) (fun q hq => (Row.ge h hq).2) (rwi_kept h)
theorem Apt.addRules (H : Apt w0 w L) (g : Gr w w') {e1 e2 c : Nat} {X : Option Addr} {rs : List RuleL} {ps : Nat → Option Addr × Nat} (h : OwnR e1 e2 w' w.heap.size X c rs ps) : Apt w0 w' (L ++ [rls e1 e2 X c rs ps]) := H.add g _ (fun q hq => (h.foot hq).1) (fun q hq => (h.foot hq).2) (rls_kept h)
theorem Apt.addNil (H : Apt w0 w L) (e sz : Nat) : Apt w0 w (L ++ [rwi e sz none 0 0 []]) := H.addRow (Gr.refl w) (Row.nil _ _ _ _)
end
/-! ### Loops -/
/-- A loop over a state of the prover's own that counts down. -/
theorem loop_ghost {σ : Type} {W : List Nat} {body : (Exit → F → World → Prop) → F → World → Prop} {Q : Exit → F → World → Prop} {f0 : F} {w0 : World} (J : σ → F → World → Prop) (m : σ → Nat) (s0 : σ) (h0 : J s0 f0 w0)
    (h : ∀ s f w (N : F → World → Prop), Agree W f0 f → J s f w → (∀ s' f' w', J s' f' w' → m s' < m s → N f' w') → body (seqQ N Q) f w) : LoopF W body Q f0 w0 := by
  classical
  have hm : ∃ μ : F → World → Nat, (∀ f w s, J s f w → μ f w ≤ m s) ∧ ∀ f w, (∃ s, J s f w) → ∃ s, J s f w ∧ m s = μ f w := by
    have key : ∀ f w, ∃ n, (∀ s, J s f w → n ≤ m s) ∧ ((∃ s, J s f w) → ∃ s, J s f w ∧ m s = n) := fun f w => by
      by_cases hx : ∃ s, J s f w
      · have : ∃ n, ∃ s, J s f w ∧ m s = n := by
          obtain ⟨s, hs⟩ := hx
          exact ⟨_, s, hs, rfl⟩
        have ind : ∀ n, (∃ s, J s f w ∧ m s = n) → ∃ n, (∀ s, J s f w → n ≤ m s) ∧ ∃ s, J s f w ∧ m s = n := by
          intro n
          induction n using Nat.strongRecOn with
          | _ n ih =>
            intro hn
            by_cases hlt : ∃ s, J s f w ∧ m s < n
            · obtain ⟨s, hs, hl⟩ := hlt
              exact ih _ hl ⟨s, hs, rfl⟩
            · exact ⟨n, fun s hs => Classical.byContradiction fun hc => hlt ⟨s, hs, by omega⟩, hn⟩
        obtain ⟨n, hn⟩ := this
        obtain ⟨n', h1, h2⟩ := ind n hn
        exact ⟨n', h1, fun _ => h2⟩
      · exact ⟨0, fun s hs => absurd ⟨s, hs⟩ hx, fun e => absurd e hx⟩
    exact ⟨fun f w => Classical.choose (key f w), fun f w s hs => (Classical.choose_spec (key f w)).1 s hs, fun f w hx => (Classical.choose_spec (key f w)).2 hx⟩
  obtain ⟨μ, hμ1, hμ2⟩ := hm
  refine ⟨fun f w => ∃ s, J s f w, μ, ⟨s0, h0⟩, fun f w hag hx => ?_⟩
  obtain ⟨s, hs, hms⟩ := hμ2 f w hx
  refine h s f w _ hag hs fun s' f' w' hs' hlt => ⟨⟨s', hs'⟩, ?_⟩
  have := hμ1 f' w' s' hs'
  omega
/-- A loop that counts up to n. -/
theorem loop_to {W : List Nat} {body : (Exit → F → World → Prop) → F → World → Prop} {Q : Exit → F → World → Prop} {f0 : F} {w0 : World} (n a : Nat) (J : Nat → F → World → Prop) (h0 : J a f0 w0)
    (h : ∀ i f w (N : F → World → Prop), Agree W f0 f → J i f w → (∀ f' w', i < n → J (i + 1) f' w' → N f' w') → body (seqQ N Q) f w) : LoopF W body Q f0 w0 :=
  loop_ghost J (fun i => n - i) a h0 fun i f w N hag hJ hN => by
    by_cases hlt : i < n
    · exact h i f w N hag hJ fun f' w' _ hJ' => hN (i + 1) f' w' hJ' (by omega)
    · exact h i f w N hag hJ fun f' w' hlt' _ => absurd hlt' hlt
theorem rng6 : Array.range 6 = #[0, 1, 2, 3, 4, 5] := by decide
theorem rdi {A B : Prop} (e : A = B) (h : B) : A := e ▸ h
theorem all_one {vs : List Value} (h : vs.all Value.oneCell' = true) : ∀ v ∈ vs, v.oneCell' = true := fun v hv => List.all_eq_true.1 h v hv
section
variable {P : Program} {k : Value → World → Prop} {w0 w : World} {L : List Thing}
theorem boxH (H : Apt w0 w L) {t : TypeId} {v : Value} (h : ∀ b w', Apt w0 w' (L ++ [bx b v.cells.toList t]) → k (.pointer (some ⟨b, 0, none⟩)) w') : Do P (sBox t v) k w :=
  do_box fun b w' g hb hB => h b w' (H.addBox g hb hB)
theorem allocH (H : Apt w0 w L) {t sz by' : Nat} {z : Value} (I : Inf P t z sz by') (h : ∀ b w', Apt w0 w' (L ++ [bx b z.cells.toList t]) → k (.pointer (some ⟨b, 0, none⟩)) w') : Do P (sAlloc t) k w :=
  do_alloc_of I fun b w' g hb hB => h b w' (H.addBox g hb hB)
theorem storeH (H : Apt w0 w L) (i : Nat) {b e : Nat} {cs : List Value} (hi : L[i]? = some (bx b cs e)) {t n off : Nat} {v : Value} (hs : szOf P t n) (hv : v.cells.size = n) (h1 : v.cells.toList.all Value.oneCell' = true) (hl : Nat.ble (off + n) cs.length = true)
    (h : ∀ w', Apt w0 w' (L.set i (bx b (cs.take off ++ v.cells.toList ++ cs.drop (off + n)) e)) → k undef w') : Do P (sStore t (.pointer (some ⟨b, off, none⟩)) v) k w :=
  do_store hs hv (all_one h1) (H.box i hi) (Nat.le_of_ble_eq_true hl) fun w' g hsz hb => h w' (H.set hi (gx_of g fun q hq => by cases hq; rfl) (fun q hq => .inl hq) (fun q hq => (show q = b from hq) ▸ hb.lt) (bx_kept hb))
theorem appendH (H : Apt w0 w L) (i : Nat) {t e u sz by' n c m d : Nat} {X Y : Option Addr} {cells news : List Value} {z : Value} (hi : L[i]? = some (rwi e sz X n c cells)) (ht : P.underlying t = some (.slice e)) (I : Inf P e z sz by') (hzs : z.cells.size = sz) (hsz : 0 < sz)
    {cs : List Bool} (hS : Src w Y news) (hl : news.length = m * sz) (h1 : ∀ v ∈ news, v.oneCell' = true) (hm : (n + m) * by' ≤ 140737488355328) (hmax : n + m ≤ 9223372036854775807)
    (h : ∀ X' c' w', Apt w0 w' (L.set i (rwi e sz X' (n + m) c' (cells ++ news))) → k (.slice X' (n + m) c') w') : Do P (sBuiltin .append #[t, t] u cs [.slice X n c, .slice Y m d]) k w :=
  do_append2 ht I hzs hsz (H.row i hi) hS hl h1 hm hmax H.gr.size fun X' c' w' hr hg hmv => h X' c' w' (H.set hi (gx_of hg fun q hq => hq) (fun q hq => by
    rcases hmv with e | e
    · exact .inl (show blk X = some q from e ▸ (show blk X' = some q from hq))
    · exact .inr (e q hq)) (fun q hq => (Row.ge hr hq).2) (rwi_kept hr))
theorem makeH (H : Apt w0 w L) {t e sz by' : Nat} {z : Value} (ht : P.underlying t = some (.slice e)) (I : Inf P e z sz by') {kl kc : IntKind} {n : Nat} (hm : by' * n ≤ 281474976710656) (hmax : n ≤ 9223372036854775807)
    (h : ∀ b w', Apt w0 w' (L ++ [rwi e sz (some ⟨b, 0, none⟩) n n (madeCells z.cells (n * sz)).toList]) → k (.slice (some ⟨b, 0, none⟩) n n) w') : Do P (sMakeSlice t (.int kl n) (.int kc n)) k w :=
  do_make_of ht I hm hmax fun b w' hb hb' g hr => h b w' (H.addRow g (hr _ (Nat.le_refl _)))
theorem buildH (H : Apt w0 w L) {t e sz by' n : Nat} {z : Value} (ht : P.underlying t = some (.slice e)) (I : Inf P e z sz by') {ps : List (Nat × Value)} (cells : List Value) (hn : n * sz ≤ 16777216) (hn' : n ≤ 9223372036854775807)
    (hf : Instr.fill (fun j => some (j * sz, sz)) (madeCells (if n * sz = 0 then #[] else z.cells) (n * sz)) ps = some cells.toArray) (hl : cells.length = n * sz)
    (h : ∀ b w', Apt w0 w' (L ++ [rwi e sz (some ⟨b, 0, none⟩) n n cells]) → k (.slice (some ⟨b, 0, none⟩) n n) w') : Do P (sBuildSlice t n ps) k w :=
  do_build_of ht I hn hn' hf hl fun b w' hb hb' g hB hr => h b w' (H.addRow g (hr _ (Nat.le_refl _)))
end
section
variable {P : Program} {k : Value → Prop}
theorem rdG {w : World} {h : Gr w w} {t off b e : Nat} {cs : List Value} {v : Value} (ht : one P t) (hb : Box w b cs e) (hc : cs[off]? = some v) : Rd P ⟨fun w' => Gr w w', w, h⟩ (sLoad t (.pointer (some ⟨b, off, none⟩))) k = k v :=
  rd_load1 ht fun w' hw => ((hb.gr hw).cell off).trans hc
theorem rdG_agg {w : World} {h : Gr w w} {t b e n : Nat} {cs : List Value} (ht : agg P t) (hs : szOf P t n) (hn : cs.length = n) (hb : Box w b cs e) : Rd P ⟨fun w' => Gr w w', w, h⟩ (sLoad t (.pointer (some ⟨b, 0, none⟩))) k = k (.agg cs.toArray) :=
  rd_loadAgg ht hs hn fun w' hw j hj => by
    rw [add_plain, Nat.zero_add, (hb.gr hw).cell]
    exact List.getElem?_eq_getElem hj
end
theorem rls_gramV {e1 e2 : Nat} {w : World} {B c : Nat} {X : Option Addr} {ps : Nat → Option Addr × Nat} {gm : Gram} (h : OwnR e1 e2 w B X c gm.rules ps) : GramV (fun _ => True) w (.agg #[.int .i64 gm.nons, .int .i64 gm.toks, .slice X gm.rules.length c]) gm := by
  obtain ⟨cells, hr, _⟩ := h.cells
  exact ⟨X, c, rfl, (Row.cap hr).1, h.read.mono fun _ _ => trivial⟩
end Go.Sh
namespace Go.Proofs.Ytiohaeckagjebaa
open Go Go.Sh Go.RowKit
def ows (X : Option Addr) (c : Nat) (xs : List Int) : Thing := rwi 3 1 X xs.length c (ints xs)
theorem ows_ft {X : Option Addr} {c : Nat} {xs : List Int} {q : Nat} (h : (ows X c xs).ft q) : blk X = some q := h
section
variable {k : Value → World → Prop} {w0 w w' : World} {L : List Thing}
theorem _root_.Go.Sh.Apt.own (H : Apt w0 w L) (i : Nat) {c : Nat} {X : Option Addr} {xs : List Int} (hi : L[i]? = some (ows X c xs)) : Own 3 w w0.heap.size X c xs := H.row i hi
theorem _root_.Go.Sh.Apt.ints (H : Apt w0 w L) (i : Nat) {c : Nat} {X : Option Addr} {xs : List Int} (hi : L[i]? = some (ows X c xs)) : Ints w X xs := Own.ints (H.own i hi)
theorem _root_.Go.Sh.Apt.addOwn (H : Apt w0 w L) (g : Gr w w') {c : Nat} {X : Option Addr} {xs : List Int} (h : Own 3 w' w.heap.size X c xs) : Apt w0 w' (L ++ [ows X c xs]) := H.addRow g h
/-- append of numbers to numbers. -/
theorem apH (H : Apt w0 w L) (i : Nat) {u n c m d : Nat} {X Y : Option Addr} {xs ys : List Int} (hi : L[i]? = some (ows X c xs)) {cs : List Bool} (hY : Ints w Y ys) (hn : n = xs.length) (hm : m = ys.length) (hb : (xs.length + ys.length) * 8 ≤ 140737488355328)
    (h : ∀ X' c' w', Apt w0 w' (L.set i (ows X' c' (xs ++ ys))) → k (.slice X' (xs ++ ys).length c') w') : Do Try.prog (sBuiltin .append #[22, 22] u cs [.slice X n c, .slice Y m d]) k w := by
  subst hn
  subst hm
  refine appendH H i hi u22 inf3 rfl (by decide) hY.src (by rw [ints_length, Nat.mul_one]) (ints_one ys) hb (by omega) fun X' c' w' H' => ?_
  rw [← ints_append, ← List.length_append] at H'
  rw [← List.length_append]
  exact h X' c' w' H'
/-- append of one number. -/
theorem pushH {k : Value → Value → World → Prop} (H : Apt w0 w L) (i : Nat) {u n c : Nat} {X : Option Addr} {xs : List Int} {x : Int} (hi : L[i]? = some (ows X c xs)) {cs : List Bool} (hn : n = xs.length) (hb : xs.length ≤ 1000000000)
    (h : ∀ t X' c' w', Apt w0 w' (L.set i (ows X' c' (xs ++ [x]))) → k t (.slice X' (xs ++ [x]).length c') w') : Do Try.prog (sBuildSlice 22 1 [(0, .int .i64 x)]) (fun t w1 => Do Try.prog (sBuiltin .append #[22, 22] u cs [.slice X n c, t]) (k t) w1) w := by
  refine bs22 [.int .i64 x] (by decide) (by simp [Instr.fill, madeCells, Value.cells, rng1]) rfl fun b w1 hb1 hb2 g hB hr => ?_
  refine apH (H.step g) i hi (ys := [x]) (Own.ints (show Own 3 w1 w.heap.size (some ⟨b, 0, none⟩) 1 [x] from hr _ (Nat.le_refl _))) hn rfl (by simp; omega) fun X' c' w' H' => h _ X' c' w' H'
end
end Go.Proofs.Ytiohaeckagjebaa

/- Contracts of what PumpWord reaches. -/
set_option linter.unusedVariables false
set_option linter.unusedSimpArgs false
set_option maxRecDepth 100000
namespace Go.Sh
open Go
def seg (xs : List Int) (a b : Int) : List Int := (xs.drop a.toNat).take (b.toNat - a.toNat)
def rep (m : Nat) (l : List Int) : List Int := (List.replicate m l).flatten
theorem rep_succ (m : Nat) (l : List Int) : rep (m + 1) l = rep m l ++ l := by
  unfold rep
  rw [List.replicate_succ', List.flatten_append]
  simp
theorem rep_length (m : Nat) (l : List Int) : (rep m l).length = m * l.length := by
  induction m with
  | zero => simp [rep]
  | succ m ih => rw [rep_succ, List.length_append, ih, Nat.succ_mul]
structure Cuts (cs : List Int) (n : Nat) : Prop where
  len : cs.length = 4
  lo : 0 ≤ cs.getD 0 0
  h01 : cs.getD 0 0 ≤ cs.getD 1 0
  h12 : cs.getD 1 0 ≤ cs.getD 2 0
  h23 : cs.getD 2 0 ≤ cs.getD 3 0
  hi : cs.getD 3 0 ≤ n
instance (cs : List Int) (n : Nat) : Decidable (Cuts cs n) :=
  decidable_of_iff (cs.length = 4 ∧ 0 ≤ cs.getD 0 0 ∧ cs.getD 0 0 ≤ cs.getD 1 0 ∧ cs.getD 1 0 ≤ cs.getD 2 0 ∧ cs.getD 2 0 ≤ cs.getD 3 0 ∧ cs.getD 3 0 ≤ n)
    ⟨fun ⟨a, b, c, d, e, f⟩ => ⟨a, b, c, d, e, f⟩, fun h => ⟨h.len, h.lo, h.h01, h.h12, h.h23, h.hi⟩⟩
def pumpL (xs cs : List Int) (m : Nat) : List Int :=
  seg xs 0 (cs.getD 0 0) ++ rep m (seg xs (cs.getD 0 0) (cs.getD 1 0)) ++ seg xs (cs.getD 1 0) (cs.getD 2 0) ++ rep m (seg xs (cs.getD 2 0) (cs.getD 3 0)) ++ seg xs (cs.getD 3 0) xs.length
theorem seg_length (xs : List Int) (a b : Int) : (seg xs a b).length ≤ xs.length := by
  unfold seg
  simp
  omega
theorem pumpL_length (xs cs : List Int) (m : Nat) : (pumpL xs cs m).length ≤ 3 * xs.length + 2 * (m * xs.length) := by
  unfold pumpL
  simp only [List.length_append, rep_length]
  have h1 := seg_length xs 0 (cs.getD 0 0)
  have h2 := Nat.mul_le_mul_left m (seg_length xs (cs.getD 0 0) (cs.getD 1 0))
  have h3 := seg_length xs (cs.getD 1 0) (cs.getD 2 0)
  have h4 := Nat.mul_le_mul_left m (seg_length xs (cs.getD 2 0) (cs.getD 3 0))
  have h5 := seg_length xs (cs.getD 3 0) xs.length
  omega
end Go.Sh
namespace Go.Proofs.Ytiohaeckagjebaa
open Go Go.Sh Go.RowKit

theorem l1Own_c {w : World} {X : Option Addr} {c n : Nat} {xs : List Int} (hx : Ints w X xs) (hn : n = xs.length) (hb : xs.length * 8 ≤ 140737488355328) {k : Value → World → Prop}
    (hk : ∀ X' c' w', Gr w w' → Own 3 w' w.heap.size X' c' xs → k (.slice X' xs.length c') w') : CallK Try.prog 116 [.slice X n c] k w := by
  subst hn
  refine enter116 ?_
  unfold S116
  refine bs22 [] (by decide) (by simp [Instr.fill, madeCells]) rfl fun b w1 hb1 hb2 hg hbox hrow => ?_
  refine ap22 (hrow _ (Nat.le_refl _)) (hx.gr hg).src (by rw [ints_length, Nat.mul_one]) (ints_one xs) (by omega) hg.size fun X' c' w2 hr hg2 => ?_
  rw [Nat.zero_add] at hr ⊢
  exact hk X' c' w2 (gr_mod hg hg2 fun q hq => by simp [blk] at hq; omega) hr

/-- append to a row of ints. -/
theorem apI {u : TypeId} {cs : List Bool} {w : World} {k : Value → World → Prop} {B c d n m : Nat} {X Y : Option Addr} {xs ys : List Int} (hO : Own 3 w B X c xs) (hY : Ints w Y ys) (hn : n = xs.length) (hm : m = ys.length) (hb : (xs.length + ys.length) * 8 ≤ 140737488355328) (hB : B ≤ w.heap.size)
    (h : ∀ X' c' w', Own 3 w' B X' c' (xs ++ ys) → w.grownBy w' (blk X) → k (.slice X' (xs ++ ys).length c') w') : Do Try.prog (sBuiltin .append #[22, 22] u cs [.slice X n c, .slice Y m d]) k w := by
  subst hn
  subst hm
  refine ap22 hO hY.src (by rw [ints_length, Nat.mul_one]) (ints_one ys) hb hB fun X' c' w' hr hg => ?_
  rw [← ints_append, ← List.length_append] at hr
  rw [← List.length_append]
  exact h X' c' w' hr hg

theorem Ints_seg {w : World} {X : Option Addr} {xs : List Int} {c : Nat} (h : Ints w X xs) (hc : xs.length ≤ c) {a b : Int} (h0 : 0 ≤ a) (h1 : a ≤ b) (h2 : b ≤ xs.length) : Ints w (sub X a.toNat c 1) (seg xs a b) ∧ (seg xs a b).length = b.toNat - a.toNat := by
  refine ⟨h.sub (by omega) hc _, ?_⟩
  unfold seg
  simp
  omega

theorem l18Word_c {w : World} {X Y : Option Addr} {c d : Nat} {xs cs : List Int} {m : Nat} (hx : Ints w X xs) (hc : xs.length ≤ c) (hy : Ints w Y cs) (hcs : Cuts cs xs.length) (hl : xs.length ≤ 100) (hm : m ≤ 4) {k : Value → World → Prop}
    (hk : ∀ X' c' w', Gr w w' → Own 3 w' w.heap.size X' c' (pumpL xs cs m) → k (.slice X' (pumpL xs cs m).length c') w') : CallK Try.prog 78 [.slice X xs.length c, .slice Y cs.length d, .int .i64 m] k w := by
  obtain ⟨h4, c0, c1, c2, c3, c4⟩ := hcs
  refine enter78 ?_
  unfold S78
  rw [ix22_0 hy.ptr (by omega), ld3 (hy.cell 0 (by omega)), slh22 c0 (by omega)]
  obtain ⟨p0, l0⟩ := Ints_seg hx hc (Int.le_refl 0) c0 (by omega)
  refine l1Own_c p0 (by rw [l0]; simp) (by rw [l0]; omega) fun X1 d1 w1 g1 o1 => ?_
  have hb1 : (seg xs 0 (cs.getD 0 0)).length ≤ 100 := by omega
  obtain ⟨p1, l1⟩ := Ints_seg hx hc c0 c1 (by omega)
  obtain ⟨p2, l2⟩ := Ints_seg hx hc (by omega) c2 (by omega)
  obtain ⟨p3, l3⟩ := Ints_seg hx hc (by omega) c3 (by omega)
  obtain ⟨p4, l4⟩ := Ints_seg hx hc (a := cs.getD 3 0) (b := xs.length) (by omega) c4 (Int.le_refl _)
  refine ⟨fun f w' => ∃ (i : Nat) (X' : Option Addr) (c' : Nat), i ≤ m ∧ f 8 = .int .i64 i ∧ f 7 = .slice X' (seg xs 0 (cs.getD 0 0) ++ rep i (seg xs (cs.getD 0 0) (cs.getD 1 0))).length c' ∧ Gr w w' ∧ Own 3 w' w.heap.size X' c' (seg xs 0 (cs.getD 0 0) ++ rep i (seg xs (cs.getD 0 0) (cs.getD 1 0))), fun f _ => m - (intOf (f 8)).toNat,
    ⟨0, X1, d1, Nat.zero_le _, rfl, by simp [rep]; rfl, g1, by simpa [rep] using o1⟩, ?_⟩
  rintro f w2 hag ⟨i, X2, d2, him, h8, h7, g2, o2⟩
  have f0 : f 0 = .slice X xs.length c := hag 0 (by decide)
  have f1 : f 1 = .slice Y cs.length d := hag 1 (by decide)
  have f2 : f 2 = .int .i64 m := hag 2 (by decide)
  simp only [f0, f1, f2, h7, h8, go_sem, Nat.reduceEqDiff]
  by_cases hlt : i < m
  · have hlt' : (i : Int) < m := by omega
    have gd := gr_trans g2 (gr_drew w2)
    simp only [hlt', decide_true, go_sem, Nat.reduceEqDiff]
    rw [ix22_0 hy.ptr (by omega), ld3 ((hy.gr gd).cell 0 (by omega)), ix22_1 hy.ptr (by omega), ld3 ((hy.gr gd).cell 1 (by omega)), sl22 c0 c1 (by omega)]
    have hlen : (seg xs 0 (cs.getD 0 0) ++ rep i (seg xs (cs.getD 0 0) (cs.getD 1 0))).length ≤ 100 + 4 * 100 := by
      rw [List.length_append, rep_length]
      have := Nat.mul_le_mul (show i ≤ 4 by omega) (show (seg xs (cs.getD 0 0) (cs.getD 1 0)).length ≤ 100 by omega)
      omega
    refine apI (o2.gr (gr_drew w2)) (p1.gr gd) rfl (by rw [l1]) (by omega) gd.size fun X3 d3 w3 o3 g3 => ?_
    rw [i64_of (by omega) (by omega)]
    have g3' := gr_mod gd g3 fun q hq => (Row.ge o2 hq).1
    rw [List.append_assoc, ← rep_succ] at o3
    refine ⟨⟨i + 1, X3, d3, hlt, rfl, by rw [List.append_assoc, ← rep_succ], g3', o3⟩, ?_⟩
    simp only [intOf]
    omega
  · have him' : i = m := by omega
    subst him'
    simp only [show ¬ (i : Int) < i from by omega, decide_false, go_sem, Nat.reduceEqDiff]
    have gd := gr_trans g2 (gr_drew w2)
    rw [ix22_1 hy.ptr (by omega), ld3 ((hy.gr gd).cell 1 (by omega)), ix22_2 hy.ptr (by omega), ld3 ((hy.gr gd).cell 2 (by omega)), sl22 (by omega) c2 (by omega)]
    have hlen : (seg xs 0 (cs.getD 0 0) ++ rep i (seg xs (cs.getD 0 0) (cs.getD 1 0))).length ≤ 100 + 4 * 100 := by
      rw [List.length_append, rep_length]
      have := Nat.mul_le_mul (show i ≤ 4 by omega) (show (seg xs (cs.getD 0 0) (cs.getD 1 0)).length ≤ 100 by omega)
      omega
    refine apI (o2.gr (gr_drew w2)) (p2.gr gd) rfl (by rw [l2]) (by omega) gd.size fun X3 d3 w3 o3 g3 => ?_
    have g3' := gr_mod gd g3 fun q hq => (Row.ge o2 hq).1
    have hlen3 : (seg xs 0 (cs.getD 0 0) ++ rep i (seg xs (cs.getD 0 0) (cs.getD 1 0)) ++ seg xs (cs.getD 1 0) (cs.getD 2 0)).length ≤ 600 := by
      rw [List.length_append]
      omega
    refine ⟨fun f w' => ∃ (j : Nat) (X' : Option Addr) (c' : Nat), j ≤ i ∧ f 9 = .int .i64 j ∧ f 7 = .slice X' (seg xs 0 (cs.getD 0 0) ++ rep i (seg xs (cs.getD 0 0) (cs.getD 1 0)) ++ seg xs (cs.getD 1 0) (cs.getD 2 0) ++ rep j (seg xs (cs.getD 2 0) (cs.getD 3 0))).length c' ∧ Gr w w' ∧ Own 3 w' w.heap.size X' c' (seg xs 0 (cs.getD 0 0) ++ rep i (seg xs (cs.getD 0 0) (cs.getD 1 0)) ++ seg xs (cs.getD 1 0) (cs.getD 2 0) ++ rep j (seg xs (cs.getD 2 0) (cs.getD 3 0))), fun f _ => i - (intOf (f 9)).toNat,
      ⟨0, X3, d3, Nat.zero_le _, rfl, by simp [rep]; rfl, g3', by simpa [rep] using o3⟩, ?_⟩
    rintro f' w4 hag' ⟨j, X4, d4, hji, h9, h7', g4, o4⟩
    have f0' : f' 0 = .slice X xs.length c := (hag' 0 (by decide)).trans f0
    have f1' : f' 1 = .slice Y cs.length d := (hag' 1 (by decide)).trans f1
    have f2' : f' 2 = .int .i64 i := (hag' 2 (by decide)).trans f2
    simp only [f0', f1', f2', h7', h9, go_sem, Nat.reduceEqDiff]
    have hlen4 : (seg xs 0 (cs.getD 0 0) ++ rep i (seg xs (cs.getD 0 0) (cs.getD 1 0)) ++ seg xs (cs.getD 1 0) (cs.getD 2 0) ++ rep j (seg xs (cs.getD 2 0) (cs.getD 3 0))).length ≤ 600 + 4 * 100 := by
      rw [List.length_append, rep_length j]
      have := Nat.mul_le_mul (show j ≤ 4 by omega) (show (seg xs (cs.getD 2 0) (cs.getD 3 0)).length ≤ 100 by omega)
      omega
    by_cases hlt2 : j < i
    · have hlt' : (j : Int) < i := by omega
      have gd4 := gr_trans g4 (gr_drew w4)
      simp only [hlt', decide_true, go_sem, Nat.reduceEqDiff]
      rw [ix22_2 hy.ptr (by omega), ld3 ((hy.gr gd4).cell 2 (by omega)), ix22_3 hy.ptr (by omega), ld3 ((hy.gr gd4).cell 3 (by omega)), sl22 (by omega) c3 (by omega)]
      refine apI (o4.gr (gr_drew w4)) (p3.gr gd4) rfl (by rw [l3]) (by omega) gd4.size fun X5 d5 w5 o5 g5 => ?_
      rw [i64_of (by omega) (by omega)]
      have g5' := gr_mod gd4 g5 fun q hq => (Row.ge o4 hq).1
      rw [List.append_assoc, ← rep_succ] at o5
      refine ⟨⟨j + 1, X5, d5, hlt2, rfl, by rw [List.append_assoc, ← rep_succ], g5', o5⟩, ?_⟩
      simp only [intOf]
      omega
    · have hji' : j = i := by omega
      subst hji'
      simp only [show ¬ (j : Int) < j from by omega, decide_false, go_sem, Nat.reduceEqDiff]
      rw [ix22_3 hy.ptr (by omega), ld3 ((hy.gr g4).cell 3 (by omega)), sll22 (by omega) c4]
      refine apI o4 (p4.gr g4) rfl (by rw [l4]; simp) (by omega) g4.size fun X5 d5 w5 o5 g5 => ?_
      exact hk X5 d5 w5 (gr_mod g4 g5 fun q hq => (Row.ge o4 hq).1) o5
end Go.Proofs.Ytiohaeckagjebaa
