/- Contracts: reading slices of numbers; the small functions of the laws. -/
import Derived.Test.YtiohaeckagjebaaShT
import Derived.Test.YtiohaeckagjebaaBa
set_option linter.unusedVariables false
set_option linter.unusedSimpArgs false
set_option maxRecDepth 100000
namespace Go.Sh
open Go
/-- A slice of ints that is read. -/
structure Ints (w : World) (X : Option Addr) (xs : List Int) : Prop where
  le : xs.length ≤ 9223372036854775807
  ptr : 0 < xs.length → X = some (ad X)
  cell : ∀ j, j < xs.length → w.cell? ((ad X).add j) = some (.int .i64 (xs.getD j 0))
theorem Ints.gr {w w' : World} {X : Option Addr} {xs : List Int} (h : Ints w X xs) (g : Gr w w') : Ints w' X xs := ⟨h.le, h.ptr, fun j hj => g.cell (h.cell j hj)⟩
theorem i64_of {n : Int} (h0 : -9223372036854775808 ≤ n) (h1 : n ≤ 9223372036854775807) : IntKind.i64.wrap n = n := IntWalk.i64_in n ⟨by omega, by omega⟩
theorem take_snoc {xs : List Int} {i : Nat} (h : i < xs.length) : xs.take (i + 1) = xs.take i ++ [xs.getD i 0] := by
  rw [List.take_succ_eq_append_getElem h]
  simp [List.getD_eq_getElem?_getD, h]
def ints (xs : List Int) : List Value := xs.map (Value.int .i64)
theorem ints_length (xs : List Int) : (ints xs).length = xs.length := by simp [ints]
theorem ints_append (xs ys : List Int) : ints (xs ++ ys) = ints xs ++ ints ys := by simp [ints]
theorem ints_at {xs : List Int} {j : Nat} (h : j < xs.length) : (ints xs)[j]? = some (.int .i64 (xs.getD j 0)) := by simp [ints, List.getD_eq_getElem?_getD, h]
theorem ints_one (xs : List Int) : ∀ v ∈ ints xs, v.oneCell' = true := by
  intro v hv
  obtain ⟨x, _, rfl⟩ := List.mem_map.1 hv
  rfl
theorem Ints.src {w : World} {X : Option Addr} {xs : List Int} (h : Ints w X xs) : Src w X (ints xs) := by
  refine ⟨fun hn => h.ptr ?_, fun j u hu => ?_⟩
  · cases xs with
    | nil => exact absurd rfl hn
    | cons x xs => simp
  · have hj : j < xs.length := by
      have := (List.getElem?_eq_some_iff.1 hu).1
      rwa [ints_length] at this
    rw [ints_at hj] at hu
    exact (h.cell j hj).trans hu
theorem Ints.of_src {w : World} {X : Option Addr} {xs : List Int} (h : Src w X (ints xs)) (hl : xs.length ≤ 9223372036854775807) : Ints w X xs := by
  refine ⟨hl, fun hp => h.ptr ?_, fun j hj => h.cell j _ (ints_at hj)⟩
  cases xs with
  | nil => simp at hp
  | cons x xs => simp [ints]
theorem Ints.sub {w : World} {X : Option Addr} {xs : List Int} (h : Ints w X xs) {l c : Nat} (hl : l ≤ xs.length) (hc : xs.length ≤ c) (m : Nat) : Ints w (sub X l c 1) ((xs.drop l).take m) := by
  refine Ints.of_src ?_ (by have := h.le; simp; omega)
  have := h.src.sub (l := l) (c := c) (sz := 1) (by rw [ints_length]; omega) (by rw [ints_length]; omega) m
  rw [Nat.mul_one] at this
  simpa [ints] using this
/-- A slice of ints of the call's own. -/
abbrev Own (e : Nat) (w : World) (B : Nat) (X : Option Addr) (c : Nat) (xs : List Int) : Prop := Row w B e 1 X xs.length c (ints xs)
theorem Own.ints {e : Nat} {w : World} {B c : Nat} {X : Option Addr} {xs : List Int} (h : Own e w B X c xs) : Ints w X xs := Ints.of_src h.src (by have := Row.cap h; omega)
theorem callV {P : Program} {g : FuncId} {a b : Array Value} {args : List Value} {t : TypeId} {k : Value → World → Prop} {w : World} (h : CallK P g (a.toList ++ args ++ b.toList) k w) : Do P (sCallV (.func (.func g) a b) args t) k w := by
  obtain ⟨⟨fn, hf, hbody, hname⟩, hc⟩ := h
  have h1 : ¬ fn.name = "runtime.NumGoroutine" := by simpa using hname
  have h2 : ¬ fn.body = none := by
    intro e
    rw [e] at hbody
    cases hbody
  have e' : (sCallV (.func (.func g) a b) args t).run P w = .ok (.enter g (a ++ args.toArray ++ b)) w := by
    simp [sCallV, Deferred.ofValue, invoke, callFunc, program, hf, h1, h2, Sem.run]
  unfold Do
  rw [e']
  have e2 : (a.toList ++ args ++ b.toList).toArray = a ++ args.toArray ++ b := by simp
  rw [e2] at hc
  exact hc
theorem callV0 {P : Program} {g : FuncId} {args : List Value} {t : TypeId} {k : Value → World → Prop} {w : World} (h : CallK P g args k w) : Do P (sCallV (.func (.func g) #[] #[]) args t) k w :=
  callV (a := #[]) (b := #[]) (by
    have e : (#[] : Array Value).toList ++ args ++ (#[] : Array Value).toList = args := by simp
    rw [e]
    exact h)
theorem callVc {P : Program} {g : FuncId} {args caps : List Value} {t : TypeId} {k : Value → World → Prop} {w : World} (h : CallK P g (args ++ caps) k w) : Do P (sCallV (.func (.func g) #[] caps.toArray) args t) k w :=
  callV (a := #[]) (b := caps.toArray) (by
    have e : (#[] : Array Value).toList ++ args ++ caps.toArray.toList = args ++ caps := by simp
    rw [e]
    exact h)
def inB (n lo hi : Int) : Bool := decide (lo ≤ n) && decide (n ≤ hi)
def allB (xs : List Int) (lo hi : Int) : Bool := xs.all (inB · lo hi)
theorem getD_mem {xs : List Int} {i : Nat} (h : i < xs.length) : xs.getD i 0 ∈ xs := by
  rw [List.getD_eq_getElem?_getD, List.getElem?_eq_getElem h]
  exact List.getElem_mem h
theorem all_of {xs : List Int} {p : Int → Bool} (h : ∀ j, j < xs.length → p (xs.getD j 0) = true) : xs.all p = true := by
  rw [List.all_eq_true]
  intro x hx
  obtain ⟨j, hj, rfl⟩ := List.getElem_of_mem hx
  have := h j hj
  rwa [List.getD_eq_getElem?_getD, List.getElem?_eq_getElem hj] at this
theorem not_all_of {xs : List Int} {p : Int → Bool} {i : Nat} (hi : i < xs.length) (h : p (xs.getD i 0) = false) : xs.all p = false := by
  rw [List.all_eq_false]
  exact ⟨_, getD_mem hi, by rw [h]; decide⟩
end Go.Sh
namespace Go.Proofs.Ytiohaeckagjebaa
open Go Go.Sh Go.RowKit

theorem in_c {n lo hi : Int} {w : World} {k : Value → World → Prop} (hk : k (.bool (inB n lo hi)) w) : CallK Try.prog 103 [.int .i64 n, .int .i64 lo, .int .i64 hi] k w := by
  refine enter103 ?_
  unfold S103
  unfold inB at hk
  simp only [go_sem, Nat.reduceEqDiff]
  by_cases h : lo ≤ n
  · simp only [h, decide_true, go_sem, Nat.reduceEqDiff, Bool.true_and] at hk ⊢
    exact hk
  · simp only [h, decide_false, go_sem, Nat.reduceEqDiff, Bool.false_and] at hk ⊢
    exact hk
theorem l1In_c {n lo hi : Int} {w : World} {k : Value → World → Prop} (hk : k (.bool (inB n lo hi)) w) : CallK Try.prog 77 [.int .i64 n, .int .i64 lo, .int .i64 hi] k w := by
  refine enter77 ?_
  unfold S77
  unfold inB at hk
  simp only [go_sem, Nat.reduceEqDiff]
  by_cases h : lo ≤ n
  · simp only [h, decide_true, go_sem, Nat.reduceEqDiff, Bool.true_and] at hk ⊢
    exact hk
  · simp only [h, decide_false, go_sem, Nat.reduceEqDiff, Bool.false_and] at hk ⊢
    exact hk

theorem eqIntS_c {w : World} {X Y : Option Addr} {c d : Nat} {xs ys : List Int} (hx : Ints w X xs) (hy : Ints w Y ys) {k : Value → World → Prop} (hk : ∀ w', Gr w w' → k (.bool (decide (xs = ys))) w') :
    CallK Try.prog 26 [.slice X xs.length c, .slice Y ys.length d] k w := by
  refine enter26 ?_
  unfold S26
  simp only [go_sem, Nat.reduceEqDiff]
  by_cases hl : xs.length = ys.length
  · simp only [Int.ofNat_inj, hl, decide_true, Bool.not_true, go_sem, Nat.reduceEqDiff]
    rw [← hl]
    refine ⟨fun f w' => ∃ i : Nat, i ≤ xs.length ∧ f 5 = .int .i64 i ∧ Gr w w' ∧ xs.take i = ys.take i, fun f _ => xs.length - (intOf (f 5)).toNat, ⟨0, Nat.zero_le _, rfl, Gr.refl w, rfl⟩, ?_⟩
    rintro f w1 hag ⟨i, hi, h5, hg, hpre⟩
    have h0 : f 0 = .slice X xs.length c := hag 0 (by decide)
    have h1 : f 1 = .slice Y xs.length d := hag 1 (by decide)
    simp only [h0, h1, h5, go_sem, Nat.reduceEqDiff]
    by_cases hlt : i < xs.length
    · have hlt' : (i : Int) < xs.length := by omega
      have := hx.le
      simp only [hlt', decide_true, go_sem, Nat.reduceEqDiff]
      rw [ixn22 hx.ptr hlt, ld3 ((hx.gr (gr_trans hg (gr_drew w1))).cell i hlt), ixn22 (hl ▸ hy.ptr) hlt, ld3 ((hy.gr (gr_trans hg (gr_drew w1))).cell i (by omega))]
      simp only [go_sem, Nat.reduceEqDiff]
      by_cases he : xs.getD i 0 = ys.getD i 0
      · simp only [he, decide_true, Bool.not_true, go_sem, Nat.reduceEqDiff]
        rw [i64_of (by omega) (by omega)]
        refine ⟨⟨i + 1, hlt, rfl, gr_trans hg (gr_drew w1), ?_⟩, ?_⟩
        · rw [take_snoc hlt, take_snoc (by omega), hpre, he]
        · simp only [intOf]
          omega
      · simp only [he, decide_false, Bool.not_false, go_sem, Nat.reduceEqDiff]
        have := hk _ (gr_trans hg (gr_drew w1))
        rwa [decide_eq_false (fun e => he (by rw [e]))] at this
    · simp only [show ¬ (i : Int) < xs.length from by omega, decide_false, go_sem, Nat.reduceEqDiff]
      have := hk _ hg
      rwa [decide_eq_true] at this
      rwa [List.take_of_length_le (by omega), List.take_of_length_le (by omega)] at hpre
  · simp only [Int.ofNat_inj, hl, decide_false, Bool.not_false, go_sem, Nat.reduceEqDiff]
    have := hk _ (Gr.refl w)
    rwa [decide_eq_false (fun e => hl (by rw [e]))] at this

theorem l1All_c {w : World} {X : Option Addr} {c : Nat} {xs : List Int} {lo hi : Int} (hx : Ints w X xs) {k : Value → World → Prop} (hk : ∀ w', Gr w w' → k (.bool (allB xs lo hi)) w') :
    CallK Try.prog 75 [.slice X xs.length c, .int .i64 lo, .int .i64 hi] k w := by
  refine enter75 ?_
  unfold S75
  simp only [go_sem, Nat.reduceEqDiff]
  refine ⟨fun f w' => ∃ i : Nat, i ≤ xs.length ∧ f 11 = .int .i64 i ∧ Gr w w' ∧ ∀ j, j < i → inB (xs.getD j 0) lo hi = true, fun f _ => xs.length - (intOf (f 11)).toNat, ⟨0, Nat.zero_le _, rfl, Gr.refl w, fun j hj => absurd hj (Nat.not_lt_zero j)⟩, ?_⟩
  rintro f w1 hag ⟨i, hi', h11, hg, hpre⟩
  have h1 : f 1 = .int .i64 lo := hag 1 (by decide)
  have h2 : f 2 = .int .i64 hi := hag 2 (by decide)
  have h9 : f 9 = .slice X xs.length c := hag 9 (by decide)
  have h10 : f 10 = .int .i64 xs.length := hag 10 (by decide)
  simp only [h1, h2, h9, h10, h11, go_sem, Nat.reduceEqDiff]
  by_cases hlt : i < xs.length
  · have hlt' : (i : Int) < xs.length := by omega
    have := hx.le
    simp only [hlt', decide_true, go_sem, Nat.reduceEqDiff]
    rw [ixn22 hx.ptr hlt, ld3 ((hx.gr hg).cell i hlt)]
    refine l1In_c ?_
    simp only [go_sem, Nat.reduceEqDiff]
    cases hb : inB (xs.getD i 0) lo hi
    · simp only [Bool.not_false, go_sem, Nat.reduceEqDiff]
      have := hk _ hg
      rwa [show allB xs lo hi = false from not_all_of hlt hb] at this
    · simp only [Bool.not_true, go_sem, Nat.reduceEqDiff]
      rw [i64_of (by omega) (by omega)]
      refine ⟨⟨i + 1, hlt, rfl, hg, fun j hj => ?_⟩, ?_⟩
      · rcases Nat.lt_succ_iff_lt_or_eq.1 hj with h | rfl
        · exact hpre j h
        · exact hb
      · simp only [intOf]
        omega
  · simp only [show ¬ (i : Int) < xs.length from by omega, decide_false, go_sem, Nat.reduceEqDiff]
    have := hk _ hg
    rwa [show allB xs lo hi = true from all_of fun j hj => hpre j (by omega)] at this
end Go.Proofs.Ytiohaeckagjebaa
