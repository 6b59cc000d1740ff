/- Texts of this repository put together: ShX6, ShQ1, ShQ2, Bf, ShS1, ShX7, ShQ3, ShQ4, ShQ5, ShQ6, ShQ7, ShQ8, ShS2, ShS3, ShX8, ShS4, ShC3, ShC5, ShT1, ShX9, ShX3, Bj, ShX5, ShXA, ShXB, ShXL, ShR, ShRG, ShIO. -/
import Derived.Test.YtiohaeckagjebaaK16b
import Derived.Test.YtiohaeckagjebaaProg
import Derived.Test.YtiohaeckagjebaaK16a
import Derived.WideKeyArr
import Derived.WideMake
import Derived.WalkKit
import Derived.ProofKit
import Derived.OpenShut
import Derived.ShutString
import Derived.ChangeOld
import Derived.Below
import Derived.SizedLaws
import Derived.Deep.Slices
import Derived.Deep.SlicePairs
import Derived.Deep.Strs
import Derived.Test.YtiohaeckagjebaaRows
import Derived.JoinedOf
import Derived.KernelRfl

/- A family of slices of numbers that are owned (their heads lie elsewhere). -/
set_option linter.unusedVariables false
set_option linter.unusedSimpArgs false
set_option maxRecDepth 100000
namespace Go.Sh
open Go
structure Fam (e : Nat) (w : World) (B : Nat) (ls : List (List Int)) (ps : Nat → Option Addr × Nat) : Prop where
  own : ∀ j, j < ls.length → Own e w B (ps j).1 (ps j).2 (rgt ls j)
  two : ∀ i j, i < ls.length → j < ls.length → i ≠ j → blk (ps i).1 = none ∨ blk (ps i).1 ≠ blk (ps j).1
def FootL (ps : Nat → Option Addr × Nat) (n q : Nat) : Prop := ∃ l, l < n ∧ blk (ps l).1 = some q
section
variable {e B B' : Nat} {w w' w0 : World} {ls : List (List Int)} {ps : Nat → Option Addr × Nat} {L : List Thing}
theorem Fam.same (h : Fam e w B ls ps) (hs : ∀ q, FootL ps ls.length q → w'.heap[q]? = w.heap[q]?) : Fam e w' B ls ps :=
  ⟨fun j hj => Row.same (h.own j hj) fun q hq => hs q ⟨j, hj, hq⟩, h.two⟩
theorem Fam.up (h : Fam e w B ls ps) (hs : ∀ q, FootL ps ls.length q → B' ≤ q) : Fam e w B' ls ps :=
  ⟨fun j hj => Row.up (h.own j hj) fun q hq => hs q ⟨j, hj, hq⟩, h.two⟩
theorem Fam.mono (h : Fam e w B ls ps) (hb : B' ≤ B) : Fam e w B' ls ps := ⟨fun j hj => Row.mono (h.own j hj) hb, h.two⟩
theorem Fam.foot (h : Fam e w B ls ps) {q : Nat} (hq : FootL ps ls.length q) : B ≤ q ∧ q < w.heap.size := by
  obtain ⟨l, hl, hq⟩ := hq
  exact Row.ge (h.own l hl) hq
def fami (e : Nat) (ls : List (List Int)) (ps : Nat → Option Addr × Nat) : Thing := ⟨fun w => Fam e w 0 ls ps, FootL ps ls.length⟩
theorem fami_kept (h : Fam e w B ls ps) : ∀ w', (∀ q, (fami e ls ps).ft q → w'.heap[q]? = w.heap[q]?) → (fami e ls ps).P w' := fun w' hq => (h.mono (Nat.zero_le B)).same hq
theorem Apt.fam (H : Apt w0 w L) (i : Nat) (hi : L[i]? = some (fami e ls ps)) : Fam e w w0.heap.size ls ps := Fam.up (H.get i hi) (H.ok i _ hi).lo
theorem Apt.addFam (H : Apt w0 w L) (e : Nat) (ps : Nat → Option Addr × Nat) : Apt w0 w (L ++ [fami e [] ps]) :=
  H.add (Gr.refl w) _ (fun q hq => by obtain ⟨l, hl, _⟩ := hq; simp at hl) (fun q hq => by obtain ⟨l, hl, _⟩ := hq; simp at hl) fun w'' _ => ⟨fun j hj => by simp at hj, fun i j hi => by simp at hi⟩
/-- One more slice comes to the family. -/
theorem Apt.famPush (H : Apt w0 w L) {i j : Nat} (hij : i ≠ j) {d : Nat} {Y : Option Addr} {ys : List Int} (hi : L[i]? = some (fami e ls ps)) (hj : L[j]? = some (rwi e 1 Y ys.length d (Sh.ints ys))) : Apt w0 w ((L.set i (fami e (ls ++ [ys]) fun l => if l = ls.length then (Y, d) else ps l)).set j emp) := by
  have f := H.fam i hi
  have o := H.row j hj
  have hne : ∀ l, l < ls.length → blk (ps l).1 = none ∨ blk (ps l).1 ≠ blk Y := fun l hl => by
    cases hq : blk (ps l).1 with
    | none => exact .inl rfl
    | some q => exact .inr fun e' => H.two i j _ _ hij hi hj q ⟨l, hl, hq⟩ (show blk Y = some q from e'.symm)
  have f' : Fam e w w0.heap.size (ls ++ [ys]) fun l => if l = ls.length then (Y, d) else ps l := by
    refine ⟨fun l hl => ?_, fun a b ha hb hab => ?_⟩
    · by_cases h1 : l < ls.length
      · rw [if_neg (by omega), rgt_left h1]
        exact f.own l h1
      · obtain rfl : l = ls.length := by simp at hl; omega
        rw [if_pos rfl, rgt_last]
        exact o
    · rw [List.length_append] at ha hb
      simp only [List.length_cons, List.length_nil] at ha hb
      by_cases h1 : a < ls.length <;> by_cases h2 : b < ls.length
      · rw [if_neg (by omega), if_neg (by omega)]
        exact f.two a b h1 h2 hab
      · obtain rfl : b = ls.length := by omega
        rw [if_neg (by omega), if_pos rfl]
        exact hne a h1
      · obtain rfl : a = ls.length := by omega
        rw [if_pos rfl, if_neg (by omega)]
        exact blk_sym (hne b h2)
      · omega
  refine H.join hij hi hj (Gx.refl _ w) (fun q hq => ?_) (fun q hq => (f'.foot hq).2) (fami_kept f')
  obtain ⟨l, hl, hq⟩ := hq
  rw [List.length_append] at hl
  simp only [List.length_cons, List.length_nil] at hl
  by_cases h1 : l = ls.length
  · subst h1
    simp only [if_true] at hq
    exact .inr (.inl hq)
  · simp only [h1, if_false] at hq
    exact .inl ⟨l, by omega, hq⟩
end
end Go.Sh
namespace Go.Proofs.Ytiohaeckagjebaa
open Go Go.Sh Go.RowKit
/-- A store of one number into one slice of the family. -/
theorem famPut {k : Value → World → Prop} {w0 w : World} {L : List Thing} (H : Apt w0 w L) (i j : Nat) {m : Nat} {ls : List (List Int)} {ps : Nat → Option Addr × Nat} {x : Int} (hi : L[i]? = some (fami 3 ls ps)) (hj : j < ls.length) (hm : m < (rgt ls j).length)
    (h : ∀ w', Apt w0 w' (L.set i (fami 3 (ls.set j ((rgt ls j).set m x)) ps)) → k undef w') : Do Try.prog (sStore 3 (.pointer (some ((ad (ps j).1).add m))) (.int .i64 x)) k w := by
  have f := H.fam i hi
  refine do_store_row sz3 rfl rfl (f.own j hj) (by omega) fun w' g hs hr => ?_
  have hr' : Row w' w0.heap.size 3 1 (ps j).1 (rgt ls j).length (ps j).2 (ints ((rgt ls j).set m x)) := by
    rw [show ints ((rgt ls j).set m x) = (ints (rgt ls j)).set m (.int .i64 x) from by simp [ints]]
    exact hr
  have hg : ∀ l, rgt (ls.set j ((rgt ls j).set m x)) l = if l = j then (rgt ls j).set m x else rgt ls l := fun l => by
    simp only [rgt, List.getD_eq_getElem?_getD, List.getElem?_set]
    by_cases hij : j = l
    · subst hij
      simp [hj]
    · rw [if_neg hij, if_neg (fun e => hij e.symm)]
  have f' : Fam 3 w' w0.heap.size (ls.set j ((rgt ls j).set m x)) ps := by
    refine ⟨fun l hl => ?_, fun a b ha hb hab => ?_⟩
    · rw [List.length_set] at hl
      rw [hg l]
      by_cases hlj : l = j
      · subst hlj
        rw [if_pos rfl]
        unfold Own
        rw [List.length_set]
        exact hr'
      · rw [if_neg hlj]
        exact Row.kept (f.own l hl) g (f.two l j hl hj hlj)
    · rw [List.length_set] at ha hb
      exact f.two a b ha hb hab
  refine h w' (H.set hi (gx_of g fun q hq => ⟨j, hj, hq⟩) (fun q hq => .inl ?_) (fun q hq => (f'.foot hq).2) (fami_kept f'))
  obtain ⟨l, hl, hq⟩ := hq
  rw [List.length_set] at hl
  exact ⟨l, hl, hq⟩
end Go.Proofs.Ytiohaeckagjebaa

/- Contracts: where a tree ends (the reference). -/
set_option linter.unusedVariables false
set_option linter.unusedSimpArgs false
set_option maxRecDepth 100000
namespace Go.Sh
open Go
end Go.Sh
namespace Go.Proofs.Ytiohaeckagjebaa
open Go Go.Sh Go.RowKit

end Go.Proofs.Ytiohaeckagjebaa

/- Contracts: whether a tree is one, its parts, by the reference. -/
set_option linter.unusedVariables false
set_option linter.unusedSimpArgs false
set_option maxRecDepth 100000
namespace Go.Sh
open Go
theorem good_nons {g : Gram} (hg : goodG g = true) : 1 ≤ g.nons ∧ g.nons ≤ 6 := by
  simp only [goodG, inB, Bool.and_eq_true, decide_eq_true_eq] at hg
  exact hg.1.1.1
theorem good_toks {g : Gram} (hg : goodG g = true) : 1 ≤ g.toks ∧ g.toks ≤ 4 := by
  simp only [goodG, inB, Bool.and_eq_true, decide_eq_true_eq] at hg
  exact hg.1.1.2
def isT (gm : Gram) (tree : List Int) : Bool := decide (0 < tree.length) && decide (endT gm.rules tree tree.length 0 0 = some tree.length)
def askedT (gm : Gram) (tree : List Int) : Bool := goodG gm && decide (tree.length ≤ 60) && isT gm tree
end Go.Sh
namespace Go.Proofs.Ytiohaeckagjebaa
open Go Go.Sh Go.RowKit

end Go.Proofs.Ytiohaeckagjebaa

/- Bf: bodies of functions as terms of the frame calculus, printed by shgen.py of this repository. -/
set_option linter.unusedVariables false
set_option maxRecDepth 100000
namespace Go.Proofs.Ytiohaeckagjebaa
open Go Go.Sh

/-! loop.example/g00758/laws.FnExactIsPump -/
/-! loop.example/g00758/spec.IsPump -/
/-! loop.example/g00758/impl.IsPump -/
/-! loop.example/g00758/impl.isWord -/
def pl99 : Plans := fun _ => ⟨false, [], .nil⟩
def S99 (v0 v1 : Value) (k : Value → World → Prop) (w : World) : Prop :=
 Do Try.prog (sBox 3 v0) (fun t1 w2 =>
 Rd Try.prog (WS.at w2) (sBuiltin .len #[22] 3 [false] [v1]) fun t3 =>
 Rd Try.prog (WS.at w2) (sBin .leq 3 true t3 (.int .i64 10)) fun t4 =>
 GuardK t4 true (fun k w' => k v1 w') (fun t5 w6 =>
 GuardK t4 true (fun k w' => Rd Try.prog (WS.at w6) (sMakeFunc (.func 146) [] [t1]) fun v => k v w') (fun t7 w8 =>
 GuardK t4 true (fun k w' => CallK Try.prog 129 [t5, t7] k w') (fun t9 w10 =>
 GuardK t4 true (fun k w' => Rd Try.prog (WS.at w10) (sUn .not t9) fun v => k v w') (fun t11 w12 =>
 Rd Try.prog (WS.at w12) (sPick t4 t11 (.bool false)) fun t13 =>
 k t13 w12) w10) w8) w6) w2) w
theorem body99 : Try.f99.body = some (bodyOf Try.f99) := by kernel_rfl
theorem same99 (v0 v1 : Value) (k : Value → World → Prop) (w : World) : wpF Try.prog pl99 (bodyOf Try.f99) (bodyQ Try.prog Try.f99.results.toList k) (initF [v0, v1]) w = S99 v0 v1 k w := by kernel_rfl
theorem enter99 {v0 v1 : Value} {k : Value → World → Prop} {w : World} (h : S99 v0 v1 k w) : CallK Try.prog 99 [v0, v1] k w :=
  call_of_wpF (pl := pl99) mixed Try.func99 body99 (by kernel_rfl) (of_decide_eq_true (by kernel_rfl)) (by kernel_rfl) (by kernel_rfl) (same99 v0 v1 k w ▸ h)

/-! loop.example/g00758/spec.GoodWord -/
def pl101 : Plans := fun _ => ⟨false, [], .nil⟩
def S101 (v0 v1 : Value) (k : Value → World → Prop) (w : World) : Prop :=
 Do Try.prog (sBox 37 v0) (fun t1 w2 =>
 Rd Try.prog (WS.at w2) (sLoad 37 t1) fun t3 =>
 CallK Try.prog 81 [t3] (fun t4 w5 =>
 GuardK t4 true (fun k w' => Rd Try.prog (WS.at w5) (sLoad 37 t1) fun v => k v w') (fun t6 w7 =>
 GuardK t4 true (fun k w' => k v1 w') (fun t8 w9 =>
 GuardK t4 true (fun k w' => CallK Try.prog 112 [t6, t8] k w') (fun t10 w11 =>
 Rd Try.prog (WS.at w11) (sPick t4 t10 (.bool false)) fun t12 =>
 k t12 w11) w9) w7) w5) w2) w
theorem body101 : Try.f101.body = some (bodyOf Try.f101) := by kernel_rfl
theorem same101 (v0 v1 : Value) (k : Value → World → Prop) (w : World) : wpF Try.prog pl101 (bodyOf Try.f101) (bodyQ Try.prog Try.f101.results.toList k) (initF [v0, v1]) w = S101 v0 v1 k w := by kernel_rfl
theorem enter101 {v0 v1 : Value} {k : Value → World → Prop} {w : World} (h : S101 v0 v1 k w) : CallK Try.prog 101 [v0, v1] k w :=
  call_of_wpF (pl := pl101) mixed Try.func101 body101 (by kernel_rfl) (of_decide_eq_true (by kernel_rfl)) (by kernel_rfl) (by kernel_rfl) (same101 v0 v1 k w ▸ h)

/-! loop.example/g00758/spec.l4In -/
/-! (loop.example/g00758/impl.Grammar).spans -/
def pl104 : Plans := fun i => match i with
  | 14 => ⟨false, [18], .step 0 .any (.step 1 .any (.step 2 .held (.step 3 .any (.step 4 .any (.step 5 .any (.step 6 .any (.step 7 .any (.step 8 .any (.step 9 .any (.step 10 .held (.step 11 .any (.step 12 .any (.step 13 .any (.step 14 .any (.step 15 .held (.step 16 .any (.step 17 .any (.step 18 .last (.step 19 .any (.nil))))))))))))))))))))⟩
  | 15 => ⟨false, [10], .step 0 .any (.step 1 .any (.step 2 .held (.step 3 .any (.step 4 .any (.step 5 .any (.step 6 .any (.step 7 .any (.step 8 .any (.step 9 .any (.step 10 .last (.nil)))))))))))⟩
  | _ => ⟨false, [], .nil⟩
def S104 (v0 v1 : Value) (k : Value → World → Prop) (w : World) : Prop :=
 Do Try.prog (sBox 37 v0) (fun t1 w2 =>
 Rd Try.prog (WS.at w2) (sBuild 111 [(0, v1)]) fun t3 =>
 Do Try.prog (sBox 111 t3) (fun t4 w5 =>
 LoopF [14, 6, 15, 16, 17, 18, 19, 20, 21, 8, 22, 23, 24, 25, 26, 27, 9, 28, 10, 29, 30, 31, 32, 35, 36, 37, 38, 39, 40, 41, 42, 43, 44, 45, 46, 47, 48, 49, 50, 51, 52, 53, 54, 55, 56, 57, 58, 59, 60, 61, 62, 63, 64, 6, 33, 34, 10, 65, 25, 66, 18] (fun Q6 f7 w8 =>
  CondK (f7 6)
   (Rd Try.prog (WS.at w8) (sFieldAddr 37 (f7 2) 2) fun t9 =>
   Rd Try.prog (WS.at w8) (sLoad 35 t9) fun t10 =>
   Rd Try.prog (WS.at w8) (sBuiltin .len #[35] 3 [false] [t10]) fun t11 =>
   LoopF [19, 20, 21, 8, 22, 23, 24, 25, 26, 27, 9, 28, 10, 29, 30, 31, 32, 35, 36, 37, 38, 39, 40, 41, 42, 43, 44, 45, 46, 47, 48, 49, 50, 51, 52, 53, 54, 55, 56, 57, 58, 59, 60, 61, 62, 63, 64, 6, 33, 34, 10, 65, 25, 66, 18] (fun Q12 f13 w14 =>
    Rd Try.prog (WS.at w14) (sBin .lss 3 false (f13 18) (f13 17)) fun t15 =>
    CondK t15
     (Rd Try.prog (WS.at w14) (sIndexAddr 35 (f13 16) (f13 18)) fun t16 =>
     Rd Try.prog (WS.at w14) (sLoad 77 t16) fun t17 =>
     Do Try.prog (sAlloc 77) (fun t18 w19 =>
     Do Try.prog (sStore 77 t18 t17) (fun _ w20 =>
     Rd Try.prog (WS.at w20) (sBuiltin .len #[22] 3 [false] [(f13 1)]) fun t21 =>
     Rd Try.prog (WS.at w20) (sBin .add 3 true t21 (.int .i64 1)) fun t22 =>
     LoopF [26, 27, 9, 28, 10, 29, 30, 31, 32, 35, 36, 37, 38, 39, 40, 41, 42, 43, 44, 45, 46, 47, 48, 49, 50, 51, 52, 53, 54, 55, 56, 57, 58, 59, 60, 61, 62, 63, 64, 6, 33, 34, 10, 65, 25] (fun Q23 f24 w25 =>
      Rd Try.prog (WS.at w25) (sBin .lss 3 false (f24 25) (f24 24)) fun t26 =>
      CondK t26
       (LoopF [29, 30, 31, 32, 35, 36, 37, 38, 39, 40, 41, 42, 43, 44, 45, 46, 47, 48, 49, 50, 51, 52, 53, 54, 55, 56, 57, 58, 59, 60, 61, 62, 63, 64, 6, 33, 34, 10] (fun Q27 f28 w29 =>
        Rd Try.prog (WS.at w29) (sBuiltin .len #[22] 3 [false] [(f28 1)]) fun t30 =>
        Rd Try.prog (WS.at w29) (sBin .leq 3 false (f28 10) t30) fun t31 =>
        CondK t31
         (Join (fun K32 =>
         Rd Try.prog WS.any (sFieldAddr 77 (f28 8) 0) fun t35 =>
         Rd Try.prog (WS.at w29.drew) (sLoad 3 t35) fun t36 =>
         Rd Try.prog WS.any (sNilCheck (f28 5)) fun t37 =>
         Rd Try.prog WS.any (sFieldAddr 111 t37 1) fun t38 =>
         Rd Try.prog WS.any (sIndexAddr 109 t38 t36) fun t39 =>
         Rd Try.prog WS.any (sIndexAddr 108 t39 (f28 9)) fun t40 =>
         Rd Try.prog WS.any (sIndexAddr 107 t40 (f28 10)) fun t41 =>
         Rd Try.prog (WS.at w29.drew) (sLoad 4 t41) fun t42 =>
         Rd Try.prog WS.any (sUn .not t42) fun t43 =>
         GuardK t43 true (fun k w' => k (f28 5) w') (fun t44 w45 =>
         GuardK t43 true (fun k w' => Rd Try.prog WS.any (sFieldAddr 77 (f28 8) 1) fun v => k v w') (fun t46 w47 =>
         GuardK t43 true (fun k w' => Rd Try.prog (WS.at w29.drew) (sLoad 22 t46) fun v => k v w') (fun t48 w49 =>
         GuardK t43 true (fun k w' => k (f28 9) w') (fun t50 w51 =>
         GuardK t43 true (fun k w' => k (f28 10) w') (fun t52 w53 =>
         GuardK t43 true (fun k w' => CallK Try.prog 149 [t44, t48, t50, t52] k w') (fun t54 w55 =>
         Rd Try.prog WS.any (sPick t43 t54 (.bool false)) fun t56 =>
         CondK t56
          (Rd Try.prog WS.any (sFieldAddr 77 (f28 8) 0) fun t57 =>
          Rd Try.prog (WS.at w55.drew) (sLoad 3 t57) fun t58 =>
          Rd Try.prog WS.any (sNilCheck (f28 5)) fun t59 =>
          Rd Try.prog WS.any (sFieldAddr 111 t59 1) fun t60 =>
          Rd Try.prog WS.any (sIndexAddr 109 t60 t58) fun t61 =>
          Rd Try.prog WS.any (sIndexAddr 108 t61 (f28 9)) fun t62 =>
          Rd Try.prog WS.any (sIndexAddr 107 t62 (f28 10)) fun t63 =>
          Do Try.prog (sStore 4 t63 (.bool true)) (fun _ w64 =>
          K32 (F.upd (F.upd (F.upd (F.upd (F.upd (F.upd (F.upd (F.upd (F.upd (F.upd (F.upd (F.upd (F.upd (F.upd (F.upd (F.upd (F.upd (F.upd (F.upd (F.upd (F.upd (F.upd (F.upd (F.upd (F.upd (F.upd (F.upd (F.upd (F.upd (F.upd (F.upd (F.upd (F.upd (F.upd (F.upd f28 29 (f28 10)) 30 (f28 1)) 31 t30) 32 t31) 35 (f28 5)) 36 t35) 37 t36) 38 (f28 9)) 39 (f28 10)) 40 t37) 41 t38) 42 t39) 43 t40) 44 t41) 45 t42) 46 t43) 47 t43) 48 t44) 49 t46) 50 t48) 51 t50) 52 t52) 53 t54) 54 t56) 55 (f28 5)) 56 t57) 57 t58) 58 (f28 9)) 59 (f28 10)) 60 t59) 61 t60) 62 t61) 63 t62) 64 t63) 6 (.bool true)) w64) w55.drew)
          (K32 (F.upd (F.upd (F.upd (F.upd (F.upd (F.upd (F.upd (F.upd (F.upd (F.upd (F.upd (F.upd (F.upd (F.upd (F.upd (F.upd (F.upd (F.upd (F.upd (F.upd (F.upd (F.upd (F.upd (F.upd f28 29 (f28 10)) 30 (f28 1)) 31 t30) 32 t31) 35 (f28 5)) 36 t35) 37 t36) 38 (f28 9)) 39 (f28 10)) 40 t37) 41 t38) 42 t39) 43 t40) 44 t41) 45 t42) 46 t43) 47 t43) 48 t44) 49 t46) 50 t48) 51 t50) 52 t52) 53 t54) 54 t56) w55)) w53) w51) w49) w47) w45) w29.drew) (fun f33 w34 =>
         Rd Try.prog (WS.at w34) (sBin .add 3 true (f33 10) (.int .i64 1)) fun t65 =>
         Q27 .normal (F.upd (F.upd (F.upd f33 33 (f33 10)) 34 t65) 10 t65) w34))
         (Q27 (.exit 6) (F.upd (F.upd (F.upd (F.upd f28 29 (f28 10)) 30 (f28 1)) 31 t30) 32 t31) w29))
        (blockQ 6 (blockQ 5 (seqQ (fun f66 w67 =>
       Rd Try.prog (WS.at w67) (sBin .add 3 true (f66 25) (.int .i64 1)) fun t68 =>
       Q23 .normal (F.upd (F.upd f66 65 t68) 25 t68) w67) Q23)))
        (F.upd (F.upd (F.upd (F.upd (F.upd f24 26 t26) 27 (f24 25)) 9 (f24 25)) 28 (f24 25)) 10 (f24 25)) w25)
       (Q23 (.exit 4) (F.upd f24 26 t26) w25))
      (blockQ 4 (blockQ 3 (seqQ (fun f69 w70 =>
     Rd Try.prog (WS.at w70) (sBin .add 3 true (f69 18) (.int .i64 1)) fun t71 =>
     Q12 .normal (F.upd (F.upd f69 66 t71) 18 t71) w70) Q12)))
      (F.upd (F.upd (F.upd (F.upd (F.upd (F.upd (F.upd (F.upd f13 19 t15) 20 t16) 21 t17) 8 t18) 22 (f13 1)) 23 t21) 24 t22) 25 (.int .i64 0)) w20) w19) w14)
     (Q12 (.exit 2) (F.upd f13 19 t15) w14))
    (blockQ 2 (blockQ 1 Q6))
    (F.upd (F.upd (F.upd (F.upd (F.upd (F.upd f7 14 (f7 6)) 6 (.bool false)) 15 t9) 16 t10) 17 t11) 18 (.int .i64 0)) w8)
   (Q6 (.exit 0) (F.upd f7 14 (f7 6)) w8))
  (blockQ 0 (seqQ (fun f72 w73 =>
 k (f72 5) w73) (bodyQ Try.prog [.tmp 4] k)))
  (F.upd (F.upd (F.upd (F.upd (F.upd (F.upd (F.upd (initF [v0, v1]) 2 t1) 4 (.pointer none)) 11 v1) 12 t3) 13 t4) 5 t4) 6 (.bool true)) w5) w2) w
theorem body104 : Try.f104.body = some (bodyOf Try.f104) := by kernel_rfl
theorem same104 (v0 v1 : Value) (k : Value → World → Prop) (w : World) : wpF Try.prog pl104 (bodyOf Try.f104) (bodyQ Try.prog Try.f104.results.toList k) (initF [v0, v1]) w = S104 v0 v1 k w := by kernel_rfl
theorem enter104 {v0 v1 : Value} {k : Value → World → Prop} {w : World} (h : S104 v0 v1 k w) : CallK Try.prog 104 [v0, v1] k w :=
  call_of_wpF (pl := pl104) mixed Try.func104 body104 (by kernel_rfl) (of_decide_eq_true (by kernel_rfl)) (by kernel_rfl) (by kernel_rfl) (same104 v0 v1 k w ▸ h)

/-! loop.example/g00758/spec.l1Word -/
def pl112 : Plans := fun _ => ⟨false, [], .nil⟩
def S112 (v0 v1 : Value) (k : Value → World → Prop) (w : World) : Prop :=
 Do Try.prog (sBox 37 v0) (fun t1 w2 =>
 Rd Try.prog (WS.at w2) (sBuiltin .len #[22] 3 [false] [v1]) fun t3 =>
 Rd Try.prog (WS.at w2) (sBin .leq 3 true t3 (.int .i64 10)) fun t4 =>
 GuardK t4 true (fun k w' => k v1 w') (fun t5 w6 =>
 GuardK t4 true (fun k w' => Rd Try.prog (WS.at w6) (sFieldAddr 37 t1 1) fun v => k v w') (fun t7 w8 =>
 GuardK t4 true (fun k w' => Rd Try.prog (WS.at w8) (sLoad 3 t7) fun v => k v w') (fun t9 w10 =>
 GuardK t4 true (fun k w' => Rd Try.prog (WS.at w10) (sBin .sub 3 true t9 (.int .i64 1)) fun v => k v w') (fun t11 w12 =>
 GuardK t4 true (fun k w' => CallK Try.prog 75 [t5, (.int .i64 0), t11] k w') (fun t13 w14 =>
 Rd Try.prog (WS.at w14) (sPick t4 t13 (.bool false)) fun t15 =>
 k t15 w14) w12) w10) w8) w6) w2) w
theorem body112 : Try.f112.body = some (bodyOf Try.f112) := by kernel_rfl
theorem same112 (v0 v1 : Value) (k : Value → World → Prop) (w : World) : wpF Try.prog pl112 (bodyOf Try.f112) (bodyQ Try.prog Try.f112.results.toList k) (initF [v0, v1]) w = S112 v0 v1 k w := by kernel_rfl
theorem enter112 {v0 v1 : Value} {k : Value → World → Prop} {w : World} (h : S112 v0 v1 k w) : CallK Try.prog 112 [v0, v1] k w :=
  call_of_wpF (pl := pl112) mixed Try.func112 body112 (by kernel_rfl) (of_decide_eq_true (by kernel_rfl)) (by kernel_rfl) (by kernel_rfl) (same112 v0 v1 k w ▸ h)

/-! loop.example/g00758/impl.isWord$1 -/
def pl146 : Plans := fun _ => ⟨false, [], .nil⟩
def S146 (v0 v1 : Value) (k : Value → World → Prop) (w : World) : Prop :=
 Rd Try.prog (WS.at w) (sLoad 3 v1) fun t1 =>
 Rd Try.prog (WS.at w) (sBin .sub 3 true t1 (.int .i64 1)) fun t2 =>
 CallK Try.prog 103 [v0, (.int .i64 0), t2] (fun t3 w4 =>
 Rd Try.prog (WS.at w4) (sUn .not t3) fun t5 =>
 k t5 w4) w
theorem body146 : Try.f146.body = some (bodyOf Try.f146) := by kernel_rfl
theorem same146 (v0 v1 : Value) (k : Value → World → Prop) (w : World) : wpF Try.prog pl146 (bodyOf Try.f146) (bodyQ Try.prog Try.f146.results.toList k) (initF [v0, v1]) w = S146 v0 v1 k w := by kernel_rfl
theorem enter146 {v0 v1 : Value} {k : Value → World → Prop} {w : World} (h : S146 v0 v1 k w) : CallK Try.prog 146 [v0, v1] k w :=
  call_of_wpF (pl := pl146) mixed Try.func146 body146 (by kernel_rfl) (of_decide_eq_true (by kernel_rfl)) (by kernel_rfl) (by kernel_rfl) (same146 v0 v1 k w ▸ h)

/-! loop.example/g00758/spec.l4Table -/
/-! (*loop.example/g00758/impl.table).sequence -/
def pl149 : Plans := fun _ => ⟨false, [], .nil⟩
def S149 (v0 v1 v2 v3 : Value) (k : Value → World → Prop) (w : World) : Prop :=
 Rd Try.prog (WS.at w) (sBuiltin .len #[22] 3 [false] [v1]) fun t1 =>
 Rd Try.prog (WS.at w) (sBin .eql 3 true t1 (.int .i64 0)) fun t2 =>
 CondK t2
  (Rd Try.prog (WS.at w) (sBin .eql 3 false v2 v3) fun t3 =>
  k t3 w)
  (Rd Try.prog (WS.at w) (sIndexAddr 22 v1 (.int .i64 0)) fun t4 =>
  Rd Try.prog (WS.at w) (sLoad 3 t4) fun t5 =>
  Rd Try.prog (WS.at w) (sBin .lss 3 true t5 (.int .i64 0)) fun t6 =>
  CondK t6
   (Rd Try.prog (WS.at w) (sBin .lss 3 false v2 v3) fun t7 =>
   GuardK t7 true (fun k w' => k v0 w') (fun t8 w9 =>
   GuardK t7 true (fun k w' => Rd Try.prog (WS.at w9) (sNilCheck t8) fun v => k v w') (fun t10 w11 =>
   GuardK t7 true (fun k w' => Rd Try.prog (WS.at w11) (sFieldAddr 111 t10 0) fun v => k v w') (fun t12 w13 =>
   GuardK t7 true (fun k w' => Rd Try.prog (WS.at w13) (sLoad 22 t12) fun v => k v w') (fun t14 w15 =>
   GuardK t7 true (fun k w' => k v2 w') (fun t16 w17 =>
   GuardK t7 true (fun k w' => Rd Try.prog (WS.at w17) (sIndexAddr 22 t14 t16) fun v => k v w') (fun t18 w19 =>
   GuardK t7 true (fun k w' => Rd Try.prog (WS.at w19) (sLoad 3 t18) fun v => k v w') (fun t20 w21 =>
   GuardK t7 true (fun k w' => CallK Try.prog 179 [t20] k w') (fun t22 w23 =>
   GuardK t7 true (fun k w' => k t5 w') (fun t24 w25 =>
   GuardK t7 true (fun k w' => Rd Try.prog (WS.at w25) (sBin .eql 3 false t22 t24) fun v => k v w') (fun t26 w27 =>
   Rd Try.prog (WS.at w27) (sPick t7 t26 (.bool false)) fun t28 =>
   GuardK t28 true (fun k w' => k v0 w') (fun t29 w30 =>
   GuardK t28 true (fun k w' => k v1 w') (fun t31 w32 =>
   GuardK t28 true (fun k w' => Rd Try.prog (WS.at w32) (sSlice 22 t31 (some (.int .i64 1)) none none) fun v => k v w') (fun t33 w34 =>
   GuardK t28 true (fun k w' => k v2 w') (fun t35 w36 =>
   GuardK t28 true (fun k w' => Rd Try.prog (WS.at w36) (sBin .add 3 true t35 (.int .i64 1)) fun v => k v w') (fun t37 w38 =>
   GuardK t28 true (fun k w' => k v3 w') (fun t39 w40 =>
   GuardK t28 true (fun k w' => CallK Try.prog 149 [t29, t33, t37, t39] k w') (fun t41 w42 =>
   Rd Try.prog (WS.at w42) (sPick t28 t41 (.bool false)) fun t43 =>
   k t43 w42) w40) w38) w36) w34) w32) w30) w27) w25) w23) w21) w19) w17) w15) w13) w11) w9) w)
   (LoopF [47, 48, 49, 52, 53, 54, 55, 56, 57, 58, 59, 60, 61, 62, 63, 64, 65, 66, 67, 68, 69, 8, 50, 51, 10] (fun Q44 f45 w46 =>
    Rd Try.prog (WS.at w46) (sBin .leq 3 false (f45 10) (f45 3)) fun t47 =>
    CondK t47
     (Rd Try.prog (WS.at w46) (sNilCheck (f45 0)) fun t48 =>
     Rd Try.prog (WS.at w46) (sFieldAddr 111 t48 1) fun t49 =>
     Rd Try.prog (WS.at w46) (sIndexAddr 109 t49 (f45 9)) fun t50 =>
     Rd Try.prog (WS.at w46) (sIndexAddr 108 t50 (f45 2)) fun t51 =>
     Rd Try.prog (WS.at w46) (sIndexAddr 107 t51 (f45 10)) fun t52 =>
     Rd Try.prog (WS.at w46) (sLoad 4 t52) fun t53 =>
     GuardK t53 true (fun k w' => k (f45 0) w') (fun t54 w55 =>
     GuardK t53 true (fun k w' => k (f45 1) w') (fun t56 w57 =>
     GuardK t53 true (fun k w' => Rd Try.prog (WS.at w57) (sSlice 22 t56 (some (.int .i64 1)) none none) fun v => k v w') (fun t58 w59 =>
     GuardK t53 true (fun k w' => k (f45 10) w') (fun t60 w61 =>
     GuardK t53 true (fun k w' => k (f45 3) w') (fun t62 w63 =>
     GuardK t53 true (fun k w' => CallK Try.prog 149 [t54, t58, t60, t62] k w') (fun t64 w65 =>
     Rd Try.prog (WS.at w65) (sPick t53 t64 (.bool false)) fun t66 =>
     CondK t66
      (Q44 .ret (F.upd (F.upd (F.upd (F.upd (F.upd (F.upd (F.upd (F.upd (F.upd (F.upd (F.upd (F.upd (F.upd (F.upd (F.upd (F.upd (F.upd (F.upd (F.upd (F.upd (F.upd (F.upd f45 47 (f45 10)) 48 (f45 3)) 49 t47) 52 (f45 0)) 53 (f45 9)) 54 (f45 2)) 55 (f45 10)) 56 t48) 57 t49) 58 t50) 59 t51) 60 t52) 61 t53) 62 t53) 63 t54) 64 t56) 65 t58) 66 t60) 67 t62) 68 t64) 69 t66) 8 (.bool true)) w65)
      (Rd Try.prog (WS.at w65) (sBin .add 3 true (f45 10) (.int .i64 1)) fun t67 =>
      Q44 .normal (F.upd (F.upd (F.upd (F.upd (F.upd (F.upd (F.upd (F.upd (F.upd (F.upd (F.upd (F.upd (F.upd (F.upd (F.upd (F.upd (F.upd (F.upd (F.upd (F.upd (F.upd (F.upd (F.upd (F.upd f45 47 (f45 10)) 48 (f45 3)) 49 t47) 52 (f45 0)) 53 (f45 9)) 54 (f45 2)) 55 (f45 10)) 56 t48) 57 t49) 58 t50) 59 t51) 60 t52) 61 t53) 62 t53) 63 t54) 64 t56) 65 t58) 66 t60) 67 t62) 68 t64) 69 t66) 50 (f45 10)) 51 t67) 10 t67) w65)) w63) w61) w59) w57) w55) w46)
     (Q44 (.exit 0) (F.upd (F.upd (F.upd f45 47 (f45 10)) 48 (f45 3)) 49 t47) w46))
    (blockQ 0 (seqQ (fun f68 w69 =>
   k (.bool false) w69) (bodyQ Try.prog [.tmp 8] k)))
    (F.upd (F.upd (F.upd (F.upd (F.upd (F.upd (F.upd (F.upd (F.upd (F.upd (F.upd (F.upd (initF [v0, v1, v2, v3]) 8 (.bool false)) 11 v1) 12 t1) 13 t2) 17 v1) 18 t4) 19 t5) 9 t5) 20 t5) 21 t6) 46 v2) 10 v2) w))
theorem body149 : Try.f149.body = some (bodyOf Try.f149) := by kernel_rfl
theorem same149 (v0 v1 v2 v3 : Value) (k : Value → World → Prop) (w : World) : wpF Try.prog pl149 (bodyOf Try.f149) (bodyQ Try.prog Try.f149.results.toList k) (initF [v0, v1, v2, v3]) w = S149 v0 v1 v2 v3 k w := by kernel_rfl
theorem enter149 {v0 v1 v2 v3 : Value} {k : Value → World → Prop} {w : World} (h : S149 v0 v1 v2 v3 k w) : CallK Try.prog 149 [v0, v1, v2, v3] k w :=
  call_of_wpF (pl := pl149) mixed Try.func149 body149 (by kernel_rfl) (of_decide_eq_true (by kernel_rfl)) (by kernel_rfl) (by kernel_rfl) (same149 v0 v1 v2 v3 k w ▸ h)

/-! loop.example/g00758/spec.l4Fits -/
/-! loop.example/g00758/spec.l4Symbol -/
end Go.Proofs.Ytiohaeckagjebaa

/- Contracts: what derives a part of a word, by the reference. -/
set_option linter.unusedVariables false
set_option linter.unusedSimpArgs false
set_option maxRecDepth 100000
namespace Go.Sh
open Go
/-- The reference's table in memory. -/
structure TabS (w : World) (U : Option Addr) (nons n : Nat) (T : Tab) : Prop where
  ptr : 0 < nons → U = some (ad U)
  row : ∀ x, x < nons → ∃ R c, w.cell? ((ad U).add x) = some (.slice R (n * n) c) ∧ R = some (ad R) ∧ ∀ i j, i < n → j < n → w.cell? ((ad R).add (i * n + j)) = some (.bool (T x i j))
theorem TabS.gr {w w' : World} {U : Option Addr} {nons n : Nat} {T : Tab} (h : TabS w U nons n T) (g : Gr w w') : TabS w' U nons n T := ⟨h.ptr, fun x hx => by
  obtain ⟨R, c, h1, h2, h3⟩ := h.row x hx
  exact ⟨R, c, g.cell h1, h2, fun i j hi hj => g.cell (h3 i j hi hj)⟩⟩
theorem place_lt {n i j : Nat} (hi : i < n) (hj : j < n) : i * n + j < n * n := by
  have : (i + 1) * n ≤ n * n := Nat.mul_le_mul_right n hi
  rw [Nat.add_mul] at this
  omega
theorem foldl_range {α : Type} (f : α → Nat → α) (s : α) (n : Nat) : (List.range (n + 1)).foldl f s = f ((List.range n).foldl f s) n := by
  rw [List.range_succ, List.foldl_append]
  rfl
theorem foldl_range' {α : Type} (f : α → Nat → α) (s : α) (a n : Nat) : (List.range' a (n + 1)).foldl f s = f ((List.range' a n).foldl f s) (a + n) := by
  rw [List.range'_concat, List.foldl_append]
  simp
theorem foldl_take {α : Type} (f : α → RuleL → α) (s : α) (rs : List RuleL) {n : Nat} (h : n < rs.length) : (rs.take (n + 1)).foldl f s = f ((rs.take n).foldl f s) (rul rs n) := by
  rw [List.take_succ_eq_append_getElem h, List.foldl_append, rul_eq h]
  rfl
end Go.Sh
namespace Go.Proofs.Ytiohaeckagjebaa
open Go Go.Sh Go.RowKit

end Go.Proofs.Ytiohaeckagjebaa

/- A table of counts: heads and leaves. -/
set_option linter.unusedVariables false
set_option linter.unusedSimpArgs false
set_option maxRecDepth 100000
namespace Go.Sh
open Go
/-- Where a leaf of a table stands. -/
def idxT (n A i j : Nat) : Nat := A * (n * n) + (i * n + j)
theorem idxT_lt {nons n A i j : Nat} (hA : A < nons) (hi : i < n) (hj : j < n) : idxT n A i j < nons * (n * n) := by
  have h1 := place_lt hi hj
  have h2 : (A + 1) * (n * n) ≤ nons * (n * n) := Nat.mul_le_mul_right _ hA
  rw [Nat.add_mul] at h2
  unfold idxT
  omega
theorem idxT_inj {n A i j A' i' j' : Nat} (hi : i < n) (hj : j < n) (hi' : i' < n) (hj' : j' < n) (h : idxT n A i j = idxT n A' i' j') : A = A' ∧ i = i' ∧ j = j' := by
  have h1 := place_lt hi hj
  have h2 := place_lt hi' hj'
  have hn : 0 < n := by omega
  have hnn : 0 < n * n := Nat.mul_pos hn hn
  unfold idxT at h
  have e1 : A = A' := by
    have := congrArg (· / (n * n)) h
    simp only [Nat.mul_comm _ (n * n), Nat.mul_add_div hnn, Nat.div_eq_of_lt h1, Nat.div_eq_of_lt h2, Nat.add_zero] at this
    exact this
  subst e1
  have h3 : i * n + j = i' * n + j' := by omega
  have e2 : i = i' := by
    have := congrArg (· / n) h3
    simp only [Nat.mul_comm _ n, Nat.mul_add_div hn, Nat.div_eq_of_lt hj, Nat.div_eq_of_lt hj', Nat.add_zero] at this
    exact this
  subst e2
  exact ⟨rfl, rfl, by omega⟩
theorem rgt_put {ls : List (List Int)} {i j : Nat} {l : List Int} (hi : i < ls.length) : rgt (ls.set i l) j = if j = i then l else rgt ls j := by
  simp only [rgt, List.getD_eq_getElem?_getD, List.getElem?_set]
  by_cases hij : i = j
  · subst hij
    simp [hi]
  · rw [if_neg hij, if_neg (fun e => hij e.symm)]
theorem getD_put {l : List Int} {i j : Nat} {x : Int} (hi : i < l.length) : (l.set i x).getD j 0 = if j = i then x else l.getD j 0 := by
  simp only [List.getD_eq_getElem?_getD, List.getElem?_set]
  by_cases hij : i = j
  · subst hij
    simp [hi]
  · rw [if_neg hij, if_neg (fun e => hij e.symm)]
structure LeafT (ls : List (List Int)) (nons n m : Nat) (t : Nat → Nat → Nat → Nat → Nat) : Prop where
  len : ls.length = nons * (n * n)
  row : ∀ A i j, A < nons → i < n → j < n → (rgt ls (idxT n A i j)).length = m + 1
  val : ∀ A i j k, A < nons → i < n → j < n → k ≤ m → (rgt ls (idxT n A i j)).getD k 0 = (t A i j k : Int)
theorem LeafT.congr {ls : List (List Int)} {nons n m : Nat} {t t' : Nat → Nat → Nat → Nat → Nat} (h : LeafT ls nons n m t) (he : ∀ A i j k, A < nons → i < n → j < n → k ≤ m → t' A i j k = t A i j k) : LeafT ls nons n m t' :=
  ⟨h.len, h.row, fun A i j k hA hi hj hk => by rw [h.val A i j k hA hi hj hk, he A i j k hA hi hj hk]⟩
theorem LeafT.put {ls : List (List Int)} {nons n m : Nat} {t t' : Nat → Nat → Nat → Nat → Nat} (h : LeafT ls nons n m t) {A i j k v : Nat} (hA : A < nons) (hi : i < n) (hj : j < n) (hk : k ≤ m) (h1 : t' A i j k = v)
    (h2 : ∀ A' i' j' k', A' < nons → i' < n → j' < n → k' ≤ m → ¬ (A' = A ∧ i' = i ∧ j' = j ∧ k' = k) → t' A' i' j' k' = t A' i' j' k') : LeafT (ls.set (idxT n A i j) ((rgt ls (idxT n A i j)).set k (v : Int))) nons n m t' := by
  have hlt : idxT n A i j < ls.length := by rw [h.len]; exact idxT_lt hA hi hj
  refine ⟨by rw [List.length_set]; exact h.len, fun A' i' j' hA' hi' hj' => ?_, fun A' i' j' k' hA' hi' hj' hk' => ?_⟩
  · rw [rgt_put hlt]
    split
    · rw [List.length_set]; exact h.row A i j hA hi hj
    · exact h.row A' i' j' hA' hi' hj'
  · rw [rgt_put hlt]
    split
    · rename_i he
      obtain ⟨rfl, rfl, rfl⟩ := idxT_inj hi' hj' hi hj he
      rw [getD_put (by rw [h.row _ _ _ hA hi hj]; omega)]
      split
      · rename_i hkk
        subst hkk
        rw [h1]
      · rename_i hkk
        rw [h.val _ _ _ _ hA hi hj hk', h2 _ _ _ _ hA hi hj hk' (fun hh => hkk hh.2.2.2)]
    · rename_i he
      rw [h.val _ _ _ _ hA' hi' hj' hk', h2 _ _ _ _ hA' hi' hj' hk' (fun hh => he (by rw [hh.1, hh.2.1, hh.2.2.1]))]
theorem leafT_zero {nons n m : Nat} : LeafT (List.replicate (nons * (n * n)) (List.replicate (m + 1) 0)) nons n m fun _ _ _ _ => 0 := by
  have hr : ∀ l, l < nons * (n * n) → rgt (List.replicate (nons * (n * n)) (List.replicate (m + 1) (0 : Int))) l = List.replicate (m + 1) 0 := fun l hl => by
    rw [rgt_eq (by simpa using hl)]
    simp
  refine ⟨by simp, fun A i j hA hi hj => ?_, fun A i j k hA hi hj hk => ?_⟩
  · rw [hr _ (idxT_lt hA hi hj)]
    simp
  · rw [hr _ (idxT_lt hA hi hj)]
    simp only [List.getD_eq_getElem?_getD, List.getElem?_replicate]
    split <;> rfl
structure HeadT (hs : List (List Value)) (ps : Nat → Option Addr × Nat) (nons n m : Nat) : Prop where
  len : hs.length = nons
  row : ∀ A, A < nons → (vls hs A).length = n * n
  val : ∀ A p, A < nons → p < n * n → (vls hs A)[p]? = some (.slice (ps (A * (n * n) + p)).1 (m + 1) (ps (A * (n * n) + p)).2)
section
variable {e e1 e2 nons n m c B1 B2 : Nat} {w : World} {X : Option Addr} {hs : List (List Value)} {hp ps : Nat → Option Addr × Nat} {ls : List (List Int)} {t : Nat → Nat → Nat → Nat → Nat}
theorem head_cell (o : OwnV e1 e2 w B1 X c hs hp) (hh : HeadT hs ps nons n m) {A : Nat} (hA : A < nons) : w.cell? ((ad X).add A) = some (.slice (hp A).1 (n * n) (hp A).2) := by
  have := o.cell (j := A) (by rw [hh.len]; exact hA)
  rwa [hh.row A hA] at this
theorem head_ptr (o : OwnV e1 e2 w B1 X c hs hp) (hh : HeadT hs ps nons n m) {A : Nat} (hA : A < nons) (hn : 0 < n) : (hp A).1 = some (ad (hp A).1) := by
  have := o.own A (by rw [hh.len]; exact hA)
  rw [hh.row A hA] at this
  exact this.ptr (Nat.mul_pos hn hn)
theorem head_leaf (o : OwnV e1 e2 w B1 X c hs hp) (hh : HeadT hs ps nons n m) {A i j : Nat} (hA : A < nons) (hi : i < n) (hj : j < n) : w.cell? ((ad (hp A).1).add (i * n + j)) = some (.slice (ps (idxT n A i j)).1 (m + 1) (ps (idxT n A i j)).2) := by
  have := o.own A (by rw [hh.len]; exact hA)
  exact this.src.cell _ _ (hh.val A _ hA (place_lt hi hj))
theorem leaf_ptr (f : Fam e w B2 ls ps) (hl : LeafT ls nons n m t) {A i j : Nat} (hA : A < nons) (hi : i < n) (hj : j < n) : (ps (idxT n A i j)).1 = some (ad (ps (idxT n A i j)).1) := by
  have := f.own (idxT n A i j) (by rw [hl.len]; exact idxT_lt hA hi hj)
  unfold Own at this
  rw [hl.row A i j hA hi hj] at this
  exact this.ptr (by omega)
theorem leaf_cell (f : Fam e w B2 ls ps) (hl : LeafT ls nons n m t) {A i j k : Nat} (hA : A < nons) (hi : i < n) (hj : j < n) (hk : k ≤ m) : w.cell? ((ad (ps (idxT n A i j)).1).add k) = some (.int .i64 (t A i j k)) := by
  have := f.own (idxT n A i j) (by rw [hl.len]; exact idxT_lt hA hi hj)
  have hlen := hl.row A i j hA hi hj
  rw [← hl.val A i j k hA hi hj hk]
  refine this.src.cell _ _ ?_
  simp only [Sh.ints, List.getElem?_map, List.getD_eq_getElem?_getD]
  rw [List.getElem?_eq_getElem (by omega)]
  rfl
theorem tabR_of (o : OwnV e1 e2 w B1 X c hs hp) (f : Fam e w B2 ls ps) (hh : HeadT hs ps nons n m) (hl : LeafT ls nons n m t) (hn : 0 < n) : TabR w X nons n m t :=
  ⟨fun h => o.ptr (by rw [hh.len]; exact h), fun A hA => ⟨_, _, head_cell o hh hA, head_ptr o hh hA hn, fun i j hi hj => ⟨_, _, head_leaf o hh hA hi hj, leaf_ptr f hl hA hi hj, fun k hk => leaf_cell f hl hA hi hj hk⟩⟩⟩
end
/-- Nothing between two places the wrong way round. -/
theorem cntR_back {c : Nat → Nat → Nat → Nat → Nat} {ws : List Int} {xs : List Int} {i j s : Nat} (h : j < i) : cntR c ws xs i j s = 0 := by
  cases xs with
  | nil => rw [cntR, if_neg (by omega)]
  | cons x xs =>
    rw [cntR]
    split
    · rw [if_neg (by omega)]
    · rw [show j + 1 - i = 0 from by omega]
      rfl
/-- What rules add. -/
def addP (rs : List RuleL) (ws : List Int) (s A i j : Nat) (r : RuleL) : Nat := if r.1 = (A : Int) then cntR (cntC rs ws) ws r.2 i j (s - 1) else 0
theorem cntC_sum {rs : List RuleL} {ws : List Int} {A i j s : Nat} (hs : 0 < s) : cntC rs ws A i j s = sumR rs (addP rs ws s A i j) := by
  obtain ⟨s, rfl⟩ : ∃ s', s = s' + 1 := ⟨s - 1, by omega⟩
  rw [cntC_succ]
  rfl
/-- The table while it is filled: sizes below s are done, at s the first q rules, of the next rule all before (a, b). -/
def fillT (M : Nat) (rs : List RuleL) (ws : List Int) (s q a b : Nat) (A i j k : Nat) : Nat :=
  if k < s then min M (cntC rs ws A i j k)
  else if k = s then min M (sumR (rs.take q) (addP rs ws s A i j) + if i < a ∨ (i = a ∧ j < b) then addP rs ws s A i j (rul rs q) else 0)
  else 0
theorem sumR_take {rs : List RuleL} {q : Nat} (h : q < rs.length) (p : RuleL → Nat) : sumR (rs.take (q + 1)) p = sumR (rs.take q) p + p (rul rs q) := by
  rw [List.take_succ_eq_append_getElem h, sumR_snoc, rul_eq h]
theorem fillT_row {M : Nat} {rs : List RuleL} {ws : List Int} {s q a : Nat} {n : Nat} {A i j k : Nat} (hj : j < n) : fillT M rs ws s q (a + 1) 0 A i j k = fillT M rs ws s q a n A i j k := by
  unfold fillT
  split
  · rfl
  · split
    · by_cases h1 : i < a ∨ (i = a ∧ j < n)
      · rw [if_pos h1, if_pos (by omega)]
      · rw [if_neg h1, if_neg (by omega)]
    · rfl
theorem fillT_col {M : Nat} {rs : List RuleL} {ws : List Int} {s q a : Nat} {A i j k : Nat} : fillT M rs ws s q a a A i j k = fillT M rs ws s q a 0 A i j k := by
  unfold fillT
  split
  · rfl
  · split
    · by_cases h1 : i < a
      · rw [if_pos (.inl h1), if_pos (.inl h1)]
      · by_cases h2 : i = a ∧ j < a
        · rw [if_pos (.inr h2), if_neg (by omega)]
          have : addP rs ws s A i j (rul rs q) = 0 := by
            unfold addP
            split
            · exact cntR_back (by omega)
            · rfl
          rw [this]
        · rw [if_neg (by omega), if_neg (by omega)]
    · rfl
theorem fillT_rule {M : Nat} {rs : List RuleL} {ws : List Int} {s q n : Nat} {A i j k : Nat} (hq : q < rs.length) (hi : i < n) : fillT M rs ws s (q + 1) 0 0 A i j k = fillT M rs ws s q n 0 A i j k := by
  unfold fillT
  split
  · rfl
  · split
    · rw [if_neg (by omega), if_pos (.inl hi), sumR_take hq, Nat.add_zero]
    · rfl
theorem fillT_size {M : Nat} {rs : List RuleL} {ws : List Int} {s : Nat} {A i j k : Nat} (hs : 0 < s) : fillT M rs ws (s + 1) 0 0 0 A i j k = fillT M rs ws s rs.length 0 0 A i j k := by
  unfold fillT
  by_cases h1 : k < s
  · rw [if_pos (by omega), if_pos h1]
  · rw [if_neg h1]
    by_cases h2 : k = s
    · subst h2
      rw [if_pos (by omega), if_pos rfl, if_neg (by omega), List.take_length, Nat.add_zero, cntC_sum hs]
    · rw [if_neg h2, if_neg (by omega)]
      split
      · rw [if_neg (by omega)]
        simp [sumR]
      · rfl
theorem fillT_start {M : Nat} {rs : List RuleL} {ws : List Int} {A i j k : Nat} : fillT M rs ws 1 0 0 0 A i j k = 0 := by
  unfold fillT
  by_cases h1 : k < 1
  · rw [if_pos h1]
    obtain rfl : k = 0 := by omega
    rw [cntC_zero]
    omega
  · rw [if_neg h1]
    split
    · rw [if_neg (by omega)]
      simp [sumR]
    · rfl
theorem fillT_done {M : Nat} {rs : List RuleL} {ws : List Int} {s A i j k : Nat} (hk : k < s) {q a b : Nat} : fillT M rs ws s q a b A i j k = min M (cntC rs ws A i j k) := by
  unfold fillT
  rw [if_pos hk]
theorem fillT_step {M : Nat} {rs : List RuleL} {ws : List Int} {s q a b x A i j k : Nat} (hx : (rul rs q).1 = (x : Int)) (h : ¬ (A = x ∧ i = a ∧ j = b ∧ k = s)) : fillT M rs ws s q a (b + 1) A i j k = fillT M rs ws s q a b A i j k := by
  unfold fillT
  split
  · rfl
  · split
    · rename_i h1 h2
      by_cases h3 : i = a ∧ j = b
      · have hA : ¬ (x : Int) = (A : Int) := fun e => h ⟨by omega, h3.1, h3.2, h2⟩
        have : addP rs ws s A i j (rul rs q) = 0 := by
          unfold addP
          rw [hx, if_neg hA]
        rw [this]
        simp
      · by_cases h4 : i < a ∨ (i = a ∧ j < b)
        · rw [if_pos h4, if_pos (by omega)]
        · rw [if_neg h4, if_neg (by omega)]
    · rfl
theorem fillT_at {M : Nat} {rs : List RuleL} {ws : List Int} {s q a b x : Nat} (hx : (rul rs q).1 = (x : Int)) : fillT M rs ws s q a (b + 1) x a b s = min M (fillT M rs ws s q a b x a b s + min M (cntR (cntC rs ws) ws (rul rs q).2 a b (s - 1))) := by
  unfold fillT
  rw [if_neg (Nat.lt_irrefl s), if_pos rfl, if_pos (.inr ⟨rfl, by omega⟩), if_neg (Nat.lt_irrefl s), if_pos rfl, if_neg (by omega), Nat.add_zero, cap_add]
  unfold addP
  rw [if_pos hx]
end Go.Sh

/- Contract: the parts of a tree, told by the reference. -/
set_option linter.unusedVariables false
set_option linter.unusedSimpArgs false
set_option maxRecDepth 100000
namespace Go.Sh
open Go
end Go.Sh
namespace Go.Proofs.Ytiohaeckagjebaa
open Go Go.Sh Go.RowKit

end Go.Proofs.Ytiohaeckagjebaa

/- Contracts: the parts of a tree in memory, and the two that can be pumped, by the program. -/
set_option linter.unusedVariables false
set_option linter.unusedSimpArgs false
set_option maxRecDepth 100000
namespace Go.Sh
open Go
end Go.Sh
namespace Go.Proofs.Ytiohaeckagjebaa
open Go Go.Sh Go.RowKit

end Go.Proofs.Ytiohaeckagjebaa

/- Contracts: what of a tree can be pumped, by the reference. -/
set_option linter.unusedVariables false
set_option linter.unusedSimpArgs false
set_option maxRecDepth 100000
namespace Go.Sh
open Go
/-- The whole tree that a list of rules is. -/
structure Whole (gm : Gram) (tree : List Int) (p : PT) (ws : List Int) : Prop where
  good : goodG gm = true
  le : tree.length ≤ 60
  read : readT gm.rules tree tree.length 0 0 [] = some (p, ws)
  fin : p.fin = tree.length
theorem Whole.laid {gm : Gram} {tree : List Int} {p : PT} {ws : List Int} (h : Whole gm tree p ws) : Laid p.parts 0 := (readT_laid _ _ _ _ _ _ _ _ h.read).1
theorem Whole.len {gm : Gram} {tree : List Int} {p : PT} {ws : List Int} (h : Whole gm tree p ws) : p.parts.length = tree.length := by
  have := (readT_laid _ _ _ _ _ _ _ _ h.read).2.1
  have := h.fin
  omega
theorem Whole.words {gm : Gram} {tree : List Int} {p : PT} {ws : List Int} (h : Whole gm tree p ws) : ws.length ≤ 240 := by
  have := (readT_words (good_rule h.good) _ _ _ _ _ _ h.read).2
  have := h.len
  have := h.le
  simp at *
  omega
theorem asked_whole {gm : Gram} {tree : List Int} : (askedT gm tree = true → ∃ p ws, Whole gm tree p ws) ∧ (askedT gm tree = false → ∀ p ws, ¬ Whole gm tree p ws) := by
  have he := endT_eq gm.rules tree tree.length 0 0 []
  constructor
  · intro h
    simp only [askedT, isT, Bool.and_eq_true, decide_eq_true_eq] at h
    rw [h.2.2] at he
    cases hz : readT gm.rules tree tree.length 0 0 [] with
    | none => rw [hz] at he; cases he
    | some z =>
      rw [hz] at he
      exact ⟨z.1, z.2, h.1.1, h.1.2, hz, by simpa using he.symm⟩
  · intro h p ws hw
    have h1 : askedT gm tree = true := by
      simp only [askedT, isT, Bool.and_eq_true, decide_eq_true_eq]
      refine ⟨⟨hw.good, hw.le⟩, ?_, ?_⟩
      · have := hw.len
        rw [parts_cons] at this
        simp at this
        omega
      · rw [he, hw.read]
        simp [hw.fin]
    rw [h] at h1
    cases h1
end Go.Sh
namespace Go.Proofs.Ytiohaeckagjebaa
open Go Go.Sh Go.RowKit

end Go.Proofs.Ytiohaeckagjebaa

/- Contracts: PumpOf, PathIn, PumpTree of the reference. -/
set_option linter.unusedVariables false
set_option linter.unusedSimpArgs false
set_option maxRecDepth 100000
namespace Go.Sh
open Go
def wholeP (gm : Gram) (tree : List Int) : Option PT := if askedT gm tree = true then (readT gm.rules tree tree.length 0 0 []).map fun z => z.1 else none
theorem Whole.eq {gm : Gram} {tree : List Int} {p : PT} {ws : List Int} (h : Whole gm tree p ws) : wholeP gm tree = some p := by
  have ha : askedT gm tree = true := by
    cases e : askedT gm tree with
    | true => rfl
    | false => exact absurd h (asked_whole.2 e p ws)
  unfold wholeP
  rw [if_pos ha, h.read]
  rfl
end Go.Sh
namespace Go.Proofs.Ytiohaeckagjebaa
open Go Go.Sh Go.RowKit

end Go.Proofs.Ytiohaeckagjebaa

/- Contract: the first two parts that can be pumped, by the program. -/
set_option linter.unusedVariables false
set_option linter.unusedSimpArgs false
set_option maxRecDepth 100000
namespace Go.Proofs.Ytiohaeckagjebaa
open Go Go.Sh Go.RowKit

end Go.Proofs.Ytiohaeckagjebaa

/- Contract: the tree that a list of rules begins with, read by the program. -/
set_option linter.unusedVariables false
set_option linter.unusedSimpArgs false
set_option maxRecDepth 100000
namespace Go.Sh
open Go
theorem AllPt.same {F : Nat → Prop} {w w' : World} {ps : List PT} {bs : List Nat} (h : AllPt F w ps bs) (hs : ∀ q, F q → w'.heap[q]? = w.heap[q]?) : AllPt F w' ps bs := ⟨h.1, fun i hi => PartAt.same hs _ _ (h.2 i hi)⟩
theorem AllPt.mono {F E : Nat → Prop} {w : World} {ps : List PT} {bs : List Nat} (h : AllPt F w ps bs) (he : ∀ q, F q → E q) : AllPt E w ps bs := ⟨h.1, fun i hi => PartAt.mono he _ _ (h.2 i hi)⟩
theorem good_symb {g : Gram} (hg : goodG g = true) {q : Nat} (hq : q < g.rules.length) {i : Nat} (hi : i < (rul g.rules q).2.length) : -4 ≤ (rul g.rules q).2.getD i 0 ∧ (rul g.rules q).2.getD i 0 ≤ 5 ∧ -g.toks ≤ (rul g.rules q).2.getD i 0 ∧ (rul g.rules q).2.getD i 0 ≤ g.nons - 1 := by
  have hn := good_nons hg
  have ht := good_toks hg
  simp only [goodG, Bool.and_eq_true, List.all_eq_true] at hg
  have h1 := hg.2 q (List.mem_range.2 hq)
  simp only [goodR, Bool.and_eq_true, List.all_eq_true] at h1
  have h2 := h1.1.2 _ (getD_mem hi)
  simp only [symB, inB, Bool.and_eq_true, decide_eq_true_eq] at h2
  omega
end Go.Sh
namespace Go.Proofs.Ytiohaeckagjebaa
open Go Go.Sh Go.RowKit
theorem symbolOf_c {x : Int} {w : World} {k : Value → World → Prop} (hk : k (.int .i64 (IntKind.i64.wrap (-1 - x))) w) : CallK Try.prog 179 [.int .i64 x] k w := by
  refine enter179 ?_
  unfold S179
  simp only [go_sem, Nat.reduceEqDiff]
  exact hk
end Go.Proofs.Ytiohaeckagjebaa

/- Contracts: what derives a part of a word, by the program. -/
set_option linter.unusedVariables false
set_option linter.unusedSimpArgs false
set_option maxRecDepth 100000
namespace Go.Sh
open Go
def cellsT (T : Tab) : List Value := (List.range 726).map fun p => .bool (cellT T p)
theorem cellsT_length (T : Tab) : (cellsT T).length = 726 := by simp [cellsT]
theorem cellT_at {T : Tab} {x i j : Nat} (hi : i < 11) (hj : j < 11) : cellT T (x * 121 + i * 11 + j) = T x i j := by
  have e1 : (x * 121 + i * 11 + j) / 121 = x := by omega
  have e2 : (x * 121 + i * 11 + j) / 11 % 11 = i := by omega
  have e3 : (x * 121 + i * 11 + j) % 11 = j := by omega
  simp [cellT, e1, e2, e3]
theorem cellsT_at {T : Tab} {v : Value} {x i j : Nat} (hx : x < 6) (hi : i < 11) (hj : j < 11) : (v :: cellsT T)[x * 121 + i * 11 + j + 1]? = some (.bool (T x i j)) := by
  rw [List.getElem?_cons_succ]
  simp only [cellsT, List.getElem?_map]
  rw [List.getElem?_range (by omega)]
  simp only [Option.map_some, cellT_at hi hj]
theorem cellsT_put {T : Tab} {v : Value} {x i j : Nat} (hx : x < 6) (hi : i < 11) (hj : j < 11) : (v :: cellsT T).set (x * 121 + i * 11 + j + 1) (.bool true) = v :: cellsT (T.put x i j) := by
  rw [List.set_cons_succ]
  congr 1
  refine List.ext_getElem? fun p => ?_
  rw [List.getElem?_set]
  by_cases hp : x * 121 + i * 11 + j = p
  · subst hp
    rw [if_pos rfl, if_pos (by rw [cellsT_length]; omega)]
    simp only [cellsT, List.getElem?_map]
    rw [List.getElem?_range (by omega)]
    simp only [Option.map_some, cellT_at hi hj]
    simp [Tab.put]
  · rw [if_neg hp]
    simp only [cellsT, List.getElem?_map]
    by_cases hlt : p < 726
    · rw [List.getElem?_range hlt]
      simp only [Option.map_some, cellT, Tab.put]
      have : ¬ (p / 121 = x ∧ p / 11 % 11 = i ∧ p % 11 = j) := by omega
      rw [if_neg this]
    · rw [List.getElem?_eq_none (by simp; omega)]
      rfl
theorem take_put_drop {l : List Value} {m : Nat} {v : Value} (h : m < l.length) : l.take m ++ [v] ++ l.drop (m + 1) = l.set m v := by
  rw [List.set_eq_take_append_cons_drop, if_pos h]
  simp
end Go.Sh
namespace Go.Proofs.Ytiohaeckagjebaa
open Go Go.Sh Go.RowKit

theorem sequence_c {ws : List Int} (hl : ws.length ≤ 10) (hw : ∀ t ∈ ws, 0 ≤ t ∧ t ≤ 100) : ∀ (right : List Int) {w : World} {b : Nat} {X Y : Option Addr} {cx cy : Nat} {T : Tab} {i j : Nat} {k : Value → World → Prop}, Box w b (.slice X ws.length cx :: cellsT T) 111 → Ints w X ws → Ints w Y right → right.length ≤ cy → (∀ x ∈ right, x < 6 ∧ -100 ≤ x) → i ≤ j → j ≤ ws.length → k (.bool (fitsT T ws right i j)) w →
    CallK Try.prog 149 [ptrv b, .slice Y right.length cy, .int .i64 i, .int .i64 j] k w := by
  intro right
  induction right with
  | nil =>
    intro w b X Y cx cy T i j k hB hX hY hcy hr hi hj hk
    refine enter149 ?_
    unfold S149
    simp only [go_sem, List.length_nil]
    simp only [Int.natCast_zero, decide_true, go_sem, Nat.reduceEqDiff, Int.natCast_inj]
    exact hk
  | cons x right ih =>
    intro w b X Y cx cy T i j k hB hX hY hcy hr hi hj hk
    refine enter149 ?_
    unfold S149
    simp only [go_sem, List.length_cons]
    simp only [show ¬ (((right.length + 1 : Nat) : Int) = 0) from by omega, decide_false, go_sem, Nat.reduceEqDiff]
    have hx := hr x (List.mem_cons_self ..)
    have hr' : ∀ y ∈ right, y < 6 ∧ -100 ≤ y := fun y hy => hr y (List.mem_cons_of_mem _ hy)
    simp only [List.length_cons] at hcy
    have hY' : Ints w (sub Y 1 cy 1) right := by
      have := hY.sub (l := 1) (c := cy) (by simp) (by simp; omega) (right.length)
      simpa using this
    rw [ix22_0 (fun _ => hY.ptr (by simp)) (by omega), ld3 (hY.cell 0 (by simp))]
    simp only [List.getD_cons_zero, go_sem, Nat.reduceEqDiff]
    by_cases hneg : x < 0
    · simp only [hneg, decide_true, go_sem, Nat.reduceEqDiff]
      rw [fits_tok hneg] at hk
      by_cases hij : i < j
      case neg =>
        simp only [show ¬ ((i : Int) < j) from by omega, decide_false, go_sem, Nat.reduceEqDiff]
        simpa only [hij, decide_false, Bool.false_and] using hk
      simp only [show ((i : Int) < j) from by omega, decide_true, go_sem, Nat.reduceEqDiff]
      rw [decide_eq_true hij, Bool.true_and] at hk
      rw [ldB22 hB rfl, ixn22 hX.ptr (by omega), ld3 (hX.cell i (by omega))]
      refine symbolOf_c ?_
      have hwi := hw _ (getD_mem (show i < ws.length by omega))
      rw [i64_of (by omega) (by omega)]
      simp only [go_sem, Nat.reduceEqDiff]
      by_cases he : ws.getD i 0 = -1 - x
      case neg =>
        simp only [show ¬ (-1 - ws.getD i 0 = x) from by omega, decide_false, go_sem, Nat.reduceEqDiff]
        simpa only [he, decide_false, Bool.false_and] using hk
      simp only [show (-1 - ws.getD i 0 = x) from by omega, decide_true, go_sem, Nat.reduceEqDiff]
      rw [decide_eq_true he, Bool.true_and] at hk
      rw [sll22 (by decide) (by omega), i64_of (by omega) (by omega)]
      rw [show (1 : Int).toNat = 1 from rfl, Nat.add_sub_cancel]
      refine ih (i := i + 1) hB hX hY' (by omega) hr' (by omega) hj ?_
      exact hk
    · simp only [hneg, decide_false, go_sem, Nat.reduceEqDiff]
      rw [fits_non hneg] at hk
      obtain ⟨x, rfl⟩ : ∃ x' : Nat, x = x' := ⟨x.toNat, by omega⟩
      rw [Int.toNat_natCast] at hk
      refine loop_to (j + 1) i (fun m f w' => i ≤ m ∧ m ≤ j + 1 ∧ f 10 = .int .i64 m ∧ (∀ m', i ≤ m' → m' < m → (T x i m' && fitsT T ws right m' j) = false) ∧ w' = w) ⟨Nat.le_refl _, by omega, rfl, fun m' h1 h2 => by omega, rfl⟩ ?_
      rintro m f w' N hag ⟨hm1, hm2, h10, hno, rfl⟩ hN
      have f0 : f 0 = ptrv b := hag 0 (by decide)
      have f1 : f 1 = .slice Y (right.length + 1) cy := hag 1 (by decide)
      have f2 : f 2 = .int .i64 i := hag 2 (by decide)
      have f3 : f 3 = .int .i64 j := hag 3 (by decide)
      have f9 : f 9 = .int .i64 (x : Nat) := hag 9 (by decide)
      simp only [f0, f1, f2, f3, f9, h10, go_sem, Nat.reduceEqDiff]
      by_cases hle : m ≤ j
      case neg =>
        simp only [show ¬ ((m : Int) ≤ j) from by omega, decide_false, go_sem, Nat.reduceEqDiff]
        rw [any_upto (fun m' h1 h2 => hno m' h1 (by omega))] at hk
        exact hk
      simp only [show ((m : Int) ≤ j) from by omega, decide_true, go_sem, Nat.reduceEqDiff]
      rw [ixa109 (by omega) (by omega), ixa108 (by omega) (by omega), ixa107 (by omega) (by omega)]
      simp only [Int.toNat_natCast, go_sem, Nat.reduceEqDiff]
      rw [ldB4 (off := 0 + 1 + x * 121 + i * 11 + m) hB (by rw [show 0 + 1 + x * 121 + i * 11 + m = x * 121 + i * 11 + m + 1 from by omega]; exact cellsT_at (by omega) (by omega) (by omega))]
      cases hs : T x i m
      · simp only [go_sem, Nat.reduceEqDiff]
        rw [i64_of (by omega) (by omega)]
        exact hN _ _ (by omega) ⟨by omega, by omega, rfl, fun m' h1 h2 => by
          by_cases e : m' = m
          · rw [e, hs, Bool.false_and]
          · exact hno m' h1 (by omega), rfl⟩
      · simp only [go_sem, Nat.reduceEqDiff]
        rw [sll22 (by decide) (by omega)]
        rw [show (1 : Int).toNat = 1 from rfl, Nat.add_sub_cancel]
        refine ih hB hX hY' (by omega) hr' (by omega) hj ?_
        cases hf : fitsT T ws right m j
        · simp only [go_sem, Nat.reduceEqDiff]
          rw [i64_of (by omega) (by omega)]
          exact hN _ _ (by omega) ⟨by omega, by omega, rfl, fun m' h1 h2 => by
            by_cases e : m' = m
            · rw [e, hf, Bool.and_false]
            · exact hno m' h1 (by omega), rfl⟩
        · simp only [go_sem, Nat.reduceEqDiff]
          rw [any_at hm1 hle (by rw [hs, hf]; rfl)] at hk
          exact hk
end Go.Proofs.Ytiohaeckagjebaa

/- Contracts: the reference's table of what derives what. -/
set_option linter.unusedVariables false
set_option linter.unusedSimpArgs false
set_option maxRecDepth 100000
namespace Go.Sh
open Go
theorem madeCells_one (v : Value) (n : Nat) : (madeCells #[v] (n * 1)).toList = List.replicate n v := by
  rw [Nat.mul_one]
  refine List.ext_getElem? fun i => ?_
  unfold madeCells
  by_cases h : i < n
  · simp [h, Nat.mod_one]
  · rw [List.getElem?_eq_none (by simp; omega), List.getElem?_eq_none (by simp; omega)]
def tabSt (rs : List RuleL) (ws : List Int) (s : Tab × Bool) : Prop := if s.2 = true then ∀ U, Span rs ws s.1 U → Span rs ws noTab U else Span rs ws noTab s.1
theorem tabSt_next {rs : List RuleL} {ws : List Int} {T : Tab} (h : tabSt rs ws (T, true)) : tabSt rs ws (passT rs ws (T, false)) := by
  unfold tabSt at h ⊢
  rw [if_pos rfl] at h
  cases hc : (passT rs ws (T, false)).2
  · rw [if_neg (by decide)]
    exact h _ (.done hc)
  · rw [if_pos rfl]
    exact fun U hU => h U (.more hc hU)
theorem good_right {g : Gram} (hg : goodG g = true) {q : Nat} (hq : q < g.rules.length) : ∀ x ∈ (rul g.rules q).2, x < g.nons ∧ -100 ≤ x := fun x hx => by
  obtain ⟨i, hi, rfl⟩ := List.getElem_of_mem hx
  have := good_symb hg hq hi
  rw [List.getD_eq_getElem?_getD, List.getElem?_eq_getElem hi] at this
  simp only [Option.getD_some] at this
  omega
theorem good_left {g : Gram} (hg : goodG g = true) {q : Nat} (hq : q < g.rules.length) : 0 ≤ (rul g.rules q).1 ∧ (rul g.rules q).1 ≤ g.nons - 1 := by
  simp only [goodG, Bool.and_eq_true, List.all_eq_true] at hg
  have h1 := hg.2 q (List.mem_range.2 hq)
  simp only [goodR, Bool.and_eq_true, inB, decide_eq_true_eq] at h1
  exact h1.1.1.1
theorem good_left6 {g : Gram} (hg : goodG g = true) : ∀ r ∈ g.rules, r.1.toNat < 6 := fun r hr => by
  obtain ⟨i, hi, rfl⟩ := List.getElem_of_mem hr
  have := good_left hg hi
  have := good_nons hg
  rw [rul_eq hi] at *
  omega
end Go.Sh
namespace Go.Proofs.Ytiohaeckagjebaa
open Go Go.Sh Go.RowKit
end Go.Proofs.Ytiohaeckagjebaa

/- Contract: the reference's numbers of trees of all sizes (l10Sized). -/
set_option linter.unusedVariables false
set_option linter.unusedSimpArgs false
set_option maxRecDepth 100000
namespace Go.Sh
open Go
/-- Heads while they are laid: kk rows, c leaves. -/
structure HeadP (hs : List (List Value)) (ps : Nat → Option Addr × Nat) (nons nn m kk c : Nat) : Prop where
  len : hs.length = nons
  row : ∀ A, A < kk → (vls hs A).length = nn
  val : ∀ A p, A < kk → p < nn → A * nn + p < c → (vls hs A)[p]? = some (.slice (ps (A * nn + p)).1 (m + 1) (ps (A * nn + p)).2)
theorem headP_row {hs : List (List Value)} {ps : Nat → Option Addr × Nat} {nons nn m k : Nat} {l : List Value} (h : HeadP hs ps nons nn m k (k * nn)) (hk : k < nons) (hl : l.length = nn) : HeadP (hs.set k l) ps nons nn m (k + 1) (k * nn + 0) := by
  have hlen := h.len
  refine ⟨by rw [List.length_set]; exact hlen, fun A hA => ?_, fun A p hA hp hc => ?_⟩
  · rw [vls_set (by omega)]
    split
    · exact hl
    · exact h.row A (by omega)
  · have hne : A ≠ k := fun e => by subst e; omega
    rw [vls_set (by omega), if_neg hne]
    exact h.val A p (by omega) hp hc
theorem headP_put {hs : List (List Value)} {ps : Nat → Option Addr × Nat} {nons nn m k i d : Nat} {Y : Option Addr} (h : HeadP hs ps nons nn m (k + 1) (k * nn + i)) (hk : k < nons) (hi : i < nn) :
    HeadP (hs.set k ((vls hs k).set i (.slice Y (m + 1) d))) (fun l => if l = k * nn + i then (Y, d) else ps l) nons nn m (k + 1) (k * nn + (i + 1)) := by
  have hlen := h.len
  have hkl := h.row k (by omega)
  refine ⟨by rw [List.length_set]; exact hlen, fun A hA => ?_, fun A p hA hp hc => ?_⟩
  · rw [vls_set (by omega)]
    split
    · rw [List.length_set]; exact hkl
    · exact h.row A hA
  · rw [vls_set (by omega)]
    by_cases e : A = k
    · subst e
      rw [if_pos rfl, List.getElem?_set]
      by_cases e2 : i = p
      · subst e2
        simp only [if_true]
        rw [if_pos (by omega)]
      · rw [if_neg e2]
        simp only [show ¬ (A * nn + p = A * nn + i) from by omega, if_false]
        exact h.val A p hA hp (by omega)
    · rw [if_neg e]
      have h2 : (A + 1) * nn ≤ k * nn := Nat.mul_le_mul_right _ (by omega)
      rw [Nat.add_mul] at h2
      simp only [show ¬ (A * nn + p = k * nn + i) from by omega, if_false]
      exact h.val A p hA hp (by omega)
theorem headP_done {hs : List (List Value)} {ps : Nat → Option Addr × Nat} {nons n m : Nat} (h : HeadP hs ps nons (n * n) m nons (nons * (n * n))) : HeadT hs ps nons n m :=
  ⟨h.len, h.row, fun A p hA hp => h.val A p hA hp (by
    have h2 : (A + 1) * (n * n) ≤ nons * (n * n) := Nat.mul_le_mul_right _ hA
    rw [Nat.add_mul] at h2
    omega)⟩
section
variable {P : Program} {k : Value → World → Prop} {w0 w : World} {L : List Thing}
theorem makeHG (H : Apt w0 w L) {t e sz by' : Nat} {z : Value} (ht : P.underlying t = some (.slice e)) (I : Inf P e z sz by') {kl kc : IntKind} {n : Nat} (hm : by' * n ≤ 281474976710656) (hmax : n ≤ 9223372036854775807)
    (h : ∀ b w', Gr w w' → Apt w0 w' (L ++ [rwi e sz (some ⟨b, 0, none⟩) n n (madeCells z.cells (n * sz)).toList]) → k (.slice (some ⟨b, 0, none⟩) n n) w') : Do P (sMakeSlice t (.int kl n) (.int kc n)) k w :=
  do_make_of ht I hm hmax fun b w' hb hb' g hr => h b w' g (H.addRow g (hr _ (Nat.le_refl _)))
end
theorem ints_rep (n : Nat) : List.replicate n (Value.int .i64 0) = Sh.ints (List.replicate n 0) := by simp [Sh.ints]
end Go.Sh
namespace Go.Proofs.Ytiohaeckagjebaa
open Go Go.Sh Go.RowKit
set_option maxHeartbeats 1600000 in
theorem l10Sized_c {F : Nat → Prop} {w : World} {v : Value} {gm : Gram} {X : Option Addr} {cx n0 m M : Nat} {ws : List Int} (hM : M = 1000000000) (hv : GramV F w v gm) (hg : goodG gm = true) (hX : Ints w X ws) (hn : n0 = ws.length) (hl : ws.length ≤ 10) (hw : ∀ x ∈ ws, 0 ≤ x ∧ x ≤ 100) (hm : m ≤ 20) {k : Value → World → Prop}
    (hk : ∀ w' U c nons hs hp ls ps, gm.nons = (nons : Nat) → Apt w w' [vvi 48 22 U c hs hp, fami 3 ls ps] → HeadT hs ps nons (ws.length + 1) m → LeafT ls nons (ws.length + 1) m (fun A i j k => min M (cntC gm.rules ws A i j k)) → k (.slice U nons c) w') :
    CallK Try.prog 117 [v, .slice X n0 cx, .int .i64 m] k w := by
  subst hn
  obtain ⟨Y, cy, rfl, hc, hy⟩ := hv
  have hn6 := good_nons hg
  have hr16 := good_len hg
  have hleft6 := good_left6 hg
  obtain ⟨nons, hnn⟩ : ∃ n : Nat, gm.nons = n := ⟨gm.nons.toNat, by omega⟩
  refine enter117 ?_
  unfold S117
  have H := Apt.nil w
  refine boxH H fun b1 w1 H => ?_
  rw [hnn] at H
  simp only [go_sem, Nat.reduceEqDiff]
  rw [ldB3 (H.box 0 rfl) rfl]
  rw [i64_of (by omega) (by omega)]
  refine makeH H u126 inf48 (by omega) (by omega) fun b2 w2 H => ?_
  rw [show (Value.slice none 0 0).cells = #[.slice none 0 0] from rfl, madeCells_one] at H
  have H := H.nilVV 1 22 rfl
  simp only [List.nil_append, List.cons_append, List.set_cons_zero, List.set_cons_succ] at H
  have H := H.addFam 3 fun _ => (none, 0)
  simp only [List.nil_append, List.cons_append] at H
  simp only [go_sem, Nat.reduceEqDiff]
  generalize hN : ws.length + 1 = n at *
  have hNi : ((ws.length : Int) + 1) = (n : Int) := by omega
  rw [hNi]
  have hnn11 : n * n ≤ 11 * 11 := Nat.mul_le_mul (by omega) (by omega)
  have hn0 : 0 < n := by omega
  refine loop_to nons 0 (fun i f w' => i ≤ nons ∧ f 25 = .int .i64 i ∧ ∃ (hs : List (List Value)) (hp ps : Nat → Option Addr × Nat), HeadP hs ps nons (n * n) m i (i * (n * n)) ∧ Apt w w' [bx b1 [.int .i64 nons, .int .i64 gm.toks, .slice Y gm.rules.length cy] 37, vvi 48 22 (some ⟨b2, 0, none⟩) nons hs hp, fami 3 (List.replicate (i * (n * n)) (List.replicate (m + 1) 0)) ps])
    ⟨Nat.zero_le _, rfl, List.replicate nons [], _, _, ⟨List.length_replicate, fun A hA => by omega, fun A p hA => by omega⟩, by rw [Nat.zero_mul]; exact H⟩ ?_
  rintro i f w3 N hag ⟨hi, h25, hs, hp, ps, hP, H⟩ hN'
  have f24 : f 24 = .int .i64 nons := hag 24 (by decide)
  have f7 : f 7 = .int .i64 n := hag 7 (by decide)
  have f8 : f 8 = .slice (some ⟨b2, 0, none⟩) nons nons := hag 8 (by decide)
  have f3 : f 3 = ptrv b1 := hag 3 (by decide)
  have f2 : f 2 = .int .i64 m := hag 2 (by decide)
  have f1 : f 1 = .slice X ws.length cx := hag 1 (by decide)
  simp only [f24, f7, f8, h25, go_sem, Nat.reduceEqDiff]
  by_cases hlt : i < nons
  · simp only [show (i : Int) < nons from by omega, decide_true, go_sem, Nat.reduceEqDiff]
    rw [show (n : Int) * (n : Int) = ((n * n : Nat) : Int) from by push_cast; rfl, i64_of (by omega) (by omega)]
    refine makeH H (n := n * n) u48 inf22 (by omega) (by omega) fun b3 w4 H => ?_
    rw [show (Value.slice none 0 0).cells = #[.slice none 0 0] from rfl, madeCells_one] at H
    rw [ixn126 (fun _ => rfl) hlt]
    refine setRowVV H 1 3 i (by decide) rfl rfl (by simp) (by decide) sz48 (by rw [hP.len]; omega) fun w5 hp' H => ?_
    have H := H.erase 3
    simp only [List.nil_append, List.cons_append, List.set_cons_zero, List.set_cons_succ, List.eraseIdx_cons_zero, List.eraseIdx_cons_succ] at H
    have hP := headP_row hP hlt (l := List.replicate (n * n) (.slice none 0 0)) (by simp)
    generalize hs.set i (List.replicate (n * n) (.slice none 0 0)) = hs' at *
    have hil : i < hs'.length := by rw [hP.len]; exact hlt
    have hcell := (H.vv 1 rfl).cell hil
    rw [hP.row i (by omega)] at hcell
    refine rdi (ixn126 (fun _ => rfl) hlt) (rdi (ld48 hcell) ?_)
    simp only [go_sem, Nat.reduceEqDiff]
    refine loop_to (n * n) 0 (fun a f w' => a ≤ n * n ∧ f 40 = .int .i64 a ∧ ∃ (hs : List (List Value)) (hp ps : Nat → Option Addr × Nat), HeadP hs ps nons (n * n) m (i + 1) (i * (n * n) + a) ∧ Apt w w' [bx b1 [.int .i64 nons, .int .i64 gm.toks, .slice Y gm.rules.length cy] 37, vvi 48 22 (some ⟨b2, 0, none⟩) nons hs hp, fami 3 (List.replicate (i * (n * n) + a) (List.replicate (m + 1) 0)) ps])
      ⟨Nat.zero_le _, rfl, _, _, _, hP, H⟩ ?_
    clear hcell hil hP H
    rintro a g w6 N2 hag2 ⟨ha, h40, hs, hp, ps, hP, H⟩ hN2
    have g39 : g 39 = .int .i64 (n * n : Nat) := hag2 39 (by decide)
    have g8 : g 8 = .slice (some ⟨b2, 0, none⟩) nons nons := (hag2 8 (by decide)).trans f8
    have g9 : g 9 = .int .i64 i := hag2 9 (by decide)
    have g2 : g 2 = .int .i64 m := (hag2 2 (by decide)).trans f2
    have g25 : g 25 = .int .i64 i := (hag2 25 (by decide)).trans h25
    simp only [g39, g8, g9, g2, g25, h40, go_sem, Nat.reduceEqDiff]
    by_cases hla : a < n * n
    case neg =>
      simp only [show ¬ ((a : Int) < ((n * n : Nat) : Int)) from by omega, decide_false, go_sem, Nat.reduceEqDiff]
      rw [i64_of (by omega) (by omega)]
      obtain rfl : a = n * n := by omega
      refine hN' _ _ hlt ⟨hlt, rfl, hs, hp, ps, ?_, ?_⟩
      · rw [Nat.add_mul, Nat.one_mul]
        exact hP
      · rw [Nat.add_mul, Nat.one_mul]
        exact H
    simp only [show ((a : Int) < ((n * n : Nat) : Int)) from by omega, decide_true, go_sem, Nat.reduceEqDiff]
    have hil : i < hs.length := by rw [hP.len]; exact hlt
    have H := H.drew
    have hcell := (H.vv 1 rfl).cell hil
    have hown := (H.vv 1 rfl).own i hil
    have hrl := hP.row i (by omega)
    rw [hrl] at hcell hown
    refine ⟨fun w' => Gr w6.drew w', Gr.refl _, ?_⟩
    refine rdi (ixn126 (fun _ => rfl) hlt) (rdi (ldS48 fun w' g' => g'.cell hcell) ?_)
    simp only [go_sem, Nat.reduceEqDiff]
    rw [i64_of (by omega) (by omega), show (m : Int) + 1 = ((m + 1 : Nat) : Int) from rfl]
    refine makeHG H (n := m + 1) u22 inf3 (by omega) (by omega) fun b4 w7 g7 H' => ?_
    refine ⟨g7, ?_⟩
    rw [show (Value.int .i64 0).cells = #[.int .i64 0] from rfl, madeCells_one, ints_rep] at H'
    refine rdi (ixn48 (fun h => hown.ptr (by omega)) hla) ?_
    refine storeVV H' 1 i (m := a) rfl (by decide) sz22 rfl rfl hil (by omega) fun w8 H => ?_
    simp only [List.nil_append, List.cons_append, List.set_cons_zero, List.set_cons_succ] at H
    have H := H.famPush (i := 2) (j := 3) (by decide) (ys := List.replicate (m + 1) 0) rfl (by rw [List.length_replicate]; rfl)
    have H := H.erase 3
    simp only [List.nil_append, List.cons_append, List.set_cons_zero, List.set_cons_succ, List.eraseIdx_cons_zero, List.eraseIdx_cons_succ, List.length_replicate] at H
    rw [← List.replicate_succ'] at H
    rw [i64_of (by omega) (by omega)]
    exact hN2 _ _ hla ⟨hla, rfl, _, _, _, headP_put hP hlt hla, H⟩
  have hin : i = nons := by omega
  simp only [show ¬ ((i : Int) < nons) from by omega, decide_false, go_sem, Nat.reduceEqDiff]
  subst hin
  have hh := headP_done hP
  have hlf := (leafT_zero (nons := i) (n := n) (m := m)).congr (t' := fillT M gm.rules ws 1 0 0 0) fun A i' j' k' _ _ _ _ => fillT_start
  clear hN' h25 hi hlt hP
  generalize List.replicate (i * (n * n)) (List.replicate (m + 1) (0 : Int)) = ls at *
  refine loop_to m 0 (fun s f w' => s ≤ m ∧ f 11 = .int .i64 ((s + 1 : Nat) : Int) ∧ ∃ ls, LeafT ls i n m (fillT M gm.rules ws (s + 1) 0 0 0) ∧ Apt w w' [bx b1 [.int .i64 i, .int .i64 gm.toks, .slice Y gm.rules.length cy] 37, vvi 48 22 (some ⟨b2, 0, none⟩) i hs hp, fami 3 ls ps])
    ⟨Nat.zero_le _, rfl, _, hlf, H⟩ ?_
  clear hlf
  rintro s g0 w6 N2 hag2 ⟨hs1, h11, ls, hlf, H⟩ hN2
  have c2 : g0 2 = .int .i64 m := (hag2 2 (by decide)).trans f2
  have c3 : g0 3 = ptrv b1 := (hag2 3 (by decide)).trans f3
  have c8 : g0 8 = .slice (some ⟨b2, 0, none⟩) i i := (hag2 8 (by decide)).trans f8
  have c7 : g0 7 = .int .i64 n := (hag2 7 (by decide)).trans f7
  have c1 : g0 1 = .slice X ws.length cx := (hag2 1 (by decide)).trans f1
  simp only [c2, c3, h11, go_sem, Nat.reduceEqDiff]
  by_cases hlm : s < m
  case neg =>
    simp only [show ¬ (((s + 1 : Nat) : Int) ≤ (m : Int)) from by omega, decide_false, go_sem, Nat.reduceEqDiff]
    obtain rfl : s = m := by omega
    rw [c8]
    refine hk _ _ _ i hs hp ls ps hnn (H.erase 0) hh (hlf.congr fun A i' j' k' _ _ _ hk' => (fillT_done (by omega)).symm)
  simp only [show (((s + 1 : Nat) : Int) ≤ (m : Int)) from by omega, decide_true, go_sem, Nat.reduceEqDiff]
  rw [ldB35 (H.box 0 rfl) rfl]
  simp only [go_sem, Nat.reduceEqDiff]
  refine loop_to gm.rules.length 0 (fun q f w' => q ≤ gm.rules.length ∧ f 62 = .int .i64 q ∧ ∃ ls, LeafT ls i n m (fillT M gm.rules ws (s + 1) q 0 0) ∧ Apt w w' [bx b1 [.int .i64 i, .int .i64 gm.toks, .slice Y gm.rules.length cy] 37, vvi 48 22 (some ⟨b2, 0, none⟩) i hs hp, fami 3 ls ps])
    ⟨Nat.zero_le _, rfl, _, hlf, H⟩ ?_
  clear hlf
  rintro q g1 w7 N3 hag3 ⟨hq, h62, ls, hlf, H⟩ hN3
  have e60 : g1 60 = .slice Y gm.rules.length cy := hag3 60 (by decide)
  have e61 : g1 61 = .int .i64 gm.rules.length := hag3 61 (by decide)
  have e11 : g1 11 = .int .i64 ((s + 1 : Nat) : Int) := (hag3 11 (by decide)).trans h11
  have e7 : g1 7 = .int .i64 n := (hag3 7 (by decide)).trans c7
  have e8 : g1 8 = .slice (some ⟨b2, 0, none⟩) i i := (hag3 8 (by decide)).trans c8
  have e1 : g1 1 = .slice X ws.length cx := (hag3 1 (by decide)).trans c1
  simp only [e60, e61, e11, h62, go_sem, Nat.reduceEqDiff]
  by_cases hlq : q < gm.rules.length
  case neg =>
    simp only [show ¬ ((q : Int) < gm.rules.length) from by omega, decide_false, go_sem, Nat.reduceEqDiff]
    obtain rfl : q = gm.rules.length := by omega
    rw [i64_of (by omega) (by omega)]
    exact hN2 _ _ hlm ⟨by omega, by show Value.int .i64 (((s + 1 : Nat) : Int) + 1) = _; congr 1, ls, hlf.congr fun A i' j' k' _ _ _ _ => fillT_size (by omega), H⟩
  simp only [show ((q : Int) < gm.rules.length) from by omega, decide_true, go_sem, Nat.reduceEqDiff]
  obtain ⟨Z, cz, t1, t2, t3, t4⟩ := hy.row q hlq
  have hleft := good_left hg hlq
  have hright := good_right hg hlq
  have hR4 := good_rule hg q hlq
  obtain ⟨xl, hxl⟩ : ∃ x : Nat, (rul gm.rules q).1 = x := ⟨(rul gm.rules q).1.toNat, by omega⟩
  rw [hxl] at t1 hleft
  rw [ixn35 hy.ptr hlq, ld_agg agg77 sz77 (cs := [.int .i64 xl, .slice Z (rul gm.rules q).2.length cz]) rfl (fun j hj => by
    match j, hj with
    | 0, _ => rw [add_add, Nat.add_zero]; exact H.gr.cell t1
    | 1, _ => rw [add_add]; exact H.gr.cell t2)]
  refine allocH H inf77 fun b3 w8 H => ?_
  refine storeH H 3 rfl sz77 rfl rfl rfl fun w9 H => ?_
  simp only [List.nil_append, List.cons_append, List.set_cons_zero, List.set_cons_succ] at H
  refine loop_to n 0 (fun a f w' => a ≤ n ∧ f 14 = .int .i64 a ∧ ∃ ls, LeafT ls i n m (fillT M gm.rules ws (s + 1) q a 0) ∧ Apt w w' [bx b1 [.int .i64 i, .int .i64 gm.toks, .slice Y gm.rules.length cy] 37, vvi 48 22 (some ⟨b2, 0, none⟩) i hs hp, fami 3 ls ps, bx b3 [.int .i64 xl, .slice Z (rul gm.rules q).2.length cz] 77])
    ⟨Nat.zero_le _, rfl, _, hlf, H⟩ ?_
  clear hlf
  rintro a g2 w10 N4 hag4 ⟨ha, h14, ls, hlf, H⟩ hN4
  have k7 : g2 7 = .int .i64 n := (hag4 7 (by decide)).trans e7
  have k8 : g2 8 = .slice (some ⟨b2, 0, none⟩) i i := (hag4 8 (by decide)).trans e8
  have k1 : g2 1 = .slice X ws.length cx := (hag4 1 (by decide)).trans e1
  have k13 : g2 13 = ptrv b3 := hag4 13 (by decide)
  have k62 : g2 62 = .int .i64 q := (hag4 62 (by decide)).trans h62
  have k11 : g2 11 = .int .i64 ((s + 1 : Nat) : Int) := (hag4 11 (by decide)).trans e11
  simp only [k7, h14, k62, go_sem, Nat.reduceEqDiff]
  by_cases hla : a < n
  case neg =>
    simp only [show ¬ ((a : Int) < n) from by omega, decide_false, go_sem, Nat.reduceEqDiff]
    rw [i64_of (by omega) (by omega)]
    obtain rfl : a = n := by omega
    exact hN3 _ _ hlq ⟨hlq, rfl, ls, hlf.congr fun A i' j' k' _ hi' _ _ => fillT_rule hlq hi', H.take 3⟩
  simp only [show ((a : Int) < n) from by omega, decide_true, go_sem, Nat.reduceEqDiff]
  refine loop_to n a (fun b f w' => a ≤ b ∧ b ≤ n ∧ f 15 = .int .i64 b ∧ ∃ ls, LeafT ls i n m (fillT M gm.rules ws (s + 1) q a b) ∧ Apt w w' [bx b1 [.int .i64 i, .int .i64 gm.toks, .slice Y gm.rules.length cy] 37, vvi 48 22 (some ⟨b2, 0, none⟩) i hs hp, fami 3 ls ps, bx b3 [.int .i64 xl, .slice Z (rul gm.rules q).2.length cz] 77])
    ⟨Nat.le_refl _, by omega, rfl, _, hlf.congr fun A i' j' k' _ _ _ _ => fillT_col, H⟩ ?_
  clear hlf
  rintro b g3 w11 N5 hag5 ⟨hb1, hb2, h15, ls, hlf, H⟩ hN5
  have m7 : g3 7 = .int .i64 n := (hag5 7 (by decide)).trans k7
  have m8 : g3 8 = .slice (some ⟨b2, 0, none⟩) i i := (hag5 8 (by decide)).trans k8
  have m1 : g3 1 = .slice X ws.length cx := (hag5 1 (by decide)).trans k1
  have m13 : g3 13 = ptrv b3 := (hag5 13 (by decide)).trans k13
  have m14 : g3 14 = .int .i64 a := (hag5 14 (by decide)).trans h14
  have m11 : g3 11 = .int .i64 ((s + 1 : Nat) : Int) := (hag5 11 (by decide)).trans k11
  simp only [m7, m8, m1, m13, m14, m11, h15, go_sem, Nat.reduceEqDiff]
  by_cases hlb : b < n
  case neg =>
    simp only [show ¬ ((b : Int) < n) from by omega, decide_false, go_sem, Nat.reduceEqDiff]
    rw [i64_of (by omega) (by omega)]
    obtain rfl : b = n := by omega
    exact hN4 _ _ hla ⟨hla, rfl, ls, hlf.congr fun A i' j' k' _ _ hj' _ => fillT_row hj', H⟩
  simp only [show ((b : Int) < n) from by omega, decide_true, go_sem, Nat.reduceEqDiff]
  have hxn : xl < i := by omega
  have hab := place_lt (n := n) (show a < n by omega) hlb
  have hab' : (a : Int) * (n : Int) = ((a * n : Nat) : Int) := by push_cast; rfl
  have hidx : IntKind.i64.wrap (IntKind.i64.wrap ((a : Int) * (n : Int)) + (b : Int)) = ((a * n + b : Nat) : Int) := by
    rw [hab', i64_of (n := ((a * n : Nat) : Int)) (by omega) (by omega), i64_of (by omega) (by omega)]
    rfl
  have o := H.vv 1 rfl
  have fm := H.fam 2 rfl
  rw [hidx, ldB3 (H.box 3 rfl) rfl]
  refine rdi (ixn126 (fun _ => rfl) hxn) (rdi (ld48 (head_cell o hh hxn)) (rdi (ixn48 (fun _ => head_ptr o hh hxn hn0) hab) (rdi (ld22 (head_leaf o hh hxn hla hlb)) (rdi (ixn22 (fun _ => leaf_ptr fm hlf hxn hla hlb) (by omega)) (rdi (ld3 (leaf_cell fm hlf hxn hla hlb (by omega))) ?_)))))
  simp only [go_sem, Nat.reduceEqDiff]
  have H := H.drew
  have o := H.vv 1 rfl
  have fm := H.fam 2 rfl
  have hT := tabR_of o fm hh hlf hn0
  refine ⟨fun w' => Gr w11.drew w', Gr.refl _, ?_⟩
  refine rdi (rdG one3 (H.box 3 rfl) rfl) ?_
  refine rdi (ixn126 (fun _ => rfl) hxn) (rdi (ldS48 fun w' g' => g'.cell (head_cell o hh hxn)) ?_)
  simp only [go_sem, Nat.reduceEqDiff]
  refine rdi (ixn48 (fun _ => head_ptr o hh hxn hn0) hab) (rdi (ldS22 fun w' g' => g'.cell (head_leaf o hh hxn hla hlb)) ?_)
  refine rdi (rdG one22 (H.box 3 rfl) rfl) ?_
  rw [i64_of (by omega) (by omega), show ((s + 1 : Nat) : Int) - 1 = (s : Int) from by omega]
  rw [← hN] at hT hlf
  refine l10Row_c (c := cntC gm.rules ws) hM hT (hX.gr H.gr) hl hw (by omega) hm (t4.is.gr H.gr) t3 (by omega) (fun x hx => by have := hright x hx; omega) (by omega) (by omega) (by omega) (fun A i' j' k' hk' => fillT_done (by omega)) fun y hy => ?_
  rw [hN] at hlf
  refine ⟨Gr.refl _, ?_⟩
  have hle : fillT M gm.rules ws (s + 1) q a b xl a b (s + 1) ≤ M := by
    unfold fillT
    rw [if_neg (by omega), if_pos rfl]
    exact Nat.min_le_left _ _
  simp only [go_sem, Nat.reduceEqDiff]
  rw [i64_of (by omega) (by omega)]
  rw [show ((fillT M gm.rules ws (s + 1) q a b xl a b (s + 1) : Nat) : Int) + (y : Int) = ((fillT M gm.rules ws (s + 1) q a b xl a b (s + 1) + y : Nat) : Int) from by push_cast; rfl]
  have hat := fillT_at (M := M) (ws := ws) (s := s + 1) (a := a) (b := b) hxl
  rw [show s + 1 - 1 = s from rfl, ← hy] at hat
  refine l10Cap_c hM hat ?_
  refine ⟨Gr.refl _, ?_⟩
  refine rdi (ixn22 (fun _ => leaf_ptr fm hlf hxn hla hlb) (by omega)) ?_
  refine famPut H 2 (idxT n xl a b) (m := s + 1) rfl (by rw [hlf.len]; exact idxT_lt hxn hla hlb) (by rw [hlf.row xl a b hxn hla hlb]; omega) fun w12 H => ?_
  simp only [List.nil_append, List.cons_append, List.set_cons_zero, List.set_cons_succ] at H
  simp only [go_sem, Nat.reduceEqDiff]
  rw [i64_of (n := (b : Int) + 1) (by omega) (by omega)]
  exact hN5 _ _ hlb ⟨by omega, hlb, rfl, _, hlf.put hxn hla hlb (by omega) rfl fun A' i' j' k' _ _ _ _ hne => fillT_step hxl hne, H⟩
end Go.Proofs.Ytiohaeckagjebaa

/- Contract: the program's table of what derives what. -/
set_option linter.unusedVariables false
set_option linter.unusedSimpArgs false
set_option maxRecDepth 100000
namespace Go.Sh
open Go
theorem map_const_range (n : Nat) (v : Value) : (List.range n).map (fun _ => v) = List.replicate n v := by
  rw [List.map_const', List.length_range]
theorem cellsT_none : cellsT noTab = List.replicate 726 (.bool false) := map_const_range 726 (.bool false)
theorem fill_one {place : Nat → Option (Nat × Nat)} {cells : Array Value} {v : Value} (hp : place 0 = some (0, 1)) (hv : v.cells = #[v]) (h0 : 0 < cells.size) : Instr.fill place cells [(0, v)] = some (cells.setIfInBounds 0 v) := by
  simp only [Instr.fill, hp, hv]
  have e : (decide ((#[v] : Array Value).size ≠ 1) || decide (0 + (#[v] : Array Value).size > cells.size)) = false := by
    rw [Bool.or_eq_false_iff]
    exact ⟨by simp, decide_eq_false (by show ¬ (0 + 1 > cells.size); omega)⟩
  rw [if_neg (by rw [e]; exact Bool.false_ne_true)]
  simp
theorem set_head {a v : Value} {R : Array Value} : (#[a] ++ R).setIfInBounds 0 v = #[v] ++ R := by
  apply Array.ext'
  simp
theorem agg_pos (v : Value) (R : Array Value) : 0 < (Value.agg (#[v] ++ R)).cells.size := by
  show 0 < (#[v] ++ R).size
  simp
  omega
theorem agg_list (v : Value) (R : Array Value) : (Value.agg (#[v] ++ R)).cells.toList = v :: R.toList := by
  show (#[v] ++ R).toList = _
  simp
theorem rep_list (n : Nat) (v : Value) : (Array.replicate n v).toList = List.replicate n v := Array.toList_replicate
end Go.Sh
namespace Go.Proofs.Ytiohaeckagjebaa
open Go Go.Sh Go.RowKit
theorem inf111' : Inf Try.prog 111 (.agg (#[.slice none 0 0] ++ Array.replicate 726 (.bool false))) 727 752 := inf_of (by kernel_rfl)
theorem sz109' : szOf Try.prog 109 726 := szOf_of (by kernel_rfl)
theorem bd111 (X : Option Addr) (n c : Nat) : ∃ z : Value, (∀ (S : WS) (k : Value → Prop), Rd Try.prog S (sBuild 111 [(0, .slice X n c)]) k = k z) ∧ z.cells.toList = .slice X n c :: cellsT noTab := by
  refine ⟨.agg (#[.slice X n c] ++ Array.replicate 726 (.bool false)), fun S k => ?_, ?_⟩
  · refine rd_buildN (ps := [(0, 1), (1, 726)]) Try.underlying111 inf111' ⟨⟨rfl, sz22⟩, ⟨rfl, sz109'⟩, trivial⟩ ((fill_one rfl rfl ?_).trans (congrArg some set_head))
    exact agg_pos _ _
  · rw [agg_list, cellsT_none]
    exact congrArg _ (rep_list _ _)

theorem spans_c {F : Nat → Prop} {w : World} {v : Value} {gm : Gram} {X : Option Addr} {cx n0 : Nat} {ws : List Int} (hv : GramV F w v gm) (hg : goodG gm = true) (hX : Ints w X ws) (hn : n0 = ws.length) (hl : ws.length ≤ 10) (hw : ∀ t ∈ ws, 0 ≤ t ∧ t ≤ 100) {k : Value → World → Prop}
    (hk : ∀ w' b, Apt w w' [bx b (.slice X ws.length cx :: cellsT (spanT gm.rules ws)) 111] → k (ptrv b) w') :
    CallK Try.prog 104 [v, .slice X n0 cx] k w := by
  subst hn
  obtain ⟨Y, cy, rfl, hc, hy⟩ := hv
  have hn6 := good_nons hg
  have hr16 := good_len hg
  have hleft6 := good_left6 hg
  refine enter104 ?_
  unfold S104
  have H := Apt.nil w
  refine boxH H fun b1 w1 H => ?_
  obtain ⟨z, hz1, hz2⟩ := bd111 X ws.length cx
  refine rdi (hz1 _ _) ?_
  refine boxH H fun b2 w2 H => ?_
  rw [hz2] at H
  simp only [List.nil_append, List.cons_append] at H
  refine loop_ghost (fun (s : Tab × Bool) f w' => tabSt gm.rules ws s ∧ f 6 = .bool s.2 ∧ Apt w w' [bx b1 [.int .i64 gm.nons, .int .i64 gm.toks, .slice Y gm.rules.length cy] 37, bx b2 (.slice X ws.length cx :: cellsT s.1) 111]) (fun s => if s.2 = true then openT s.1 + 1 else 0) (noTab, true)
    ⟨by unfold tabSt; rw [if_pos rfl]; exact fun U h => h, rfl, H⟩ ?_
  rintro ⟨T, more⟩ f7 w6 N2 hag2 ⟨hst, h8, H⟩ hN2
  have f2' : f7 2 = ptrv b1 := hag2 2 (by decide)
  have f5' : f7 5 = ptrv b2 := hag2 5 (by decide)
  have f1' : f7 1 = .slice X ws.length cx := hag2 1 (by decide)
  simp only [h8, f2', go_sem, Nat.reduceEqDiff]
  cases more
  · simp only [go_sem, Nat.reduceEqDiff]
    rw [f5']
    have hsp : T = spanT gm.rules ws := by
      unfold tabSt at hst
      rw [if_neg Bool.false_ne_true] at hst
      exact hst.eq
    rw [← hsp] at hk
    exact hk _ b2 (H.erase 0)
  simp only [go_sem, Nat.reduceEqDiff]
  rw [ldB35 (H.box 0 rfl) rfl]
  simp only [go_sem, Nat.reduceEqDiff]
  refine loop_to gm.rules.length 0 (fun q f w' => q ≤ gm.rules.length ∧ f 18 = .int .i64 q ∧ f 6 = .bool ((gm.rules.take q).foldl (ruleT ws) (T, false)).2 ∧ Apt w w' [bx b1 [.int .i64 gm.nons, .int .i64 gm.toks, .slice Y gm.rules.length cy] 37, bx b2 (.slice X ws.length cx :: cellsT ((gm.rules.take q).foldl (ruleT ws) (T, false)).1) 111])
    ⟨Nat.zero_le _, rfl, rfl, H⟩ ?_
  rintro q g1 w7 N3 hag3 ⟨hq, h36, h8', H⟩ hN3
  have e34 : g1 16 = .slice Y gm.rules.length cy := hag3 16 (by decide)
  have e35 : g1 17 = .int .i64 gm.rules.length := hag3 17 (by decide)
  have e5 : g1 5 = ptrv b2 := (hag3 5 (by decide)).trans f5'
  have e1 : g1 1 = .slice X ws.length cx := (hag3 1 (by decide)).trans f1'
  simp only [e34, e35, e1, h36, go_sem, Nat.reduceEqDiff]
  by_cases hlq : q < gm.rules.length
  case neg =>
    simp only [show ¬ ((q : Int) < gm.rules.length) from by omega, decide_false, go_sem, Nat.reduceEqDiff]
    rw [List.take_of_length_le (by omega)] at h8' H
    have hinc := passT_inc hleft6 hl (T, false)
    refine hN2 (passT gm.rules ws (T, false)) _ _ ⟨tabSt_next hst, h8', H⟩ ?_
    rw [if_pos rfl]
    rcases hinc with he | ⟨h1, h2⟩
    · rw [he, if_neg Bool.false_ne_true]
      omega
    · rw [if_pos h1]
      dsimp only at h2 ⊢
      omega
  simp only [show ((q : Int) < gm.rules.length) from by omega, decide_true, go_sem, Nat.reduceEqDiff]
  obtain ⟨Z, cz, t1, t2, t3, t4⟩ := hy.row q hlq
  have hleft := good_left hg hlq
  have hright := good_right hg hlq
  have hR4 := good_rule hg q hlq
  generalize hr : rul gm.rules q = r at *
  obtain ⟨xl, hxl⟩ : ∃ x : Nat, r.1 = x := ⟨r.1.toNat, by omega⟩
  rw [hxl] at t1 hleft
  rw [ixn35 hy.ptr hlq, ld_agg agg77 sz77 (cs := [.int .i64 xl, .slice Z r.2.length cz]) rfl (fun j hj => by
    match j, hj with
    | 0, _ => rw [add_add, Nat.add_zero]; exact H.gr.cell t1
    | 1, _ => rw [add_add]; exact H.gr.cell t2)]
  refine allocH H inf77 fun b3 w8 H => ?_
  refine storeH H 2 rfl sz77 rfl rfl rfl fun w9 H => ?_
  simp only [List.nil_append, List.cons_append, List.set_cons_zero, List.set_cons_succ] at H
  generalize hN : ws.length + 1 = n at *
  have hNi : ((ws.length : Int) + 1) = (n : Int) := by omega
  rw [hNi, i64_of (n := (n : Int)) (by omega) (by omega)]
  generalize hs0 : (gm.rules.take q).foldl (ruleT ws) (T, false) = s0 at *
  refine loop_to n 0 (fun a f w' => a ≤ n ∧ f 25 = .int .i64 a ∧ f 6 = .bool ((List.range a).foldl (rowT ws r) s0).2 ∧ Apt w w' [bx b1 [.int .i64 gm.nons, .int .i64 gm.toks, .slice Y gm.rules.length cy] 37, bx b2 (.slice X ws.length cx :: cellsT ((List.range a).foldl (rowT ws r) s0).1) 111, bx b3 [.int .i64 xl, .slice Z r.2.length cz] 77])
    ⟨Nat.zero_le _, rfl, h8', H⟩ ?_
  rintro a g2 w10 N4 hag4 ⟨ha, h11, h8a, H⟩ hN4
  have k24 : g2 24 = .int .i64 n := hag4 24 (by decide)
  have k5 : g2 5 = ptrv b2 := (hag4 5 (by decide)).trans e5
  have k1 : g2 1 = .slice X ws.length cx := (hag4 1 (by decide)).trans e1
  have k8 : g2 8 = ptrv b3 := hag4 8 (by decide)
  have k18 : g2 18 = .int .i64 q := (hag4 18 (by decide)).trans h36
  simp only [k24, h11, k18, go_sem, Nat.reduceEqDiff]
  by_cases hla : a < n
  case neg =>
    simp only [show ¬ ((a : Int) < n) from by omega, decide_false, go_sem, Nat.reduceEqDiff]
    rw [i64_of (by omega) (by omega)]
    have han : a = n := by omega
    rw [han] at h8a H
    have hstep : (gm.rules.take (q + 1)).foldl (ruleT ws) (T, false) = (List.range n).foldl (rowT ws r) s0 := by
      rw [foldl_take _ _ _ hlq, hs0, hr, ← hN]
      rfl
    refine hN3 _ _ hlq ⟨hlq, rfl, ?_, ?_⟩
    · rw [hstep]
      exact h8a
    · rw [hstep]
      exact H.take 2
  simp only [show ((a : Int) < n) from by omega, decide_true, go_sem, Nat.reduceEqDiff]
  generalize hs1 : (List.range a).foldl (rowT ws r) s0 = s1 at *
  refine loop_to n a (fun b f w' => a ≤ b ∧ b ≤ n ∧ f 10 = .int .i64 b ∧ f 6 = .bool ((List.range' a (b - a)).foldl (Sh.stepT ws r a) s1).2 ∧ Apt w w' [bx b1 [.int .i64 gm.nons, .int .i64 gm.toks, .slice Y gm.rules.length cy] 37, bx b2 (.slice X ws.length cx :: cellsT ((List.range' a (b - a)).foldl (Sh.stepT ws r a) s1).1) 111, bx b3 [.int .i64 xl, .slice Z r.2.length cz] 77])
    ⟨Nat.le_refl _, by omega, rfl, by rw [Nat.sub_self]; exact h8a, by rw [Nat.sub_self]; exact H⟩ ?_
  rintro b g3 w11 N5 hag5 ⟨hb1, hb2, h12, h8b, H⟩ hN5
  have m5 : g3 5 = ptrv b2 := (hag5 5 (by decide)).trans k5
  have m1 : g3 1 = .slice X ws.length cx := (hag5 1 (by decide)).trans k1
  have m8 : g3 8 = ptrv b3 := (hag5 8 (by decide)).trans k8
  have m9 : g3 9 = .int .i64 a := hag5 9 (by decide)
  have m25 : g3 25 = .int .i64 a := (hag5 25 (by decide)).trans h11
  simp only [m5, m1, m8, m9, m25, h12, go_sem, Nat.reduceEqDiff]
  by_cases hlb : b < n
  case neg =>
    simp only [show ¬ ((b : Int) ≤ ws.length) from by omega, decide_false, go_sem, Nat.reduceEqDiff]
    rw [i64_of (by omega) (by omega)]
    have hbn : b = n := by omega
    rw [hbn] at h8b H
    have hstep : (List.range (a + 1)).foldl (rowT ws r) s0 = (List.range' a (n - a)).foldl (Sh.stepT ws r a) s1 := by
      rw [foldl_range, hs1, ← hN]
      rfl
    refine hN4 _ _ hla ⟨hla, rfl, ?_, ?_⟩
    · rw [hstep]
      exact h8b
    · rw [hstep]
      exact H
  simp only [show ((b : Int) ≤ ws.length) from by omega, decide_true, go_sem, Nat.reduceEqDiff]
  have hstep : (List.range' a (b + 1 - a)).foldl (Sh.stepT ws r a) s1 = Sh.stepT ws r a ((List.range' a (b - a)).foldl (Sh.stepT ws r a) s1) b := by
    rw [show b + 1 - a = b - a + 1 from by omega, foldl_range', show a + (b - a) = b from by omega]
  generalize hs2 : (List.range' a (b - a)).foldl (Sh.stepT ws r a) s1 = s2 at *
  have hxn : xl < 6 := by omega
  have hstepT : Sh.stepT ws r a s2 b = if (!s2.1 xl a b && fitsT s2.1 ws r.2 a b) = true then (s2.1.put xl a b, true) else s2 := by
    unfold Sh.stepT
    rw [hxl, Int.toNat_natCast]
  have H := H.drew
  have stay : Sh.stepT ws r a s2 b = s2 → ∀ f', f' 10 = .int .i64 (b + 1 : Nat) → f' 6 = .bool s2.2 → N5 f' w11.drew := fun he f' q12 q8 => hN5 f' w11.drew hlb ⟨by omega, hlb, q12, by rw [hstep, he]; exact q8, by rw [hstep, he]; exact H⟩
  rw [ldB3 (H.box 2 rfl) rfl]
  rw [ixa109 (by omega) (by omega), ixa108 (by omega) (by omega), ixa107 (by omega) (by omega)]
  simp only [Int.toNat_natCast, go_sem, Nat.reduceEqDiff]
  have hoff : 0 + 1 + xl * 121 + a * 11 + b = xl * 121 + a * 11 + b + 1 := by omega
  rw [hoff, ldB4 (H.box 1 rfl) (cellsT_at hxn (by omega) (by omega))]
  simp only [go_sem, Nat.reduceEqDiff]
  cases hc0 : s2.1 xl a b
  case true =>
    simp only [Bool.not_true, go_sem, Nat.reduceEqDiff]
    rw [i64_of (n := (b : Int) + 1) (by omega) (by omega)]
    exact stay (by rw [hstepT, hc0]; rfl) _ rfl h8b
  simp only [Bool.not_false, go_sem, Nat.reduceEqDiff]
  rw [ldB22 (H.box 2 rfl) rfl]
  refine sequence_c hl hw r.2 (H.box 1 rfl) (hX.gr H.gr) (t4.is.gr H.gr) t3 (fun x hx => by have := hright x hx; omega) hb1 (by omega) ?_
  cases hft : fitsT s2.1 ws r.2 a b
  · simp only [go_sem, Nat.reduceEqDiff]
    rw [i64_of (n := (b : Int) + 1) (by omega) (by omega)]
    exact stay (by rw [hstepT, hc0, hft]; rfl) _ rfl h8b
  simp only [go_sem, Nat.reduceEqDiff]
  have H := H.drew
  rw [ldB3 (H.box 2 rfl) rfl]
  rw [ixa109 (by omega) (by omega), ixa108 (by omega) (by omega), ixa107 (by omega) (by omega)]
  simp only [Int.toNat_natCast, go_sem, Nat.reduceEqDiff]
  rw [hoff]
  refine storeH H 1 rfl sz4 rfl rfl (by rw [Nat.ble_eq, List.length_cons, cellsT_length]; omega) fun w12 H => ?_
  have hset : List.take (xl * 121 + a * 11 + b + 1) (.slice X ws.length cx :: cellsT s2.1) ++ (Value.bool true).cells.toList ++ List.drop (xl * 121 + a * 11 + b + 1 + 1) (.slice X ws.length cx :: cellsT s2.1) = .slice X ws.length cx :: cellsT (s2.1.put xl a b) := by
    rw [show (Value.bool true).cells.toList = [.bool true] from rfl, take_put_drop (by rw [List.length_cons, cellsT_length]; omega)]
    exact cellsT_put hxn (by omega) (by omega)
  rw [hset] at H
  rw [i64_of (n := (b : Int) + 1) (by omega) (by omega)]
  refine hN5 _ _ hlb ⟨by omega, hlb, rfl, ?_, ?_⟩
  · rw [hstep, hstepT, hc0, hft]
    rfl
  · rw [hstep, hstepT, hc0, hft]
    exact H
end Go.Proofs.Ytiohaeckagjebaa

/- Contracts of what PumpWord reaches, third part. -/
set_option linter.unusedVariables false
set_option linter.unusedSimpArgs false
set_option maxRecDepth 100000
namespace Go.Sh
open Go
end Go.Sh
namespace Go.Proofs.Ytiohaeckagjebaa
open Go Go.Sh Go.RowKit

end Go.Proofs.Ytiohaeckagjebaa

/- The law of PumpWord, over its contracts. -/
set_option linter.unusedVariables false
set_option linter.unusedSimpArgs false
set_option maxRecDepth 100000
namespace Go.Proofs.Ytiohaeckagjebaa
open Go Go.Sh Go.RowKit

end Go.Proofs.Ytiohaeckagjebaa

/- Contracts: words of tokens, by the reference and by the program; what can be pumped at given places. -/
set_option linter.unusedVariables false
set_option linter.unusedSimpArgs false
set_option maxRecDepth 100000
namespace Go.Sh
open Go
def wordB (toks : Int) (ws : List Int) : Bool := decide (ws.length ≤ 10) && allB ws 0 (toks - 1)
theorem wordB_len {toks : Int} {ws : List Int} (h : wordB toks ws = true) : ws.length ≤ 10 := by
  simp only [wordB, Bool.and_eq_true, decide_eq_true_eq] at h
  exact h.1
theorem wordB_tok {toks : Int} {ws : List Int} (h : wordB toks ws = true) (ht : toks ≤ 4) : ∀ t ∈ ws, 0 ≤ t ∧ t ≤ 100 := fun t hm => by
  simp only [wordB, Bool.and_eq_true, decide_eq_true_eq, allB, List.all_eq_true, inB] at h
  have := h.2 t hm
  omega
end Go.Sh
namespace Go.Proofs.Ytiohaeckagjebaa
open Go Go.Sh Go.RowKit

theorem l1Word_c {F : Nat → Prop} {w : World} {v : Value} {gm : Gram} {X : Option Addr} {n cx : Nat} {ws : List Int} (hv : GramV F w v gm) (hg : goodG gm = true) (hX : Ints w X ws) (hn : n = ws.length) {k : Value → World → Prop} (hk : ∀ w', Gr w w' → k (.bool (wordB gm.toks ws)) w') :
    CallK Try.prog 112 [v, .slice X n cx] k w := by
  subst hn
  obtain ⟨Y, cy, rfl, hc, hy⟩ := hv
  have ht := good_toks hg
  refine enter112 ?_
  unfold S112
  have H := Apt.nil w
  refine boxH H fun b1 w1 H => ?_
  simp only [go_sem, Nat.reduceEqDiff]
  unfold wordB at hk
  by_cases hl : ws.length ≤ 10
  case neg =>
    simp only [show ¬ ((ws.length : Int) ≤ 10) from by omega, decide_false, go_sem, Nat.reduceEqDiff]
    simpa only [hl, decide_false, Bool.false_and] using hk _ H.gr
  simp only [show ((ws.length : Int) ≤ 10) from by omega, decide_true, go_sem, Nat.reduceEqDiff]
  rw [ldB3 (H.box 0 rfl) rfl]
  simp only [go_sem, Nat.reduceEqDiff]
  rw [i64_of (by omega) (by omega)]
  refine l1All_c (hX.gr H.gr) fun w2 g2 => ?_
  have H := H.step g2
  simpa only [hl, decide_true, Bool.true_and] using hk _ H.gr
theorem goodWord_c {F : Nat → Prop} {w : World} {v : Value} {gm : Gram} {X : Option Addr} {n cx : Nat} {ws : List Int} (hv : GramV F w v gm) (hX : Ints w X ws) (hn : n = ws.length) {k : Value → World → Prop} (hk : ∀ w', Gr w w' → k (.bool (goodG gm && wordB gm.toks ws)) w') :
    CallK Try.prog 101 [v, .slice X n cx] k w := by
  subst hn
  obtain ⟨Y, cy, rfl, hc, hy⟩ := hv
  refine enter101 ?_
  unfold S101
  have H := Apt.nil w
  refine boxH H fun b1 w1 H => ?_
  rw [ldB_agg agg37 sz37 rfl (H.box 0 rfl)]
  refine goodGrammar_c (gm := gm) ⟨Y, cy, rfl, hc, hy.gr H.gr⟩ fun w2 g2 => ?_
  have H := H.step g2
  cases hg : goodG gm
  · simp only [go_sem, Nat.reduceEqDiff]
    simpa only [hg, Bool.false_and] using hk _ H.gr
  simp only [go_sem, Nat.reduceEqDiff]
  rw [ldB_agg agg37 sz37 rfl (H.box 0 rfl)]
  refine l1Word_c (gm := gm) ⟨Y, cy, rfl, hc, hy.gr H.gr⟩ hg (hX.gr H.gr) rfl fun w3 g3 => ?_
  have H := H.step g3
  simpa only [hg, Bool.true_and] using hk _ H.gr
theorem isWord1_c {x toks : Int} {w : World} {b t : Nat} (hB : Box w b [.int .i64 toks] t) (h1 : 1 ≤ toks) (h4 : toks ≤ 4) {k : Value → World → Prop} (hk : k (.bool (!inB x 0 (toks - 1))) w) : CallK Try.prog 146 [.int .i64 x, ptrv b] k w := by
  refine enter146 ?_
  unfold S146
  rw [ldB3 hB rfl]
  simp only [go_sem, Nat.reduceEqDiff]
  rw [i64_of (by omega) (by omega)]
  refine in_c ?_
  simp only [go_sem, Nat.reduceEqDiff]
  exact hk
theorem isWord_c {w : World} {X : Option Addr} {n cx : Nat} {toks : Int} {ws : List Int} (hX : Ints w X ws) (hn : n = ws.length) (h1 : 1 ≤ toks) (h4 : toks ≤ 4) {k : Value → World → Prop} (hk : ∀ w', Gr w w' → k (.bool (wordB toks ws)) w') :
    CallK Try.prog 99 [.int .i64 toks, .slice X n cx] k w := by
  subst hn
  refine enter99 ?_
  unfold S99
  have H := Apt.nil w
  refine boxH H fun b1 w1 H => ?_
  simp only [go_sem, Nat.reduceEqDiff]
  unfold wordB at hk
  by_cases hl : ws.length ≤ 10
  case neg =>
    simp only [show ¬ ((ws.length : Int) ≤ 10) from by omega, decide_false, go_sem, Nat.reduceEqDiff]
    simpa only [hl, decide_false, Bool.false_and] using hk _ H.gr
  simp only [show ((ws.length : Int) ≤ 10) from by omega, decide_true, go_sem, Nat.reduceEqDiff]
  have hb : Box w1 b1 [.int .i64 toks] 3 := H.box 0 rfl
  have hp : Pred 4 (.func (.func 146) [].toArray [ptrv b1].toArray) (fun x => !inB x 0 (toks - 1)) w1 := fun w3 g3 x k hk =>
    callVc (isWord1_c (hb.gr g3) h1 h4 (hk w3 (Gr.refl w3)))
  refine containsFunc_c (hX.gr H.gr) hp fun w3 g3 => ?_
  have H := H.step g3
  simp only [go_sem, Nat.reduceEqDiff]
  have := hk _ H.gr
  simp only [hl, decide_true, Bool.true_and] at this
  rwa [show allB ws 0 (toks - 1) = !ws.any (fun x => !inB x 0 (toks - 1)) from by simp [allB, List.not_any_eq_all_not]] at this
end Go.Proofs.Ytiohaeckagjebaa

/- Contract: CountSized of the reference. -/
set_option linter.unusedVariables false
set_option linter.unusedSimpArgs false
set_option maxRecDepth 100000
namespace Go.Sh
open Go
def capM : Nat := 1000000000
def sizedL (gm : Gram) (ws : List Int) (m : Nat) : List Int := (List.range (m + 1)).map fun s => ((min capM (cntC gm.rules ws 0 0 ws.length s) : Nat) : Int)
def sizedV (gm : Gram) (ws : List Int) (most : Int) : List Int × Bool := if ((goodG gm && wordB gm.toks ws) && inB most 0 20) = true then (sizedL gm ws most.toNat, true) else ([], false)
theorem sizedV_len (gm : Gram) (ws : List Int) (most : Int) : (sizedV gm ws most).1.length ≤ 1000000 := by
  unfold sizedV
  split
  · rename_i h
    simp only [Bool.and_eq_true, inB, decide_eq_true_eq] at h
    simp only [sizedL, List.length_map, List.length_range]
    omega
  · exact Nat.zero_le _
theorem leafT_list {ls : List (List Int)} {nons n m A i j : Nat} {t : Nat → Nat → Nat → Nat → Nat} (h : LeafT ls nons n m t) (hA : A < nons) (hi : i < n) (hj : j < n) : rgt ls (idxT n A i j) = (List.range (m + 1)).map fun k => (t A i j k : Int) := by
  have hr := h.row A i j hA hi hj
  refine List.ext_getElem? fun k => ?_
  by_cases hk : k ≤ m
  · have hv := h.val A i j k hA hi hj hk
    rw [List.getD_eq_getElem?_getD, List.getElem?_eq_getElem (by omega), Option.getD_some] at hv
    rw [List.getElem?_eq_getElem (by omega), hv]
    simp [List.getElem?_range (show k < m + 1 by omega)]
  · rw [List.getElem?_eq_none (by omega), List.getElem?_eq_none (by simp; omega)]
end Go.Sh
namespace Go.Proofs.Ytiohaeckagjebaa
open Go Go.Sh Go.RowKit
theorem specCountSized_c {F : Nat → Prop} {w : World} {v : Value} {gm : Gram} {X : Option Addr} {n cx : Nat} {ws : List Int} {most : Int} (hv : GramV F w v gm) (hX : Ints w X ws) (hn : n = ws.length) {k : Value → World → Prop}
    (hk : ∀ w' U d, Gr w w' → Own 3 w' w.heap.size U d (sizedV gm ws most).1 → k (.tuple #[.slice U (sizedV gm ws most).1.length d, .bool (sizedV gm ws most).2]) w') :
    CallK Try.prog 61 [v, .slice X n cx, .int .i64 most] k w := by
  subst hn
  obtain ⟨Y, cy, rfl, hc, hy⟩ := hv
  refine enter61 ?_
  unfold S61
  have H := Apt.nil w
  refine boxH H fun b1 w1 H => ?_
  rw [ldB_agg agg37 sz37 rfl (H.box 0 rfl)]
  refine goodWord_c (gm := gm) ⟨Y, cy, rfl, hc, hy.gr H.gr⟩ (hX.gr H.gr) rfl fun w2 g2 => ?_
  have H := H.step g2
  have no : ((goodG gm && wordB gm.toks ws) && inB most 0 20) = false → ∀ w', Gr w w' → k (.tuple #[.slice none 0 0, .bool false]) w' := fun h w' g => by
    have := hk w' none 0 g
    unfold sizedV at this
    rw [h, if_neg Bool.false_ne_true] at this
    exact this (Row.nil _ _ _ _)
  cases hgw : goodG gm && wordB gm.toks ws
  · simp only [Bool.not_false, go_sem, Nat.reduceEqDiff]
    exact no (by rw [hgw]; rfl) _ H.gr
  simp only [Bool.not_true, go_sem, Nat.reduceEqDiff]
  refine l1In_c ?_
  cases hm : inB most 0 20
  · simp only [Bool.not_false, go_sem, Nat.reduceEqDiff]
    exact no (by rw [hgw, hm]; rfl) _ H.gr
  simp only [Bool.not_true, go_sem, Nat.reduceEqDiff]
  unfold sizedV at hk
  rw [hgw, hm, if_pos (show (true && true) = true from rfl)] at hk
  dsimp only at hk
  simp only [Bool.and_eq_true] at hgw
  have hlen := wordB_len hgw.2
  have htok := wordB_tok hgw.2 (good_toks hgw.1).2
  have hn6 := good_nons hgw.1
  obtain ⟨most, rfl⟩ : ∃ m' : Nat, most = m' := by
    simp only [inB, Bool.and_eq_true, decide_eq_true_eq] at hm
    exact ⟨most.toNat, by omega⟩
  have hm20 : most ≤ 20 := by
    simp only [inB, Bool.and_eq_true, decide_eq_true_eq] at hm
    omega
  rw [Int.toNat_natCast] at hk
  rw [ldB_agg agg37 sz37 rfl (H.box 0 rfl)]
  refine l10Sized_c (M := capM) (gm := gm) rfl ⟨Y, cy, rfl, hc, hy.gr H.gr⟩ hgw.1 (hX.gr H.gr) rfl hlen htok hm20 fun w3 U c nons hs hp ls ps hnn H3 hh hl => ?_
  have o := H3.vv 0 rfl
  have fm := H3.fam 1 rfl
  have h0 : 0 < nons := by omega
  have hcell := head_cell o hh h0
  have hleaf := head_leaf o hh h0 (i := 0) (j := ws.length) (by omega) (by omega)
  rw [Nat.zero_mul, Nat.zero_add] at hleaf
  have hnn11 : (ws.length + 1) * 1 ≤ (ws.length + 1) * (ws.length + 1) := Nat.mul_le_mul_left _ (by omega)
  refine rdi (ix126_0 (fun _ => o.ptr (by rw [hh.len]; exact h0)) h0) (rdi (ld48 hcell) ?_)
  refine rdi (ixn48 (fun _ => head_ptr o hh h0 (by omega)) (by omega)) (rdi (ld22 hleaf) ?_)
  have hlist := leafT_list hl h0 (i := 0) (j := ws.length) (by omega) (by omega)
  have hi := Own.ints (fm.own (idxT (ws.length + 1) 0 0 ws.length) (by rw [hl.len]; exact idxT_lt h0 (by omega) (by omega)))
  rw [hlist] at hi
  have hll : (sizedL gm ws most).length = most + 1 := by simp [sizedL]
  refine l1Own_c (xs := sizedL gm ws most) hi hll.symm (by omega) fun X1 d1 w4 g4 o4 => ?_
  exact hk _ _ _ (gr_trans H.gr (gr_trans H3.gr g4)) (Row.mono o4 (gr_trans H.gr H3.gr).size)
end Go.Proofs.Ytiohaeckagjebaa

/- A map as memory, among things that lie apart: every entry is right. -/
set_option linter.unusedVariables false
set_option linter.unusedSimpArgs false
set_option maxRecDepth 100000
namespace Go.Sh
open Go Go.WideMaps
/-- A map's block; every entry is right. -/
def mpi (Good : Value → Value → Prop) (b : Nat) : Thing := ⟨fun w => ∃ es clock, w.heap[b]? = some (.map es clock) ∧ ∀ e ∈ es.toList, Good e.key e.val, fun q => q = b⟩
section
variable {P : Program} {k : Value → World → Prop} {w0 w : World} {L : List Thing} {Good : Value → Value → Prop}
theorem lookupH (H : Apt w0 w L) (i : Nat) {b : Nat} (hi : L[i]? = some (mpi Good b)) {t kt et : TypeId} {x z : Value} {lx : Lit} (ht : P.underlying t = some (.map kt et)) (K : KeyLaw P kt) (hx : keyOf P kt x = some lx) (hG : ∀ key v, Good key v → ∃ l, keyOf P kt key = some l) (hz : ∀ w, (zeroValue et).run P w = .ok z w)
    (h0 : k (.tuple #[z, .bool false]) w) (h1 : ∀ v, Good x v → k (.tuple #[v, .bool true]) w) : Do P (sLookup t (.map (some b)) x true) k w := by
  obtain ⟨es, clock, hb, hes⟩ := H.get i hi
  have hget : (getObj b).run P w = .ok (.map es clock) w := by simp [getObj, Sem.run, hb]
  rcases K.find w hx es.toList (fun e he => hG _ _ (hes e he)) with ⟨hf, _⟩ | ⟨j, e, hf, hj, hk⟩
  · have e' : (sLookup t (.map (some b)) x true).run P w = .ok (.value (.tuple #[z, .bool false])) w := by
      simp [sLookup, Instr.lookup, run_underlying ht, hget, K.check w _ hx, hf, hz]
    rw [do_value e']
    exact h0
  · have e' : (sLookup t (.map (some b)) x true).run P w = .ok (.value (.tuple #[e.val, .bool true])) w := by
      simp [sLookup, Instr.lookup, run_underlying ht, hget, K.check w _ hx, hf]
    rw [do_value e']
    exact h1 _ (hk ▸ hes e (List.mem_of_getElem? hj))
theorem mapUpdateH (H : Apt w0 w L) (i : Nat) {b : Nat} (hi : L[i]? = some (mpi Good b)) {t kt et : TypeId} {x v : Value} {lx : Lit} (ht : P.underlying t = some (.map kt et)) (K : KeyLaw P kt) (hx : keyOf P kt x = some lx) (hG : ∀ key v, Good key v → ∃ l, keyOf P kt key = some l) (hv : Good x v)
    (h : ∀ w', Apt w0 w' (L.set i (mpi Good b)) → k undef w') : Do P (sMapUpdate t (.map (some b)) x v) k w := by
  obtain ⟨es, clock, hb, hes⟩ := H.get i hi
  have hget : (getObj b).run P w = .ok (.map es clock) w := MapKept.run_getObj_map hb
  have fin : ∀ (es' : Array MapEntry) (clock' : Nat), (∀ e ∈ es'.toList, Good e.key e.val) → (Instr.mapUpdate t (.map (some b)) x v).run P w = .ok () { w with heap := w.heap.setIfInBounds b (.map es' clock') } → Do P (sMapUpdate t (.map (some b)) x v) k w := fun es' clock' hg hr => by
    have e' : (sMapUpdate t (.map (some b)) x v).run P w = .ok .skip { w with heap := w.heap.setIfInBounds b (.map es' clock') } := by
      simp only [sMapUpdate, Sem.run_bind, hr]
      rfl
    rw [do_skip e']
    have hlt := (Array.getElem?_eq_some_iff.1 hb).1
    refine h _ (H.set hi (it' := mpi Good b) ⟨rfl, rfl, rfl, by simp, fun q hq hn => ?_⟩ (fun q hq => .inl hq) (fun q hq => by cases hq; simpa using hlt) fun w'' hs => ⟨es', clock', ?_, hg⟩)
    · exact Array.getElem?_setIfInBounds_ne (fun e => hn e.symm)
    · rw [hs b rfl]
      simp [hlt]
  rcases K.find w hx es.toList (fun e he => hG _ _ (hes e he)) with ⟨hf, _⟩ | ⟨j, e, hf, hj, hk⟩
  · refine fin (es.push { key := x, val := v, born := clock }) (clock + 1) (fun e he => ?_) ?_
    · rw [Array.toList_push] at he
      rcases List.mem_append.1 he with he | he
      · exact hes e he
      · obtain rfl := List.mem_singleton.1 he
        exact hv
    · simp [Instr.mapUpdate, run_underlying ht, hget, K.check w _ hx, hf, MapKept.run_setObj_map _ hb]
  · have hk2 : (es[j]?).map (·.key) = some x := by
      rw [← Array.getElem?_toList, hj, ← hk]
      rfl
    refine fin (es.modify j fun e => { e with key := x, val := v }) clock (fun e' he' => ?_) ?_
    · obtain ⟨q, hq⟩ := List.getElem?_of_mem he'
      rw [Array.getElem?_toList, Array.getElem?_modify] at hq
      split at hq
      · cases h3 : es[q]? with
        | none => rw [h3] at hq; cases hq
        | some e0 =>
          rw [h3] at hq
          simp only [Option.map_some, Option.some.injEq] at hq
          rw [← hq]
          exact hv
      · exact hes e' (by
          rw [← Array.getElem?_toList] at hq
          exact List.mem_of_getElem? hq)
    · simp [Instr.mapUpdate, run_underlying ht, hget, K.check w _ hx, hf, hk2, K.stays w hx, MapKept.run_setObj_map _ hb]
end
end Go.Sh
namespace Go.Proofs.Ytiohaeckagjebaa
open Go Go.Sh Go.RowKit Go.WideMaps
theorem arr186 : ArrKey Try.prog 186 3 5 := ⟨by kernel_rfl, by kernel_rfl, by kernel_rfl, by kernel_rfl⟩
theorem wf64 {n : Int} (h : -9223372036854775808 ≤ n ∧ n ≤ 9223372036854775807) : (Lit.int .i64 n).wf = true := by
  simp [Lit.wf, show IntKind.i64.min = -9223372036854775808 from rfl, show IntKind.i64.max = 9223372036854775807 from rfl]
  omega
theorem formed186 (a b c d e : Int) : (Value.agg #[.int .i64 a, .int .i64 b, .int .i64 c, .int .i64 d, .int .i64 e]).formed Try.prog 186 = true := by
  kernel_rfl
theorem lits186 {a b c d e : Int} (ha : (Lit.int .i64 a).wf = true) (hb : (Lit.int .i64 b).wf = true) (hc : (Lit.int .i64 c).wf = true) (hd : (Lit.int .i64 d).wf = true) (he : (Lit.int .i64 e).wf = true) (m : Nat) :
    Program.keyLits Try.prog (m + 2) 186 [.int .i64 a, .int .i64 b, .int .i64 c, .int .i64 d, .int .i64 e] = some [.int .i64 a, .int .i64 b, .int .i64 c, .int .i64 d, .int .i64 e] := by
  have h1 : ∀ {x : Int}, (Lit.int .i64 x).wf = true → Program.keyLits Try.prog (m + 1) 3 [.int .i64 x] = some [.int .i64 x] := fun hx => by
    simp only [Program.keyLits, Try.underlying3, hx, and_self, if_true]
  have hu : Try.prog.underlying 186 = some (.array 5 3) := by kernel_rfl
  have e1 : Try.prog.cellsOf 3 = 1 := by kernel_rfl
  have e5 : Try.prog.cellsOf 186 = 5 := by kernel_rfl
  have hr : List.range 5 = [0, 1, 2, 3, 4] := by decide
  simp [Program.keyLits, hu, e1, e5, hr, h1 ha, h1 hb, h1 hc, h1 hd, h1 he, ha, hb, hc, hd, he]
theorem key186 {a b c d e : Int} (ha : (Lit.int .i64 a).wf = true) (hb : (Lit.int .i64 b).wf = true) (hc : (Lit.int .i64 c).wf = true) (hd : (Lit.int .i64 d).wf = true) (he : (Lit.int .i64 e).wf = true) :
    ∃ l, keyOf Try.prog 186 (.agg #[.int .i64 a, .int .i64 b, .int .i64 c, .int .i64 d, .int .i64 e]) = some l := by
  have hu : Try.prog.underlying 186 = some (.array 5 3) := by kernel_rfl
  have hk : Try.prog.keyType 186 = true := by kernel_rfl
  obtain ⟨m, hm⟩ : ∃ m, Try.prog.types.size + 1 = m + 2 := ⟨Try.prog.types.size - 1, by kernel_rfl⟩
  refine ⟨.string (keyBytes [.int .i64 a, .int .i64 b, .int .i64 c, .int .i64 d, .int .i64 e]), ?_⟩
  unfold keyOf
  rw [hu]
  dsimp only
  rw [hk, formed186, hm]
  show Option.map _ (Program.keyLits Try.prog (m + 2) 186 [.int .i64 a, .int .i64 b, .int .i64 c, .int .i64 d, .int .i64 e]) = _
  rw [lits186 ha hb hc hd he m]
  rfl
end Go.Proofs.Ytiohaeckagjebaa

/- Bj: bodies of functions as terms of the frame calculus, printed by shgen.py of this repository. -/
set_option linter.unusedVariables false
set_option maxRecDepth 100000
namespace Go.Proofs.Ytiohaeckagjebaa
open Go Go.Sh

/-! loop.example/g00758/laws.FnExactCostTable -/
/-! loop.example/g00758/spec.CostTable -/
/-! loop.example/g00758/impl.CostTable -/
/-! loop.example/g00758/spec.l12Costs -/
/-! loop.example/g00758/spec.l12Table -/
/-! loop.example/g00758/impl.areCosts -/
/-! (loop.example/g00758/impl.Grammar).costs -/
/-! loop.example/g00758/spec.l10Best -/
/-! loop.example/g00758/impl.areCosts$1 -/
/-! (*loop.example/g00758/impl.costing).rest -/
/-! (*loop.example/g00758/impl.costing).one -/
end Go.Proofs.Ytiohaeckagjebaa

/- Contracts: sums and products kept at most one more than is told (the program's plus, times). -/
set_option linter.unusedVariables false
set_option linter.unusedSimpArgs false
set_option maxRecDepth 100000
namespace Go.Proofs.Ytiohaeckagjebaa
open Go Go.Sh Go.RowKit
theorem min_cap {x y : Nat} {M L : Nat} (hL : L = M) (hy : y = min M x) : (if (L : Int) < (x : Int) then (L : Int) else (x : Int)) = (y : Int) := by
  split <;> omega
theorem plus_c {w : World} {x y z M : Nat} (hM : M = 1000000001) (hx : x ≤ M) (hy : y ≤ M) (hz : z = min M (x + y)) {k : Value → World → Prop} (hk : k (.int .i64 (z : Int)) w) : CallK Try.prog 157 [.int .i64 (x : Int), .int .i64 (y : Int)] k w := by
  refine enter157 ?_
  unfold S157
  refine rdi bin_add ?_
  rw [i64_of (by omega) (by omega), show (x : Int) + (y : Int) = ((x + y : Nat) : Int) from by omega]
  refine rdi min_int ?_
  have := min_cap (L := 1000000001) hM.symm hz
  rw [show (((1000000001 : Nat)) : Int) = 1000000001 from rfl] at this
  rw [this]
  exact hk
theorem times_c {w : World} {x y z M : Nat} (hM : M = 1000000001) (hx : x ≤ M) (hy : y ≤ M) (hz : z = min M (x * y)) {k : Value → World → Prop} (hk : k (.int .i64 (z : Int)) w) : CallK Try.prog 185 [.int .i64 (x : Int), .int .i64 (y : Int)] k w := by
  refine enter185 ?_
  unfold S185
  refine rdi bin_mul ?_
  have hb : x * y ≤ 1000000001 * 1000000001 := Nat.mul_le_mul (by omega) (by omega)
  rw [show (x : Int) * (y : Int) = ((x * y : Nat) : Int) from by simp, i64_of (by omega) (by omega)]
  refine rdi min_int ?_
  have := min_cap (L := 1000000001) hM.symm hz
  rw [show (((1000000001 : Nat)) : Int) = 1000000001 from rfl] at this
  rw [this]
  exact hk
end Go.Proofs.Ytiohaeckagjebaa

/- Contract: the program's numbers of trees by size (trees, rest). -/
set_option linter.unusedVariables false
set_option linter.unusedSimpArgs false
set_option maxRecDepth 100000
namespace Go.Sh
open Go
def keyV (a b c d : Nat) : Value := .agg #[.int .i64 (a : Int), .int .i64 (b : Int), .int .i64 (c : Int), .int .i64 (d : Int), .int .i64 0]
theorem keyV_inj {a b c d a' b' c' d' : Nat} (h : keyV a b c d = keyV a' b' c' d') : a = a' ∧ b = b' ∧ c = c' ∧ d = d' := by
  simp only [keyV, Value.agg.injEq, Array.mk.injEq, List.cons.injEq, Value.int.injEq, true_and, and_true, Int.natCast_inj] at h
  exact h
/-- What the memory holds. -/
def GoodC (M : Nat) (rs : List RuleL) (ws : List Int) (key v : Value) : Prop :=
  ∃ q p i j s : Nat, q ≤ 16 ∧ p ≤ 4 ∧ i ≤ 10 ∧ j ≤ 10 ∧ s ≤ 20 ∧ key = keyV (q * 5 + p) i j s ∧ v = .int .i64 ((min M (cntR (cntC rs ws) ws ((rul rs q).2.drop p) i j s) : Nat) : Int)
theorem GoodC.get {M : Nat} {rs : List RuleL} {ws : List Int} {q p i j s : Nat} {v : Value} (hp : p ≤ 4) (h : GoodC M rs ws (keyV (q * 5 + p) i j s) v) : v = .int .i64 ((min M (cntR (cntC rs ws) ws ((rul rs q).2.drop p) i j s) : Nat) : Int) := by
  obtain ⟨q', p', i', j', s', h1, h2, h3, h4, h5, h6, rfl⟩ := h
  obtain ⟨e1, rfl, rfl, rfl⟩ := keyV_inj h6
  obtain ⟨rfl, rfl⟩ : q = q' ∧ p = p' := by omega
  rfl
theorem cntC_none {rs : List RuleL} {ws : List Int} (hr : ∀ r ∈ rs, r.1.toNat < 6) (hw : ws.length ≤ 10) {A i j s : Nat} (hij : i ≤ j) (hj : j ≤ ws.length) (h : spanT rs ws A i j = false) : cntC rs ws A i j s = 0 :=
  Nat.eq_zero_of_not_pos fun h0 => by
    rw [cntC_span hr hw hij hj h0] at h
    cases h
theorem cntR_none {rs : List RuleL} {ws : List Int} (hr : ∀ r ∈ rs, r.1.toNat < 6) (hw : ws.length ≤ 10) {xs : List Int} {i j s : Nat} (hj : j ≤ ws.length) (h : fitsT (spanT rs ws) ws xs i j = false) : cntR (cntC rs ws) ws xs i j s = 0 :=
  Nat.eq_zero_of_not_pos fun h0 => by
    rw [cntR_fits hj (fun A i j k h1 h2 _ h3 => cntC_span hr hw h1 h2 h3) h0] at h
    cases h
theorem rd_buildA {P : Program} {S : WS} {k : Value → Prop} {t e n sz by' : Nat} {z : Value} {qs : List (Nat × Value)} {cells : Array Value} {m : Nat} (ht : P.underlying t = some (.array n e)) (he : szOf P e m) (H : Inf P t z sz by') (hf : Instr.fill (fun i => some (i * m, m)) z.cells qs = some cells) : Rd P S (sBuild t qs) k = k (.agg cells) := rd_eq fun w _ => by
  obtain ⟨i, hi, hz, _, _⟩ := H
  have e0 : (zeroValue t).run P w = .ok z w := by simp [zeroValue, run_info hi, hz]
  simp only [sBuild, Instr.build, Sem.run_bind, e0, Result.andThen, run_underlying ht, run_size he, hf]
  rfl
end Go.Sh
namespace Go.Proofs.Ytiohaeckagjebaa
open Go Go.Sh Go.RowKit Go.WideMaps
theorem inf186' : Inf Try.prog 186 (.agg #[.int .i64 0, .int .i64 0, .int .i64 0, .int .i64 0, .int .i64 0]) 5 40 := inf_of (by kernel_rfl)
theorem bd186 {S : WS} {k : Value → Prop} {a b c d : Int} : Rd Try.prog S (sBuild 186 [(0, .int .i64 a), (1, .int .i64 b), (2, .int .i64 c), (3, .int .i64 d)]) k = k (.agg #[.int .i64 a, .int .i64 b, .int .i64 c, .int .i64 d, .int .i64 0]) :=
  rd_buildA u186 sz3 inf186' rfl
theorem map129 : Try.prog.underlying 129 = some (.map 186 3) := by kernel_rfl
theorem keyV_key {a b c d : Nat} (ha : a ≤ 1000) (hb : b ≤ 1000) (hc : c ≤ 1000) (hd : d ≤ 1000) : ∃ l, keyOf Try.prog 186 (keyV a b c d) = some l :=
  key186 (wf64 (by omega)) (wf64 (by omega)) (wf64 (by omega)) (wf64 (by omega)) (wf64 (by omega))
theorem goodC_key {M : Nat} {rs : List RuleL} {ws : List Int} : ∀ key v, GoodC M rs ws key v → ∃ l, keyOf Try.prog 186 key = some l := by
  rintro key v ⟨q, p, i, j, s, h1, h2, h3, h4, h5, rfl, _⟩
  exact keyV_key (by omega) (by omega) (by omega) (by omega)
theorem zero3 (w : World) : (zeroValue 3).run Try.prog w = .ok (.int .i64 0) w := by
  obtain ⟨i, hi, hz, _, _⟩ := inf3
  simp [zeroValue, run_info hi, hz]
set_option maxHeartbeats 1600000 in
theorem sized_c {F : Nat → Prop} {w0 : World} {gm : Gram} {X Y : Option Addr} {cx cy bc bt bm M : Nat} {ws : List Int} (hM : M = 1000000001) (hg : goodG gm = true) (hc : gm.rules.length ≤ cy) (hy : RulesF F w0 Y gm.rules) (hX : Ints w0 X ws) (hl : ws.length ≤ 10) (hw : ∀ x ∈ ws, 0 ≤ x ∧ x ≤ 100) {L : List Thing → List Thing} (hL : ∀ E, L E = bx bc [.int .i64 gm.nons, .int .i64 gm.toks, .slice Y gm.rules.length cy, ptrv bt, .map (some bm)] 131 :: bx bt (.slice X ws.length cx :: cellsT (spanT gm.rules ws)) 111 :: mpi (GoodC M gm.rules ws) bm :: E) : ∀ N : Nat,
    (∀ {A i j s : Nat} {w : World} {E : List Thing} {k : Value → World → Prop}, s * 10 ≤ N → A < 6 → i ≤ j → j ≤ ws.length → s ≤ 20 → Apt w0 w (L E) → (∀ w' (z : Nat), z = min M (cntC gm.rules ws A i j s) → Apt w0 w' (L E) → k (.int .i64 (z : Int)) w') →
      CallK Try.prog 118 [ptrv bc, .int .i64 A, .int .i64 i, .int .i64 j, .int .i64 s] k w) ∧
    (∀ {q p i j s : Nat} {w : World} {E : List Thing} {k : Value → World → Prop}, s * 10 + ((rul gm.rules q).2.length - p) + 1 ≤ N → q < gm.rules.length → p ≤ (rul gm.rules q).2.length → i ≤ j → j ≤ ws.length → s ≤ 20 → Apt w0 w (L E) → (∀ w' (z : Nat), z = min M (cntR (cntC gm.rules ws) ws ((rul gm.rules q).2.drop p) i j s) → Apt w0 w' (L E) → k (.int .i64 (z : Int)) w') →
      CallK Try.prog 158 [ptrv bc, .int .i64 q, .int .i64 p, .int .i64 i, .int .i64 j, .int .i64 s] k w) := by
  have hn6 := good_nons hg
  have hr16 := good_len hg
  have hleft6 := good_left6 hg
  have hB : ∀ {w : World} (E : List Thing), Apt w0 w (bx bc [.int .i64 gm.nons, .int .i64 gm.toks, .slice Y gm.rules.length cy, ptrv bt, .map (some bm)] 131 :: bx bt (.slice X ws.length cx :: cellsT (spanT gm.rules ws)) 111 :: mpi (GoodC M gm.rules ws) bm :: E) → Apt w0 w (L E) := fun E h => by rw [hL]; exact h
  intro N
  induction N with
  | zero =>
    refine ⟨?_, fun h => by omega⟩
    intro A i j s w E k hN hA hij hj hs H hk
    obtain rfl : s = 0 := by omega
    refine enter118 ?_
    unfold S118
    simp only [show (((0 : Nat) : Int) < 1) from by omega, decide_true, go_sem, Nat.reduceEqDiff]
    exact hk _ 0 (by rw [cntC_zero]; omega) H
  | succ N ih =>
    obtain ⟨ihT, ihR⟩ := ih
    refine ⟨?_, ?_⟩
    · intro A i j s w E k hN hA hij hj hs H hk
      refine enter118 ?_
      unfold S118
      by_cases hs0 : s = 0
      · subst hs0
        simp only [show (((0 : Nat) : Int) < 1) from by omega, decide_true, go_sem, Nat.reduceEqDiff]
        exact hk _ 0 (by rw [cntC_zero]; omega) H
      simp only [show ¬ ((s : Int) < 1) from by omega, decide_false, go_sem, Nat.reduceEqDiff]
      rw [hL] at H
      rw [ldB112 (H.box 0 rfl) rfl]
      simp only [go_sem, Nat.reduceEqDiff]
      rw [ixa109 (by omega) (by omega), ixa108 (by omega) (by omega), ixa107 (by omega) (by omega)]
      simp only [Int.toNat_natCast, go_sem, Nat.reduceEqDiff]
      rw [ldB4 (off := 0 + 1 + A * 121 + i * 11 + j) (H.box 1 rfl) (by rw [show 0 + 1 + A * 121 + i * 11 + j = A * 121 + i * 11 + j + 1 from by omega]; exact cellsT_at (by omega) (by omega) (by omega))]
      simp only [go_sem, Nat.reduceEqDiff]
      cases hT : spanT gm.rules ws A i j
      · simp only [Bool.not_false, go_sem, Nat.reduceEqDiff]
        exact hk _ 0 (by rw [cntC_none hleft6 hl hij hj hT]; omega) (hB _ H)
      simp only [Bool.not_true, go_sem, Nat.reduceEqDiff]
      rw [ldB35 (H.box 0 rfl) rfl]
      simp only [go_sem, Nat.reduceEqDiff]
      refine loop_to gm.rules.length 0 (fun q f w' => q ≤ gm.rules.length ∧ f 38 = .int .i64 q ∧ Apt w0 w' (L E) ∧ ∃ y : Nat, f 11 = .int .i64 (y : Int) ∧ y = min M (sumR (gm.rules.take q) (addP gm.rules ws s A i j)))
        ⟨Nat.zero_le _, rfl, hB _ H, 0, rfl, by simp [sumR]⟩ ?_
      clear H
      rintro q f w1 K hag ⟨hq, h38, H, y, h11, hy1⟩ hK
      rw [hL] at H
      have f36 : f 36 = .slice Y gm.rules.length cy := hag 36 (by decide)
      have f37 : f 37 = .int .i64 gm.rules.length := hag 37 (by decide)
      have f0 : f 0 = ptrv bc := hag 0 (by decide)
      have f1 : f 1 = .int .i64 A := hag 1 (by decide)
      have f2 : f 2 = .int .i64 i := hag 2 (by decide)
      have f3 : f 3 = .int .i64 j := hag 3 (by decide)
      have f4 : f 4 = .int .i64 s := hag 4 (by decide)
      simp only [f36, f37, f0, f1, f2, f3, f4, h38, h11, go_sem, Nat.reduceEqDiff]
      by_cases hlq : q < gm.rules.length
      case neg =>
        simp only [show ¬ ((q : Int) < gm.rules.length) from by omega, decide_false, go_sem, Nat.reduceEqDiff]
        obtain rfl : q = gm.rules.length := by omega
        rw [List.take_length, ← cntC_sum (by omega)] at hy1
        exact hk _ y hy1 (hB _ H)
      simp only [show ((q : Int) < gm.rules.length) from by omega, decide_true, go_sem, Nat.reduceEqDiff]
      obtain ⟨Z, cz, t1, t2, t3, t4⟩ := hy.row q hlq
      have hleft := good_left hg hlq
      have hR4 := good_rule hg q hlq
      obtain ⟨xl, hxl⟩ : ∃ x : Nat, (rul gm.rules q).1 = x := ⟨(rul gm.rules q).1.toNat, by omega⟩
      rw [hxl] at t1 hleft
      refine rdi (ixn35 hy.ptr hlq) ?_
      rw [ld_agg agg77 sz77 (cs := [.int .i64 xl, .slice Z (rul gm.rules q).2.length cz]) rfl (fun j hj => by
        match j, hj with
        | 0, _ => rw [add_add, Nat.add_zero]; exact H.gr.cell t1
        | 1, _ => rw [add_add]; exact H.gr.cell t2)]
      refine allocH H inf77 fun b3 w8 H => ?_
      have H := H.insert 3
      simp only [List.take_succ_cons, List.take_zero, List.drop_succ_cons, List.drop_zero, List.nil_append, List.cons_append] at H
      refine storeH H 3 rfl sz77 rfl rfl rfl fun w9 H => ?_
      simp only [List.nil_append, List.cons_append, List.set_cons_zero, List.set_cons_succ] at H
      simp only [go_sem, Nat.reduceEqDiff]
      rw [ldB3 (H.box 3 rfl) rfl]
      have H := H.erase 3
      simp only [List.eraseIdx_cons_zero, List.eraseIdx_cons_succ] at H
      simp only [go_sem, Nat.reduceEqDiff]
      by_cases hA' : xl = A
      · simp only [show ((xl : Int) = (A : Int)) from by omega, decide_true, go_sem, Nat.reduceEqDiff]
        rw [i64_of (by omega) (by omega), show (s : Int) - 1 = ((s - 1 : Nat) : Int) from by omega]
        refine ihR (q := q) (p := 0) (i := i) (j := j) (s := s - 1) (by omega) hlq (Nat.zero_le _) hij hj (by omega) (hB _ H) fun w2 z hz H => ?_
        rw [List.drop_zero] at hz
        refine plus_c hM (by omega) (by omega) rfl ?_
        rw [i64_of (by omega) (by omega)]
        refine hK _ _ hlq ⟨hlq, rfl, H, min M (y + z), rfl, ?_⟩
        rw [sumR_take hlq, hy1, hz, cap_add]
        unfold addP
        rw [if_pos (by omega)]
      · simp only [show ¬ ((xl : Int) = (A : Int)) from by omega, decide_false, go_sem, Nat.reduceEqDiff]
        rw [i64_of (by omega) (by omega)]
        refine hK _ _ hlq ⟨hlq, rfl, hB _ H, y, h11, ?_⟩
        rw [sumR_take hlq, hy1]
        unfold addP
        rw [if_neg (by omega), Nat.add_zero]
    · intro q p i j s w E k hN hq hp hij hj hs H hk
      obtain ⟨Z, cz, t1, t2, t3, t4⟩ := hy.row q hq
      have hright := good_right hg hq
      have hR4 := good_rule hg q hq
      refine enter158 ?_
      unfold S158
      rw [hL] at H
      simp only [go_sem, Nat.reduceEqDiff]
      rw [ldB35 (H.box 0 rfl) rfl]
      refine rdi (ixn35 hy.ptr hq) ?_
      rw [fa77_1, add_add]
      refine rdi (ld22 (H.gr.cell t2)) ?_
      have hsub := t4.is.sub (l := p) (c := cz) hp t3 ((rul gm.rules q).2.length - p)
      rw [List.take_of_length_le (by rw [List.length_drop]; omega)] at hsub
      refine rdi (sll22 (by omega) (by omega)) ?_
      rw [Int.toNat_natCast]
      have hdl : ((rul gm.rules q).2.drop p).length = (rul gm.rules q).2.length - p := List.length_drop
      have hdr : ∀ x ∈ (rul gm.rules q).2.drop p, x < 6 ∧ -100 ≤ x := fun x hx => by
        have := hright x (List.mem_of_mem_drop hx)
        omega
      have hnext : (rul gm.rules q).2.drop (p + 1) = ((rul gm.rules q).2.drop p).drop 1 := by rw [List.drop_drop]
      rw [← hdl]
      generalize hxs : (rul gm.rules q).2.drop p = xs at *
      simp only [go_sem, Nat.reduceEqDiff]
      cases xs with
      | nil =>
        simp only [List.length_nil, show (((0 : Nat) : Int) = 0) from rfl, decide_true, go_sem, Nat.reduceEqDiff]
        rw [cntR] at hk
        by_cases hij : i = j
        · subst hij
          by_cases h0 : s = 0
          · subst h0
            simp only [show (((0 : Nat) : Int) = 0) from rfl, decide_true, go_sem, Nat.reduceEqDiff]
            exact hk _ 1 (by rw [if_pos ⟨rfl, rfl⟩]; omega) (hB _ H)
          · simp only [show ¬ ((s : Int) = 0) from by omega, decide_true, decide_false, go_sem, Nat.reduceEqDiff]
            exact hk _ 0 (by rw [if_neg (fun h => h0 h.2)]; omega) (hB _ H)
        · simp only [show ¬ ((i : Int) = j) from by omega, decide_false, go_sem, Nat.reduceEqDiff]
          exact hk _ 0 (by rw [if_neg (fun h => hij h.1)]; omega) (hB _ H)
      | cons x xs =>
        have hpl : p < (rul gm.rules q).2.length := by rw [List.length_cons] at hdl; omega
        simp only [show ¬ (((x :: xs).length : Int) = 0) from by rw [List.length_cons]; omega, decide_false, go_sem, Nat.reduceEqDiff]
        rw [ldB112 (H.box 0 rfl) rfl]
        refine sequence_c hl hw (x :: xs) (H.box 1 rfl) (hX.gr H.gr) (hsub.gr H.gr) (by omega) hdr hij hj ?_
        cases hft : fitsT (spanT gm.rules ws) ws (x :: xs) i j
        · simp only [Bool.not_false, go_sem, Nat.reduceEqDiff]
          exact hk _ 0 (by rw [cntR_none hleft6 hl hj hft]; omega) (hB _ H)
        simp only [Bool.not_true, go_sem, Nat.reduceEqDiff]
        have hxx := hdr x (List.mem_cons_self ..)
        refine rdi (ix22_0 (fun _ => hsub.ptr (by simp)) (by simp)) (rdi (ld3 ((hsub.gr H.gr).cell 0 (by simp))) ?_)
        simp only [List.getD_cons_zero, go_sem, Nat.reduceEqDiff]
        rw [List.drop_one, List.tail_cons] at hnext
        by_cases hx0 : x < 0
        · simp only [hx0, decide_true, go_sem, Nat.reduceEqDiff]
          rw [i64_of (n := (p : Int) + 1) (by omega) (by omega), i64_of (n := (i : Int) + 1) (by omega) (by omega)]
          rw [fits_tok hx0] at hft
          simp only [Bool.and_eq_true, decide_eq_true_eq] at hft
          refine ihR (q := q) (p := p + 1) (i := i + 1) (j := j) (s := s) (by omega) hq hpl (by omega) hj hs (hB _ H) fun w2 z hz H => ?_
          rw [hnext] at hz
          refine hk _ z ?_ H
          rw [cntR, if_pos hx0, if_pos ⟨hft.1, hft.2.1⟩]
          exact hz
        simp only [hx0, decide_false, go_sem, Nat.reduceEqDiff]
        obtain ⟨A, rfl⟩ : ∃ A : Nat, x = A := ⟨x.toNat, by omega⟩
        rw [i64_of (n := (q : Int) * 5) (by omega) (by omega), i64_of (n := (q : Int) * 5 + (p : Int)) (by omega) (by omega)]
        rw [bd186]
        have hkey : Value.agg #[.int .i64 ((q : Int) * 5 + (p : Int)), .int .i64 (i : Int), .int .i64 (j : Int), .int .i64 (s : Int), .int .i64 0] = keyV (q * 5 + p) i j s := by
          unfold keyV
          rw [show ((q * 5 + p : Nat) : Int) = (q : Int) * 5 + (p : Int) from by omega]
        refine allocH H inf186' fun b3 w2 H => ?_
        have H := H.insert 3
        simp only [List.take_succ_cons, List.take_zero, List.drop_succ_cons, List.drop_zero, List.nil_append, List.cons_append] at H
        refine storeH H 3 rfl sz186 rfl rfl rfl fun w3 H => ?_
        simp only [List.nil_append, List.cons_append, List.set_cons_zero, List.set_cons_succ] at H
        have H := H.drew
        rw [ldB129 (H.box 0 rfl) rfl, ldB_agg agg186 sz186 rfl (H.box 3 rfl)]
        have hkl := keyV_key (a := q * 5 + p) (b := i) (c := j) (d := s) (by omega) (by omega) (by omega) (by omega)
        obtain ⟨lx, hlx⟩ := hkl
        refine lookupH H 2 rfl map129 arr186.law (x := keyV (q * 5 + p) i j s) hlx goodC_key zero3 ?_ fun v hv => ?_
        case refine_2 =>
          have hv := hv.get (by omega)
          subst hv
          simp only [go_sem, Nat.reduceEqDiff]
          rw [hxs]
          exact hk _ _ rfl (hB E (H.erase 3))
        simp only [go_sem, Nat.reduceEqDiff]
        refine loop_to (j + 1 - i) 0 (fun m f w' => m ≤ j + 1 - i ∧ f 19 = .int .i64 ((i + m : Nat) : Int) ∧ Apt w0 w' (L (bx b3 [.int .i64 ((q : Int) * 5 + (p : Int)), .int .i64 i, .int .i64 j, .int .i64 s, .int .i64 0] 186 :: E)) ∧ ∃ y : Nat, f 18 = .int .i64 (y : Int) ∧ y = min M (sumN (fun m => sumN (fun k => cntC gm.rules ws A i (i + m) (k + 1) * cntR (cntC gm.rules ws) ws xs (i + m) j (s - (k + 1))) s) m))
          ⟨Nat.zero_le _, rfl, hB _ H, 0, rfl, by simp [sumN]⟩ ?_
        clear H
        rintro m f w4 K hag ⟨hm, h19, H, y, h18, hy1⟩ hK
        rw [hL] at H
        have f0 : f 0 = ptrv bc := hag 0 (by decide)
        have f1 : f 1 = .int .i64 q := hag 1 (by decide)
        have f2 : f 2 = .int .i64 p := hag 2 (by decide)
        have f3 : f 3 = .int .i64 i := hag 3 (by decide)
        have f4 : f 4 = .int .i64 j := hag 4 (by decide)
        have f5 : f 5 = .int .i64 s := hag 5 (by decide)
        have f13 : f 13 = .slice (sub Z p cz 1) (((A : Int) :: xs).length) (cz - p) := hag 13 (by decide)
        have f14 : f 14 = .int .i64 (A : Int) := hag 14 (by decide)
        have f15 : f 15 = ptrv b3 := hag 15 (by decide)
        simp only [f0, f4, f13, f15, h18, h19, go_sem, Nat.reduceEqDiff]
        by_cases hle : i + m ≤ j
        case neg =>
          simp only [show ¬ (((i + m : Nat) : Int) ≤ j) from by omega, decide_false, go_sem, Nat.reduceEqDiff]
          obtain rfl : m = j + 1 - i := by omega
          have H := H.drew
          rw [ldB129 (H.box 0 rfl) rfl, ldB_agg agg186 sz186 rfl (H.box 3 rfl)]
          have hz : y = min M (cntR (cntC gm.rules ws) ws ((A : Int) :: xs) i j s) := by
            rw [cntR, if_neg hx0, Int.toNat_natCast]
            exact hy1
          refine mapUpdateH H 2 rfl map129 arr186.law (x := keyV (q * 5 + p) i j s) hlx goodC_key ⟨q, p, i, j, s, by omega, by omega, by omega, by omega, hs, rfl, by rw [hxs, hz]⟩ fun w5 H => ?_
          simp only [List.set_cons_zero, List.set_cons_succ, List.cons_append, List.nil_append] at H
          exact hk _ y hz (hB E (H.erase 3))
        simp only [show (((i + m : Nat) : Int) ≤ j) from by omega, decide_true, go_sem, Nat.reduceEqDiff]
        have H := H.drew
        rw [ldB112 (H.box 0 rfl) rfl]
        refine rdi (sll22 (by omega) (by rw [List.length_cons]; omega)) ?_
        rw [show (1 : Int).toNat = 1 from rfl, List.length_cons, Nat.add_sub_cancel]
        have hsub1 := hsub.sub (l := 1) (c := cz - p) (by simp) (by omega) xs.length
        rw [List.drop_one, List.tail_cons, List.take_length] at hsub1
        refine sequence_c hl hw xs (H.box 1 rfl) (hX.gr H.gr) (hsub1.gr H.gr) (by rw [List.length_cons] at hdl; omega) (fun x hx => hdr x (List.mem_cons_of_mem _ hx)) (by omega) hj ?_
        cases hft1 : fitsT (spanT gm.rules ws) ws xs (i + m) j
        · simp only [Bool.not_false, go_sem, Nat.reduceEqDiff]
          rw [i64_of (by omega) (by omega)]
          refine hK _ _ (by omega) ⟨by omega, by show Value.int .i64 (((i + m : Nat) : Int) + 1) = _; congr 1, hB _ H, y, h18, ?_⟩
          rw [sumN, sumN_zero (n := s) (fun k hk => by rw [cntR_none hleft6 hl hj hft1, Nat.mul_zero]), Nat.add_zero]
          exact hy1
        simp only [Bool.not_true, go_sem, Nat.reduceEqDiff]
        refine loop_to s 0 (fun o g w' => o ≤ s ∧ g 20 = .int .i64 ((o + 1 : Nat) : Int) ∧ Apt w0 w' (L (bx b3 [.int .i64 ((q : Int) * 5 + (p : Int)), .int .i64 i, .int .i64 j, .int .i64 s, .int .i64 0] 186 :: E)) ∧ ∃ y : Nat, g 18 = .int .i64 (y : Int) ∧ y = min M (sumN (fun m => sumN (fun k => cntC gm.rules ws A i (i + m) (k + 1) * cntR (cntC gm.rules ws) ws xs (i + m) j (s - (k + 1))) s) m + sumN (fun k => cntC gm.rules ws A i (i + m) (k + 1) * cntR (cntC gm.rules ws) ws xs (i + m) j (s - (k + 1))) o))
          ⟨Nat.zero_le _, rfl, hB _ H, y, h18, by simpa [sumN] using hy1⟩ ?_
        clear H
        rintro o g w5 K2 hag2 ⟨ho, h20, H, y2, h18', hy2⟩ hK2
        have g0 : g 0 = ptrv bc := (hag2 0 (by decide)).trans f0
        have g1 : g 1 = .int .i64 q := (hag2 1 (by decide)).trans f1
        have g2 : g 2 = .int .i64 p := (hag2 2 (by decide)).trans f2
        have g3 : g 3 = .int .i64 i := (hag2 3 (by decide)).trans f3
        have g4 : g 4 = .int .i64 j := (hag2 4 (by decide)).trans f4
        have g5 : g 5 = .int .i64 s := (hag2 5 (by decide)).trans f5
        have g14 : g 14 = .int .i64 (A : Int) := (hag2 14 (by decide)).trans f14
        have g19 : g 19 = .int .i64 ((i + m : Nat) : Int) := (hag2 19 (by decide)).trans h19
        simp only [g0, g1, g2, g3, g4, g5, g14, g19, h20, h18', go_sem, Nat.reduceEqDiff]
        by_cases hlo : o < s
        case neg =>
          simp only [show ¬ (((o + 1 : Nat) : Int) ≤ s) from by omega, decide_false, go_sem, Nat.reduceEqDiff]
          obtain rfl : o = s := by omega
          rw [i64_of (by omega) (by omega)]
          exact hK _ _ (by omega) ⟨by omega, by show Value.int .i64 (((i + m : Nat) : Int) + 1) = _; congr 1, H, y2, h18', by rw [sumN]; exact hy2⟩
        simp only [show (((o + 1 : Nat) : Int) ≤ s) from by omega, decide_true, go_sem, Nat.reduceEqDiff]
        refine ihT (A := A) (i := i) (j := i + m) (s := o + 1) (by omega) (by omega) (by omega) (by omega) (by omega) H fun w6 z hz H => ?_
        by_cases hz0 : z = 0
        · subst hz0
          simp only [show ¬ ((0 : Int) < ((0 : Nat) : Int)) from by omega, decide_false, go_sem, Nat.reduceEqDiff]
          rw [i64_of (by omega) (by omega)]
          refine hK2 _ _ hlo ⟨hlo, by show Value.int .i64 (((o + 1 : Nat) : Int) + 1) = _; congr 1, H, y2, h18', ?_⟩
          rw [sumN, show cntC gm.rules ws A i (i + m) (o + 1) = 0 from by omega, Nat.zero_mul, Nat.add_zero]
          exact hy2
        simp only [show ((0 : Int) < (z : Int)) from by omega, decide_true, go_sem, Nat.reduceEqDiff]
        rw [i64_of (n := (p : Int) + 1) (by omega) (by omega), i64_of (n := (s : Int) - ((o + 1 : Nat) : Int)) (by omega) (by omega), show (s : Int) - ((o + 1 : Nat) : Int) = ((s - (o + 1) : Nat) : Int) from by omega]
        refine ihR (q := q) (p := p + 1) (i := i + m) (j := j) (s := s - (o + 1)) (by omega) hq hpl (by omega) hj (by omega) H fun w7 z2 hz2 H => ?_
        rw [hnext] at hz2
        refine times_c hM (by omega) (by omega) rfl ?_
        refine plus_c hM (by omega) (by omega) rfl ?_
        rw [i64_of (by omega) (by omega)]
        refine hK2 _ _ hlo ⟨hlo, by show Value.int .i64 (((o + 1 : Nat) : Int) + 1) = _; congr 1, H, _, rfl, ?_⟩
        rw [sumN, ← Nat.add_assoc, hz, hz2, hy2, cap_mul, cap_add]
end Go.Proofs.Ytiohaeckagjebaa

/- Contract: CountSized of the program. -/
set_option linter.unusedVariables false
set_option linter.unusedSimpArgs false
set_option maxRecDepth 100000
namespace Go.Sh
open Go
section
variable {P : Program} {k : Value → World → Prop} {w0 w : World} {L : List Thing} {Good : Value → Value → Prop}
theorem makeMapHG (H : Apt w0 w L) {t : TypeId} (h : ∀ b w', Gr w w' → Apt w0 w' (L ++ [mpi Good b]) → k (.map (some b)) w') : Do P (sMakeMap t) k w := by
  have e' : (sMakeMap t).run P w = .ok (.value (.map (some w.heap.size))) (w.alloc (.map #[] 0)) := by
    simp only [sMakeMap, Sem.run_bind, run_makeMap_plain]
    rfl
  rw [do_value e']
  refine h _ _ (gr_alloc w _) (H.add (gr_alloc w _) (mpi Good w.heap.size) (fun q hq => by cases hq; exact Nat.le_refl _) (fun q hq => by cases hq; exact (Array.getElem?_eq_some_iff.1 (heap_alloc_new w (.map #[] 0))).1) fun w'' hs => ⟨#[], 0, ?_, fun e he => by simp at he⟩)
  rw [hs _ rfl]
  exact heap_alloc_new w _
theorem boxHG (H : Apt w0 w L) {t : TypeId} {v : Value} (h : ∀ b w', Gr w w' → Apt w0 w' (L ++ [bx b v.cells.toList t]) → k (.pointer (some ⟨b, 0, none⟩)) w') : Do P (sBox t v) k w :=
  do_box fun b w' g hb hB => h b w' g (H.addBox g hb hB)
end
theorem cap_last {M M' x y : Nat} (hM : M = 1000000000) (hM' : M' = 1000000001) (h : y = min M' x) (L : Int) (hL : L = 1000000000) : (if L < (y : Int) then L else (y : Int)) = ((min M x : Nat) : Int) := by
  split <;> omega
end Go.Sh
namespace Go.Proofs.Ytiohaeckagjebaa
open Go Go.Sh Go.RowKit
theorem inf131' : Inf Try.prog 131 (.agg #[.int .i64 0, .int .i64 0, .slice none 0 0, .pointer none, .map none]) 5 56 := inf_of (by kernel_rfl)
theorem bd131 {S : WS} {k : Value → Prop} {a b c p m : Value} (ha : a.cells = #[a]) (hb : b.cells = #[b]) (hc : c.cells = #[c]) (hp : p.cells = #[p]) (hm : m.cells = #[m]) : Rd Try.prog S (sBuild 131 [(1, p), (0, .agg #[a, b, c]), (2, m)]) k = k (.agg #[a, b, c, p, m]) :=
  rd_buildN (ps := [(0, 3), (3, 1), (4, 1)]) Try.underlying131 inf131' ⟨⟨rfl, sz37⟩, ⟨rfl, sz112⟩, ⟨rfl, sz129⟩, trivial⟩ (by
    have e : (Value.agg #[a, b, c]).cells = #[a, b, c] := rfl
    have e2 : (Value.agg #[Value.int .i64 0, .int .i64 0, .slice none 0 0, .pointer none, .map none]).cells = #[Value.int .i64 0, .int .i64 0, .slice none 0 0, .pointer none, .map none] := rfl
    simp [Instr.fill, hp, hm, e, e2])
set_option maxHeartbeats 1600000 in
theorem implCountSized_c {F : Nat → Prop} {w : World} {v : Value} {gm : Gram} {X : Option Addr} {n cx : Nat} {ws : List Int} {most : Int} (hv : GramV F w v gm) (hX : Ints w X ws) (hn : n = ws.length) {k : Value → World → Prop}
    (hk : ∀ w' U d, Gr w w' → Own 3 w' w.heap.size U d (sizedV gm ws most).1 → k (.tuple #[.slice U (sizedV gm ws most).1.length d, .bool (sizedV gm ws most).2]) w') :
    CallK Try.prog 62 [v, .slice X n cx, .int .i64 most] k w := by
  subst hn
  obtain ⟨Y, cy, rfl, hc, hy⟩ := hv
  refine enter62 ?_
  unfold S62
  have H := Apt.nil w
  refine boxH H fun b1 w1 H => ?_
  rw [ldB_agg agg37 sz37 rfl (H.box 0 rfl)]
  refine isGrammar_c (gm := gm) ⟨Y, cy, rfl, hc, hy.gr H.gr⟩ fun w2 g2 => ?_
  have H := H.step g2
  have no : ((goodG gm && wordB gm.toks ws) && inB most 0 20) = false → ∀ w', Gr w w' → k (.tuple #[.slice none 0 0, .bool false]) w' := fun h w' g => by
    have := hk w' none 0 g
    unfold sizedV at this
    rw [h, if_neg Bool.false_ne_true] at this
    exact this (Row.nil _ _ _ _)
  cases hg : goodG gm
  · simp only [Bool.not_false, go_sem, Nat.reduceEqDiff]
    exact no (by rw [hg]; rfl) _ H.gr
  simp only [Bool.not_true, go_sem, Nat.reduceEqDiff]
  have ht := good_toks hg
  rw [ldB3 (H.box 0 rfl) rfl]
  refine isWord_c (hX.gr H.gr) rfl ht.1 ht.2 fun w3 g3 => ?_
  have H := H.step g3
  cases hgw : wordB gm.toks ws
  · simp only [Bool.not_false, go_sem, Nat.reduceEqDiff]
    exact no (by rw [hg, hgw]; rfl) _ H.gr
  simp only [Bool.not_true, go_sem, Nat.reduceEqDiff]
  refine in_c ?_
  cases hm : inB most 0 20
  · simp only [Bool.not_false, go_sem, Nat.reduceEqDiff]
    exact no (by rw [hg, hgw, hm]; rfl) _ H.gr
  simp only [Bool.not_true, go_sem, Nat.reduceEqDiff]
  unfold sizedV at hk
  rw [hg, hgw, hm, if_pos (show ((true && true) && true) = true from rfl)] at hk
  dsimp only at hk
  have hlen := wordB_len hgw
  have htok := wordB_tok hgw ht.2
  have hn6 := good_nons hg
  obtain ⟨most, rfl⟩ : ∃ m' : Nat, most = m' := by
    simp only [inB, Bool.and_eq_true, decide_eq_true_eq] at hm
    exact ⟨most.toNat, by omega⟩
  have hm20 : most ≤ 20 := by
    simp only [inB, Bool.and_eq_true, decide_eq_true_eq] at hm
    omega
  rw [Int.toNat_natCast] at hk
  obtain ⟨M, hM⟩ : ∃ M : Nat, M = 1000000001 := ⟨_, rfl⟩
  have H := H.drew
  have G0 := H.gr
  refine ⟨fun w' => Gr w3.drew w', Gr.refl _, ?_⟩
  rw [rdG_agg agg37 sz37 rfl (H.box 0 rfl)]
  rw [rdG_agg agg37 sz37 rfl (H.box 0 rfl)]
  have HB := H
  refine ⟨?_, ?_⟩
  · refine spans_c (gm := gm) ⟨Y, cy, rfl, hc, hy.gr H.gr⟩ hg (hX.gr H.gr) rfl hlen htok fun w4 bt HT => ?_
    refine ⟨HT.gr, ?_⟩
    have H := H.append HT
    refine makeMapHG (Good := GoodC M gm.rules ws) H fun bm w5 g5 H => ?_
    refine ⟨gr_trans HT.gr g5, ?_⟩
    refine rdi (bd131 rfl rfl rfl rfl rfl) ?_
    refine boxHG H fun bc w6 g6 H => ?_
    refine ⟨gr_trans HT.gr (gr_trans g5 g6), ?_⟩
    have H := (H.erase 0).insert 0
    simp only [List.nil_append, List.cons_append, List.eraseIdx_cons_zero, List.eraseIdx_cons_succ, List.take_succ_cons, List.take_zero, List.drop_succ_cons, List.drop_zero] at H
    refine buildH H u22 inf3 [] (by decide) (by decide) (by simp [Instr.fill, madeCells]) rfl fun b9 w9 H => ?_
    simp only [List.nil_append, List.cons_append] at H
    refine rdi (bin_add (P := Try.prog) (x := (most : Int)) (y := 1)) ?_
    rw [i64_of (by omega) (by omega)]
    refine loop_to (most + 1) 0 (fun s f w' => s ≤ most + 1 ∧ f 36 = .int .i64 s ∧ ∃ U d, f 9 = .slice U s d ∧ Apt w w' [bx bc [.int .i64 gm.nons, .int .i64 gm.toks, .slice Y gm.rules.length cy, ptrv bt, .map (some bm)] 131, bx bt (.slice X ws.length cx :: cellsT (spanT gm.rules ws)) 111, mpi (GoodC M gm.rules ws) bm, ows U d ((List.range s).map fun s => ((min capM (cntC gm.rules ws 0 0 ws.length s) : Nat) : Int))])
      ⟨Nat.zero_le _, rfl, _, _, rfl, H⟩ ?_
    clear H
    rintro s f w10 K hag ⟨hs, h36, U, d, h9, H⟩ hK
    have f1 : f 1 = .slice X ws.length cx := hag 1 (by decide)
    have f8 : f 8 = ptrv bc := hag 8 (by decide)
    have f35 : f 35 = .int .i64 ((most : Int) + 1) := hag 35 (by decide)
    simp only [f1, f8, f35, h36, h9, go_sem, Nat.reduceEqDiff]
    have hsl : ((List.range s).map fun s => ((min capM (cntC gm.rules ws 0 0 ws.length s) : Nat) : Int)).length = s := by simp
    by_cases hlt : s < most + 1
    case neg =>
      simp only [show ¬ ((s : Int) < (most : Int) + 1) from by omega, decide_false, go_sem, Nat.reduceEqDiff]
      obtain rfl : s = most + 1 := by omega
      have := hk _ U d H.gr (H.own 3 rfl)
      rw [show (sizedL gm ws most).length = most + 1 from by simp [sizedL]] at this
      exact this
    simp only [show ((s : Int) < (most : Int) + 1) from by omega, decide_true, go_sem, Nat.reduceEqDiff]
    refine (sized_c hM hg hc hy hX hlen htok (cx := cx) (bc := bc) (bt := bt) (bm := bm) (L := fun E => _) (fun E => rfl) 1000).1 (A := 0) (i := 0) (j := ws.length) (s := s) (E := [ows U d ((List.range s).map fun s => ((min capM (cntC gm.rules ws 0 0 ws.length s) : Nat) : Int))]) (by omega) (by omega) (Nat.zero_le _) (Nat.le_refl _) (by omega) H fun w11 z hz H => ?_
    refine rdi min_int ?_
    rw [cap_last (M := capM) rfl hM hz 1000000000 rfl]
    refine pushH H 3 rfl hsl.symm (by rw [hsl]; omega) fun t1 U1 d1 w12 H => ?_
    simp only [List.set_cons_zero, List.set_cons_succ] at H
    rw [i64_of (by omega) (by omega)]
    refine hK _ _ hlt ⟨by omega, rfl, U1, d1, ?_, ?_⟩
    · show Value.slice U1 _ d1 = _
      rw [List.length_append, hsl]
      rfl
    · rw [List.range_succ, List.map_append]
      exact H
  · refine makeMapHG (Good := GoodC M gm.rules ws) HB fun bm w5 g5 H => ?_
    refine ⟨g5, ?_⟩
    refine spans_c (gm := gm) ⟨Y, cy, rfl, hc, hy.gr H.gr⟩ hg (hX.gr H.gr) rfl hlen htok fun w4 bt HT => ?_
    refine ⟨gr_trans g5 HT.gr, ?_⟩
    have H := H.append HT
    refine rdi (bd131 rfl rfl rfl rfl rfl) ?_
    refine boxHG H fun bc w6 g6 H => ?_
    refine ⟨gr_trans g5 (gr_trans HT.gr g6), ?_⟩
    have H := (H.erase 0).insert 0
    simp only [List.nil_append, List.cons_append, List.eraseIdx_cons_zero, List.eraseIdx_cons_succ, List.take_succ_cons, List.take_zero, List.drop_succ_cons, List.drop_zero] at H
    have H := Apt.insert (L := [_, _]) H 1
    simp only [List.nil_append, List.cons_append, List.eraseIdx_cons_zero, List.eraseIdx_cons_succ, List.take_succ_cons, List.take_zero, List.drop_succ_cons, List.drop_zero] at H
    refine buildH H u22 inf3 [] (by decide) (by decide) (by simp [Instr.fill, madeCells]) rfl fun b9 w9 H => ?_
    simp only [List.nil_append, List.cons_append] at H
    refine rdi (bin_add (P := Try.prog) (x := (most : Int)) (y := 1)) ?_
    rw [i64_of (by omega) (by omega)]
    refine loop_to (most + 1) 0 (fun s f w' => s ≤ most + 1 ∧ f 36 = .int .i64 s ∧ ∃ U d, f 9 = .slice U s d ∧ Apt w w' [bx bc [.int .i64 gm.nons, .int .i64 gm.toks, .slice Y gm.rules.length cy, ptrv bt, .map (some bm)] 131, bx bt (.slice X ws.length cx :: cellsT (spanT gm.rules ws)) 111, mpi (GoodC M gm.rules ws) bm, ows U d ((List.range s).map fun s => ((min capM (cntC gm.rules ws 0 0 ws.length s) : Nat) : Int))])
      ⟨Nat.zero_le _, rfl, _, _, rfl, H⟩ ?_
    clear H
    rintro s f w10 K hag ⟨hs, h36, U, d, h9, H⟩ hK
    have f1 : f 1 = .slice X ws.length cx := hag 1 (by decide)
    have f8 : f 8 = ptrv bc := hag 8 (by decide)
    have f35 : f 35 = .int .i64 ((most : Int) + 1) := hag 35 (by decide)
    simp only [f1, f8, f35, h36, h9, go_sem, Nat.reduceEqDiff]
    have hsl : ((List.range s).map fun s => ((min capM (cntC gm.rules ws 0 0 ws.length s) : Nat) : Int)).length = s := by simp
    by_cases hlt : s < most + 1
    case neg =>
      simp only [show ¬ ((s : Int) < (most : Int) + 1) from by omega, decide_false, go_sem, Nat.reduceEqDiff]
      obtain rfl : s = most + 1 := by omega
      have := hk _ U d H.gr (H.own 3 rfl)
      rw [show (sizedL gm ws most).length = most + 1 from by simp [sizedL]] at this
      exact this
    simp only [show ((s : Int) < (most : Int) + 1) from by omega, decide_true, go_sem, Nat.reduceEqDiff]
    refine (sized_c hM hg hc hy hX hlen htok (cx := cx) (bc := bc) (bt := bt) (bm := bm) (L := fun E => _) (fun E => rfl) 1000).1 (A := 0) (i := 0) (j := ws.length) (s := s) (E := [ows U d ((List.range s).map fun s => ((min capM (cntC gm.rules ws 0 0 ws.length s) : Nat) : Int))]) (by omega) (by omega) (Nat.zero_le _) (Nat.le_refl _) (by omega) H fun w11 z hz H => ?_
    refine rdi min_int ?_
    rw [cap_last (M := capM) rfl hM hz 1000000000 rfl]
    refine pushH H 3 rfl hsl.symm (by rw [hsl]; omega) fun t1 U1 d1 w12 H => ?_
    simp only [List.set_cons_zero, List.set_cons_succ] at H
    rw [i64_of (by omega) (by omega)]
    refine hK _ _ hlt ⟨by omega, rfl, U1, d1, ?_, ?_⟩
    · show Value.slice U1 _ d1 = _
      rw [List.length_append, hsl]
      rfl
    · rw [List.range_succ, List.map_append]
      exact H
end Go.Proofs.Ytiohaeckagjebaa

/- The laws of CountSized, over their contracts. -/
set_option linter.unusedVariables false
set_option linter.unusedSimpArgs false
set_option maxRecDepth 100000
namespace Go.Proofs.Ytiohaeckagjebaa
open Go Go.Sh Go.RowKit

set_option maxHeartbeats 2000000 in
theorem law_CountSized {w : World} {v0 : Value} {g0 : Gram} {X1 : Option Addr} {c1 : Nat} {xs1 : List Int} {a2 : Int} (hv0 : GramV (fun q => q < w.heap.size) w v0 g0) (hx1 : Ints w X1 xs1) (hc1 : xs1.length ≤ c1) {k : Value → World → Prop} (hk : ∀ w', Gr w w' → k (.bool true) w') :
    CallK Try.prog 16 [v0, .slice X1 xs1.length c1, .int .i64 a2] k w := by
  obtain ⟨Y0, d0, rfl, hd0, hy0⟩ := hv0
  refine enter16 ?_
  unfold S16
  have H := Apt.nil w
  refine boxH H fun b0 w1 H => ?_
  refine rdi len22 (rdi bin_gtr ?_)
  refine cond_split (fun _ => hk _ H.gr) fun h => ?_
  have hL1 : xs1.length ≤ 1048576 := by have := of_decide_eq_false h; omega
  refine rdi (ldB_agg agg31 sz31 rfl (H.box 0 rfl)) ?_
  refine szGrammar_c (gm := g0) ⟨Y0, d0, rfl, hd0, hy0.gr H.gr⟩ (by omega) (by omega) fun w2 g => ?_
  have H := H.step g
  refine rdi bin_lss ?_
  refine cond_split (fun _ => hk _ H.gr) fun h => ?_
  have hz0 := left_ok (of_decide_eq_false h)
  have hle0 := left_le (n := 1048576) (s := sizeR g0.rules) (by omega)
  have hp0 := of_decide_eq_false h
  have hlV : (sizedV g0 xs1 a2).1.length ≤ 1000000 := sizedV_len _ _ _
  refine rdi (ldB_agg agg31 sz31 rfl (H.box 0 rfl)) ?_
  refine toGrammar_c (gm := g0) ⟨Y0, d0, rfl, hd0, hy0.gr H.gr⟩ (by omega) fun v w3 g oc => ?_
  obtain ⟨XC, cC, psC, rfl, oc⟩ := oc
  have H := H.addRules g oc
  refine toIntS_c (hx1.gr H.gr) rfl (by omega) fun XC cC w4 g oc => ?_
  have H := H.addOwn g oc
  simp only [List.nil_append, List.cons_append, List.set_cons_zero, List.set_cons_succ] at H
  refine specCountSized_c (rls_gramV (gm := g0) (H.rules 1 rfl)) (H.ints 2 rfl) rfl fun w5 U dU g oU => ?_
  have H := H.addOwn g oU
  refine rdi extract_two_0 (rdi extract_two_1 ?_)
  simp only [List.nil_append, List.cons_append, List.set_cons_zero, List.set_cons_succ] at H
  refine rdi (ldB_agg agg31 sz31 rfl (H.box 0 rfl)) ?_
  refine toGrammar_c (gm := g0) ⟨Y0, d0, rfl, hd0, hy0.gr H.gr⟩ (by omega) fun v w6 g oc => ?_
  obtain ⟨XC, cC, psC, rfl, oc⟩ := oc
  have H := H.addRules g oc
  refine allocH H inf37 fun bx0 w7 H => ?_
  refine storeH H 5 rfl sz37 rfl rfl rfl fun w8 H => ?_
  simp only [List.nil_append, List.cons_append, List.set_cons_zero, List.set_cons_succ] at H
  refine toIntS_c (hx1.gr H.gr) rfl (by omega) fun XC cC w9 g oc => ?_
  have H := H.addOwn g oc
  simp only [List.nil_append, List.cons_append, List.set_cons_zero, List.set_cons_succ] at H
  refine rdi (ldB_agg agg37 sz37 rfl (H.box 5 rfl)) ?_
  refine implCountSized_c (rls_gramV (gm := g0) (H.rules 4 rfl)) (H.ints 6 rfl) rfl fun w10 U dU g oU => ?_
  have H := H.addOwn g oU
  refine rdi extract_two_0 (rdi extract_two_1 ?_)
  simp only [List.nil_append, List.cons_append, List.set_cons_zero, List.set_cons_succ] at H
  refine eqIntS_same (H.ints 7 rfl) (H.ints 3 rfl) fun w11 g => ?_
  have H := H.step g
  refine rdi un_not (rdi guard_ff (rdi guard_ff (rdi guard_ff (rdi bin_neq_same (rdi pick_false (rdi cond_false' ?_))))))
  have H := H.drew
  refine ⟨fun w' => Gr w11.drew w', Gr.refl _, ?_⟩
  refine rdi (rdG_agg agg37 sz37 rfl (H.box 5 rfl)) (rdi (rdG_agg agg31 sz31 rfl (H.box 0 rfl)) ?_)
  refine toGrammar_c (gm := g0) ⟨Y0, d0, rfl, hd0, hy0.gr H.gr⟩ (by omega) fun v w12 g oc => ?_
  refine ⟨g, ?_⟩
  have H := H.step g
  refine eqGrammar_same (rls_gramV (gm := g0) (H.rules 4 rfl)) oc.read fun w13 g => ?_
  have H := H.step g
  refine rdi un_not (rdi cond_false' ?_)
  refine toIntS_c (hx1.gr H.gr) rfl (by omega) fun XC cC w14 g oc => ?_
  have H := H.step g
  refine eqIntS_same (H.ints 6 rfl) (Own.ints oc) fun w15 g => ?_
  have H := H.step g
  refine rdi un_not (rdi cond_false' ?_)
  refine rdi (ldB_agg agg37 sz37 rfl (H.box 5 rfl)) ?_
  refine markGrammar_c (gm := g0) (H.rules 4 rfl) rfl (by omega) (by omega) fun w16 g om => ?_
  have H := H.setRules 4 rfl (markR_length _ g0.rules) g om
  simp only [List.nil_append, List.cons_append, List.set_cons_zero, List.set_cons_succ] at H
  refine markH H 6 rfl rfl (by omega) (by omega) fun w17 H => ?_
  simp only [List.nil_append, List.cons_append, List.set_cons_zero, List.set_cons_succ] at H
  refine rdi (bin_lss_false (by omega)) (rdi guard_ff (rdi guard_ff (rdi guard_ff ?_)))
  refine eqIntS_same (H.ints 7 rfl) (H.ints 3 rfl) fun w18 g => ?_
  have H := H.step g
  refine rdi guard_ff (rdi un_not (rdi pick_false (rdi guard_ff (rdi guard_ff (rdi guard_ff (rdi bin_neq_same (rdi pick_false (rdi cond_false' ?_))))))))
  refine markH H 7 rfl rfl (by omega) (by omega) fun w19 H => ?_
  simp only [List.nil_append, List.cons_append, List.set_cons_zero, List.set_cons_succ] at H
  refine heldIntS_c (H.ints 7 rfl) rfl (by omega) (by omega) fun w20 g => ?_
  have H := H.step g
  refine rdi (bin_lss_false (by omega)) (rdi cond_false' (rdi bin_neqi_same (rdi cond_false' ?_)))
  refine rdi (ldB_agg agg31 sz31 rfl (H.box 0 rfl)) ?_
  refine toGrammar_c (gm := g0) ⟨Y0, d0, rfl, hd0, hy0.gr H.gr⟩ (by omega) fun v w21 g oc => ?_
  obtain ⟨XC, cC, psC, rfl, oc⟩ := oc
  have H := H.addRules g oc
  refine toIntS_c (hx1.gr H.gr) rfl (by omega) fun XC cC w22 g oc => ?_
  have H := H.addOwn g oc
  simp only [List.nil_append, List.cons_append, List.set_cons_zero, List.set_cons_succ] at H
  refine implCountSized_c (rls_gramV (gm := g0) (H.rules 8 rfl)) (H.ints 9 rfl) rfl fun w23 U dU g oU => ?_
  have H := H.addOwn g oU
  refine rdi extract_two_0 (rdi extract_two_1 ?_)
  simp only [List.nil_append, List.cons_append, List.set_cons_zero, List.set_cons_succ] at H
  refine eqIntS_same (H.ints 10 rfl) (H.ints 3 rfl) fun w24 g => ?_
  have H := H.step g
  refine rdi un_not (rdi guard_ff (rdi guard_ff (rdi guard_ff (rdi bin_neq_same (rdi pick_false (rdi cond_false' ?_))))))
  refine heldIntS_c (H.ints 7 rfl) rfl (by omega) (by omega) fun w25 g => ?_
  have H := H.step g
  refine rdi (bin_lss_false (by omega)) (rdi cond_false' (rdi bin_neqi_same (rdi cond_false' ?_)))
  exact hk _ H.gr
end Go.Proofs.Ytiohaeckagjebaa

/- From the reading of arguments to what the contracts ask. -/
set_option linter.unusedVariables false
set_option linter.unusedSimpArgs false
set_option maxRecDepth 100000
namespace Go.Sh
open Go Go.ChangeShapes Go.WideShapes Go.ChangeAt Go.RowKit
theorem below_of_gr {w w' : World} (g : Gr w w') : Below w.heap.size w w' := ⟨g.os, g.tape, g.output, g.size, fun k hk => g.block k hk (by simp)⟩
/-- A law's walk, as its row asks for it. -/
theorem walk_of {P : Program} {g : FuncId} {args : List Value} {w : World} (h : ∀ k : Value → World → Prop, (∀ w', Gr w w' → k (.bool true) w') → CallK P g args k w) :
    Calls P g args.toArray w fun e w' => e = .returned (.bool true) ∧ Below w.heap.size w w' :=
  (h (fun v w' => v = .bool true ∧ Gr w w') (fun w' g => ⟨rfl, g⟩)).2.mono fun e w' he => by
    cases e with
    | returned v => exact ⟨by rw [he.1], below_of_gr he.2⟩
    | panicked c => exact he.elim
    | outgrown => exact he.elim

section
variable {H : Type} {enc : TypeId × Value → H} {P : Program} {w : World} {base : Nat} {spare : Nat → Bool} {held : Bool}
theorem read_ints {t e : TypeId} (ht : P.underlying t = some (.slice e)) (he : P.underlying e = some (.int .i64)) (hc : P.cellsOf e = 1) {fuel : Nat} {cs : List Value} {x : DataW H × List MemPlace}
    (h : DataW.trod enc P w base spare held fuel t cs = some x) : ∃ X n c xs, cs = [.slice X n c] ∧ n = xs.length ∧ n ≤ c ∧ Ints w X xs := by
  rcases open_ints ht he hc h with ⟨hcs, _⟩ | ⟨a, l, c, zs, hcs, _, hl, hm, hz, _, hcell, hwz⟩
  · exact ⟨none, 0, 0, [], hcs, rfl, Nat.le_refl _, by simp, fun h => by simp at h, fun j hj => by simp at hj⟩
  · have hzl : l ≤ zs.length := by rw [hz]; split <;> omega
    refine ⟨some a, l, c, zs.take l, hcs, by simp; omega, hl, ?_, fun _ => rfl, fun j hj => ?_⟩
    · unfold maxLen at hm
      simp
      omega
    · have hj' : j < l ∧ j < zs.length := by simp at hj; omega
      rw [show (ad (some a)).add j = a.add j from rfl, hcell j hj'.2]
      simp [List.getD_eq_getElem?_getD, List.getElem?_take, hj'.1]
theorem trod_ints {t e : TypeId} {v : Value} {d : DataW H} {p : List MemPlace} (ht : P.underlying t = some (.slice e)) (he : P.underlying e = some (.int .i64)) (hc : P.cellsOf e = 1)
    (h : DataW.Trod enc P w base spare held t v d p) : ∃ X n c xs, v.cells.toList = [.slice X n c] ∧ n = xs.length ∧ n ≤ c ∧ Ints w X xs := by
  obtain ⟨fuel, hf⟩ := h
  exact read_ints ht he hc hf
end
end Go.Sh

/- From the reading of a grammar among the arguments to what the contracts ask. -/
set_option linter.unusedVariables false
set_option linter.unusedSimpArgs false
set_option maxRecDepth 100000
namespace Go.Sh
open Go Go.ChangeShapes Go.WideShapes Go.ChangeAt Go.RowKit Go.Deep
section
variable {H : Type} {enc : TypeId × Value → H} {P : Program} {w : World} {base : Nat} {spare : Nat → Bool} {held : Bool}
theorem read_rules {t e ti : TypeId} {f0 f1 : Field} (ht : P.underlying t = some (.slice e)) (he : P.underlying e = some (.struct #[f0, f1])) (ce : P.cellsOf e = 2) (o0 : f0.offset = 0) (o1 : f1.offset = 1) (c0 : P.cellsOf f0.type = 1) (c1 : P.cellsOf f1.type = 1)
    (h0 : P.underlying f0.type = some (.int .i64)) (h1 : P.underlying f1.type = some (.slice ti)) (hti : P.underlying ti = some (.int .i64)) (hci : P.cellsOf ti = 1) {fuel : Nat} {cs : List Value} {x : DataW H × List MemPlace}
    (h : DataW.trod enc P w base spare held fuel t cs = some x) : ∃ X c rs, cs = [.slice X (List.length rs) c] ∧ rs.length ≤ c ∧ RulesF (fun b => b < w.heap.size) w X rs := by
  rcases open_slice_pairs ht he ce o0 o1 c0 c1 h with ⟨hcs, _⟩ | ⟨a, len, cap, m, n, V0, V1, D0, D1, P0, P1, rfl, hb, hl, hm, hmm, _, hx⟩
  · exact ⟨none, 0, [], hcs, Nat.le_refl _, by simp, fun h => by simp at h, fun h => by simp at h, fun j hj => by simp at hj⟩
  have hlm : len ≤ m := by rw [hmm]; split <;> omega
  have each : ∀ i, i < len → ∃ q : RuleL × Option Addr × Nat, V0 i = .int .i64 q.1.1 ∧ V1 i = .slice q.2.1 q.1.2.length q.2.2 ∧ q.1.2.length ≤ q.2.2 ∧ Ints w q.2.1 q.1.2 := fun i hi => by
    obtain ⟨_, _, t0, t1⟩ := hx i (by omega)
    obtain ⟨k, hk, _, _⟩ := DataW.trod_int h0 t0
    obtain ⟨X, n, c, xs, hcs, rfl, hn, hix⟩ := read_ints h1 hti hci t1
    simp only [List.cons.injEq, and_true] at hk hcs
    exact ⟨((k, xs), X, c), hk, hcs, hn, hix⟩
  obtain ⟨q, hq⟩ := choose_lt each
  have hr : ∀ j, j < len → rul ((List.range len).map fun i => (q i).1) j = (q j).1 := fun j hj => by
    rw [rul_eq (by simpa using hj)]
    simp
  refine ⟨some a, cap, (List.range len).map fun i => (q i).1, by simp, by simpa using hl, by unfold maxLen at hm; simp; omega, fun _ => rfl, fun hp => ?_, fun j hj => ?_⟩
  · have := lt_of_cell (hx 0 (by simp at hp; omega)).1
    rwa [add_block] at this
  · have hj' : j < len := by simpa using hj
    rw [hr j hj']
    obtain ⟨e0, e1, _, _⟩ := hx j (by omega)
    obtain ⟨q0, q1, q2, q3⟩ := hq j hj'
    exact ⟨_, _, e0.trans (by rw [q0]), e1.trans (by rw [q1]), q2, IntsF.of_ints q3⟩
end
end Go.Sh
namespace Go.Proofs.Ytiohaeckagjebaa
open Go Go.Sh Go.ChangeShapes Go.WideShapes Go.ChangeAt Go.RowKit Go.Deep
theorem cells3 : Try.prog.cellsOf 3 = 1 := by kernel_rfl
theorem cells22 : Try.prog.cellsOf 22 = 1 := by kernel_rfl
theorem cells29 : Try.prog.cellsOf 29 = 1 := by kernel_rfl
theorem cells148 : Try.prog.cellsOf 148 = 2 := by kernel_rfl
theorem read_gram {H : Type} {enc : TypeId × Value → H} {w : World} {base b0 : Nat} {spare : Nat → Bool} {held : Bool} {r : Reach} {v : Value} {d : DataW H} {p : List MemPlace} (hval : Value.okWide Try.prog w r b0 31 v)
    (h : DataW.Trod enc Try.prog w base spare held 31 v d p) : ∃ g, GramV (fun b => b < w.heap.size) w v g := by
  obtain ⟨cs, rfl, hsz⟩ := okWide_struct Try.underlying31 hval
  obtain ⟨fuel, hf⟩ := h
  obtain ⟨y0, y1, y2, n, _, hl, t0, t1, t2⟩ := trod_struct3 Try.underlying31 hf
  have hc3 : Try.prog.cellsOf 31 = 3 := by kernel_rfl
  rw [hc3] at hl hsz
  obtain ⟨l⟩ := cs
  match l, hsz with
  | [u0, u1, u2], _ =>
    have ec : (Value.agg #[u0, u1, u2]).cells.toList = [u0, u1, u2] := rfl
    simp only [ec, cells3, cells29, List.drop, List.take] at t0 t1 t2
    obtain ⟨k0, e0, _, _⟩ := DataW.trod_int Try.underlying3 t0
    obtain ⟨k1, e1, _, _⟩ := DataW.trod_int Try.underlying3 t1
    obtain ⟨X, c, rs, e2, hc, hr⟩ := read_rules Try.underlying29 Try.underlying148 cells148 rfl rfl cells3 cells22 Try.underlying3 Try.underlying22 Try.underlying3 cells3 t2
    simp only [List.cons.injEq, and_true] at e0 e1 e2
    subst e0 e1 e2
    exact ⟨⟨k0, k1, rs⟩, X, c, rfl, hc, hr⟩
end Go.Proofs.Ytiohaeckagjebaa

/- Facts of the program alone, that each row asks for: its init order's words, and that it is laid out. -/
set_option maxRecDepth 100000
namespace Go.Proofs.Ytiohaeckagjebaa
open Go
theorem make_of {P : Program} {W : List (List Char)} {c : List Char} {rest : List (List Char)} (h : behindMainWord (wordsSigns P.initOrder.toList) = W) (hW : W = c :: rest) (hc : (c == "gc".toList || c == "spec".toList) = false) (h2 : (c == "cut".toList) = true) : P.make = some .cut := by
  unfold Program.make
  rw [h, hW]
  dsimp only
  rw [if_neg (by rw [hc]; exact Bool.false_ne_true), if_pos (by rw [h2]; rfl)]
theorem lifts_of {P : Program} {W : List (List Char)} (h : behindMainWord (wordsSigns P.initOrder.toList) = W) (h1 : (W.head? == some "carried".toList) = false) (h2 : (stripLifts liftWords W).1.contains "finals" = false) : P.liftsFinal = false := by
  unfold Program.liftsFinal Program.headLifts
  rw [h]
  simp only [h1, Bool.false_and, Bool.false_or]
  split
  · exact h2
  · rfl
theorem may_of {P : Program} {W : List (List Char)} {c : List Char} {rest : List (List Char)} {l : List String} (h : behindMainWord (wordsSigns P.initOrder.toList) = W) (hW : W = c :: rest) (hl : P.laysLater = false) (hb : P.bearsReflect = false) (hs : stripLifts liftWords (c :: rest) = (l, c :: rest)) (h2 : (c == "cut".toList) = true) (h3 : l.contains "leanrows" = false) (hd : P.doorFits l = true) : P.mayEnter = true := by
  unfold Program.mayEnter
  rw [h, hW]
  have h4 : (some c == some "cut".toList) = true := h2
  simp only [hs, hl, hb, h3, hd, h4, List.head?_cons, Bool.not_false, Bool.and_true, Bool.or_true]
def signs : List Char := Char.ofNat 104 :: Char.ofNat 97 :: Char.ofNat 114 :: Char.ofNat 110 :: Char.ofNat 101 :: Char.ofNat 115 :: Char.ofNat 115 :: Char.ofNat 32 :: Char.ofNat 50 :: Char.ofNat 50 :: Char.ofNat 97 :: Char.ofNat 48 :: Char.ofNat 55 :: Char.ofNat 100 :: Char.ofNat 52 :: Char.ofNat 52 :: Char.ofNat 51 :: Char.ofNat 99 :: Char.ofNat 52 :: Char.ofNat 99 :: Char.ofNat 53 :: Char.ofNat 57 :: Char.ofNat 54 :: Char.ofNat 50 :: Char.ofNat 49 :: Char.ofNat 50 :: Char.ofNat 49 :: Char.ofNat 99 :: Char.ofNat 52 :: Char.ofNat 98 :: Char.ofNat 51 :: Char.ofNat 97 :: Char.ofNat 53 :: Char.ofNat 52 :: Char.ofNat 51 :: Char.ofNat 97 :: Char.ofNat 54 :: Char.ofNat 50 :: Char.ofNat 49 :: Char.ofNat 56 :: Char.ofNat 53 :: Char.ofNat 48 :: Char.ofNat 99 :: Char.ofNat 52 :: Char.ofNat 54 :: Char.ofNat 53 :: Char.ofNat 54 :: Char.ofNat 102 :: Char.ofNat 53 :: Char.ofNat 98 :: Char.ofNat 52 :: Char.ofNat 55 :: Char.ofNat 100 :: Char.ofNat 102 :: Char.ofNat 97 :: Char.ofNat 102 :: Char.ofNat 53 :: Char.ofNat 102 :: Char.ofNat 50 :: Char.ofNat 55 :: Char.ofNat 51 :: Char.ofNat 57 :: Char.ofNat 97 :: Char.ofNat 52 :: Char.ofNat 102 :: Char.ofNat 52 :: Char.ofNat 51 :: Char.ofNat 50 :: Char.ofNat 48 :: Char.ofNat 98 :: Char.ofNat 97 :: Char.ofNat 52 :: Char.ofNat 32 :: Char.ofNat 99 :: Char.ofNat 117 :: Char.ofNat 116 :: Char.ofNat 32 :: Char.ofNat 97 :: Char.ofNat 116 :: Char.ofNat 32 :: Char.ofNat 108 :: Char.ofNat 111 :: Char.ofNat 111 :: Char.ofNat 112 :: Char.ofNat 46 :: Char.ofNat 101 :: Char.ofNat 120 :: Char.ofNat 97 :: Char.ofNat 109 :: Char.ofNat 112 :: Char.ofNat 108 :: Char.ofNat 101 :: Char.ofNat 47 :: Char.ofNat 103 :: Char.ofNat 48 :: Char.ofNat 48 :: Char.ofNat 55 :: Char.ofNat 53 :: Char.ofNat 56 :: Char.ofNat 47 :: Char.ofNat 108 :: Char.ofNat 97 :: Char.ofNat 119 :: Char.ofNat 115 :: Char.ofNat 46 :: Char.ofNat 70 :: Char.ofNat 110 :: Char.ofNat 69 :: Char.ofNat 120 :: Char.ofNat 97 :: Char.ofNat 99 :: Char.ofNat 116 :: Char.ofNat 80 :: Char.ofNat 117 :: Char.ofNat 109 :: Char.ofNat 112 :: Char.ofNat 87 :: Char.ofNat 111 :: Char.ofNat 114 :: Char.ofNat 100 :: Char.ofNat 32 :: Char.ofNat 108 :: Char.ofNat 111 :: Char.ofNat 111 :: Char.ofNat 112 :: Char.ofNat 46 :: Char.ofNat 101 :: Char.ofNat 120 :: Char.ofNat 97 :: Char.ofNat 109 :: Char.ofNat 112 :: Char.ofNat 108 :: Char.ofNat 101 :: Char.ofNat 47 :: Char.ofNat 103 :: Char.ofNat 48 :: Char.ofNat 48 :: Char.ofNat 55 :: Char.ofNat 53 :: Char.ofNat 56 :: Char.ofNat 47 :: Char.ofNat 108 :: Char.ofNat 97 :: Char.ofNat 119 :: Char.ofNat 115 :: Char.ofNat 46 :: Char.ofNat 70 :: Char.ofNat 110 :: Char.ofNat 69 :: Char.ofNat 120 :: Char.ofNat 97 :: Char.ofNat 99 :: Char.ofNat 116 :: Char.ofNat 76 :: Char.ofNat 111 :: Char.ofNat 110 :: Char.ofNat 103 :: Char.ofNat 69 :: Char.ofNat 110 :: Char.ofNat 111 :: Char.ofNat 117 :: Char.ofNat 103 :: Char.ofNat 104 :: Char.ofNat 32 :: Char.ofNat 108 :: Char.ofNat 111 :: Char.ofNat 111 :: Char.ofNat 112 :: Char.ofNat 46 :: Char.ofNat 101 :: Char.ofNat 120 :: Char.ofNat 97 :: Char.ofNat 109 :: Char.ofNat 112 :: Char.ofNat 108 :: Char.ofNat 101 :: Char.ofNat 47 :: Char.ofNat 103 :: Char.ofNat 48 :: Char.ofNat 48 :: Char.ofNat 55 :: Char.ofNat 53 :: Char.ofNat 56 :: Char.ofNat 47 :: Char.ofNat 108 :: Char.ofNat 97 :: Char.ofNat 119 :: Char.ofNat 115 :: Char.ofNat 46 :: Char.ofNat 70 :: Char.ofNat 110 :: Char.ofNat 69 :: Char.ofNat 120 :: Char.ofNat 97 :: Char.ofNat 99 :: Char.ofNat 116 :: Char.ofNat 83 :: Char.ofNat 116 :: Char.ofNat 97 :: Char.ofNat 114 :: Char.ofNat 79 :: Char.ofNat 102 :: Char.ofNat 32 :: Char.ofNat 108 :: Char.ofNat 111 :: Char.ofNat 111 :: Char.ofNat 112 :: Char.ofNat 46 :: Char.ofNat 101 :: Char.ofNat 120 :: Char.ofNat 97 :: Char.ofNat 109 :: Char.ofNat 112 :: Char.ofNat 108 :: Char.ofNat 101 :: Char.ofNat 47 :: Char.ofNat 103 :: Char.ofNat 48 :: Char.ofNat 48 :: Char.ofNat 55 :: Char.ofNat 53 :: Char.ofNat 56 :: Char.ofNat 47 :: Char.ofNat 108 :: Char.ofNat 97 :: Char.ofNat 119 :: Char.ofNat 115 :: Char.ofNat 46 :: Char.ofNat 70 :: Char.ofNat 110 :: Char.ofNat 69 :: Char.ofNat 120 :: Char.ofNat 97 :: Char.ofNat 99 :: Char.ofNat 116 :: Char.ofNat 74 :: Char.ofNat 111 :: Char.ofNat 105 :: Char.ofNat 110 :: Char.ofNat 79 :: Char.ofNat 102 :: Char.ofNat 32 :: Char.ofNat 108 :: Char.ofNat 111 :: Char.ofNat 111 :: Char.ofNat 112 :: Char.ofNat 46 :: Char.ofNat 101 :: Char.ofNat 120 :: Char.ofNat 97 :: Char.ofNat 109 :: Char.ofNat 112 :: Char.ofNat 108 :: Char.ofNat 101 :: Char.ofNat 47 :: Char.ofNat 103 :: Char.ofNat 48 :: Char.ofNat 48 :: Char.ofNat 55 :: Char.ofNat 53 :: Char.ofNat 56 :: Char.ofNat 47 :: Char.ofNat 108 :: Char.ofNat 97 :: Char.ofNat 119 :: Char.ofNat 115 :: Char.ofNat 46 :: Char.ofNat 70 :: Char.ofNat 110 :: Char.ofNat 69 :: Char.ofNat 120 :: Char.ofNat 97 :: Char.ofNat 99 :: Char.ofNat 116 :: Char.ofNat 85 :: Char.ofNat 110 :: Char.ofNat 105 :: Char.ofNat 111 :: Char.ofNat 110 :: Char.ofNat 79 :: Char.ofNat 102 :: Char.ofNat 32 :: Char.ofNat 108 :: Char.ofNat 111 :: Char.ofNat 111 :: Char.ofNat 112 :: Char.ofNat 46 :: Char.ofNat 101 :: Char.ofNat 120 :: Char.ofNat 97 :: Char.ofNat 109 :: Char.ofNat 112 :: Char.ofNat 108 :: Char.ofNat 101 :: Char.ofNat 47 :: Char.ofNat 103 :: Char.ofNat 48 :: Char.ofNat 48 :: Char.ofNat 55 :: Char.ofNat 53 :: Char.ofNat 56 :: Char.ofNat 47 :: Char.ofNat 108 :: Char.ofNat 97 :: Char.ofNat 119 :: Char.ofNat 115 :: Char.ofNat 46 :: Char.ofNat 70 :: Char.ofNat 110 :: Char.ofNat 69 :: Char.ofNat 120 :: Char.ofNat 97 :: Char.ofNat 99 :: Char.ofNat 116 :: Char.ofNat 80 :: Char.ofNat 117 :: Char.ofNat 109 :: Char.ofNat 112 :: Char.ofNat 79 :: Char.ofNat 102 :: Char.ofNat 32 :: Char.ofNat 108 :: Char.ofNat 111 :: Char.ofNat 111 :: Char.ofNat 112 :: Char.ofNat 46 :: Char.ofNat 101 :: Char.ofNat 120 :: Char.ofNat 97 :: Char.ofNat 109 :: Char.ofNat 112 :: Char.ofNat 108 :: Char.ofNat 101 :: Char.ofNat 47 :: Char.ofNat 103 :: Char.ofNat 48 :: Char.ofNat 48 :: Char.ofNat 55 :: Char.ofNat 53 :: Char.ofNat 56 :: Char.ofNat 47 :: Char.ofNat 108 :: Char.ofNat 97 :: Char.ofNat 119 :: Char.ofNat 115 :: Char.ofNat 46 :: Char.ofNat 70 :: Char.ofNat 110 :: Char.ofNat 69 :: Char.ofNat 120 :: Char.ofNat 97 :: Char.ofNat 99 :: Char.ofNat 116 :: Char.ofNat 80 :: Char.ofNat 97 :: Char.ofNat 116 :: Char.ofNat 104 :: Char.ofNat 73 :: Char.ofNat 110 :: Char.ofNat 32 :: Char.ofNat 108 :: Char.ofNat 111 :: Char.ofNat 111 :: Char.ofNat 112 :: Char.ofNat 46 :: Char.ofNat 101 :: Char.ofNat 120 :: Char.ofNat 97 :: Char.ofNat 109 :: Char.ofNat 112 :: Char.ofNat 108 :: Char.ofNat 101 :: Char.ofNat 47 :: Char.ofNat 103 :: Char.ofNat 48 :: Char.ofNat 48 :: Char.ofNat 55 :: Char.ofNat 53 :: Char.ofNat 56 :: Char.ofNat 47 :: Char.ofNat 108 :: Char.ofNat 97 :: Char.ofNat 119 :: Char.ofNat 115 :: Char.ofNat 46 :: Char.ofNat 70 :: Char.ofNat 110 :: Char.ofNat 69 :: Char.ofNat 120 :: Char.ofNat 97 :: Char.ofNat 99 :: Char.ofNat 116 :: Char.ofNat 76 :: Char.ofNat 101 :: Char.ofNat 97 :: Char.ofNat 115 :: Char.ofNat 116 :: Char.ofNat 77 :: Char.ofNat 101 :: Char.ofNat 110 :: Char.ofNat 100 :: Char.ofNat 32 :: Char.ofNat 108 :: Char.ofNat 111 :: Char.ofNat 111 :: Char.ofNat 112 :: Char.ofNat 46 :: Char.ofNat 101 :: Char.ofNat 120 :: Char.ofNat 97 :: Char.ofNat 109 :: Char.ofNat 112 :: Char.ofNat 108 :: Char.ofNat 101 :: Char.ofNat 47 :: Char.ofNat 103 :: Char.ofNat 48 :: Char.ofNat 48 :: Char.ofNat 55 :: Char.ofNat 53 :: Char.ofNat 56 :: Char.ofNat 47 :: Char.ofNat 108 :: Char.ofNat 97 :: Char.ofNat 119 :: Char.ofNat 115 :: Char.ofNat 46 :: Char.ofNat 70 :: Char.ofNat 110 :: Char.ofNat 69 :: Char.ofNat 120 :: Char.ofNat 97 :: Char.ofNat 99 :: Char.ofNat 116 :: Char.ofNat 73 :: Char.ofNat 115 :: Char.ofNat 80 :: Char.ofNat 117 :: Char.ofNat 109 :: Char.ofNat 112 :: Char.ofNat 32 :: Char.ofNat 108 :: Char.ofNat 111 :: Char.ofNat 111 :: Char.ofNat 112 :: Char.ofNat 46 :: Char.ofNat 101 :: Char.ofNat 120 :: Char.ofNat 97 :: Char.ofNat 109 :: Char.ofNat 112 :: Char.ofNat 108 :: Char.ofNat 101 :: Char.ofNat 47 :: Char.ofNat 103 :: Char.ofNat 48 :: Char.ofNat 48 :: Char.ofNat 55 :: Char.ofNat 53 :: Char.ofNat 56 :: Char.ofNat 47 :: Char.ofNat 108 :: Char.ofNat 97 :: Char.ofNat 119 :: Char.ofNat 115 :: Char.ofNat 46 :: Char.ofNat 70 :: Char.ofNat 110 :: Char.ofNat 69 :: Char.ofNat 120 :: Char.ofNat 97 :: Char.ofNat 99 :: Char.ofNat 116 :: Char.ofNat 67 :: Char.ofNat 111 :: Char.ofNat 117 :: Char.ofNat 110 :: Char.ofNat 116 :: Char.ofNat 66 :: Char.ofNat 121 :: Char.ofNat 76 :: Char.ofNat 111 :: Char.ofNat 110 :: Char.ofNat 103 :: Char.ofNat 32 :: Char.ofNat 108 :: Char.ofNat 111 :: Char.ofNat 111 :: Char.ofNat 112 :: Char.ofNat 46 :: Char.ofNat 101 :: Char.ofNat 120 :: Char.ofNat 97 :: Char.ofNat 109 :: Char.ofNat 112 :: Char.ofNat 108 :: Char.ofNat 101 :: Char.ofNat 47 :: Char.ofNat 103 :: Char.ofNat 48 :: Char.ofNat 48 :: Char.ofNat 55 :: Char.ofNat 53 :: Char.ofNat 56 :: Char.ofNat 47 :: Char.ofNat 108 :: Char.ofNat 97 :: Char.ofNat 119 :: Char.ofNat 115 :: Char.ofNat 46 :: Char.ofNat 70 :: Char.ofNat 110 :: Char.ofNat 69 :: Char.ofNat 120 :: Char.ofNat 97 :: Char.ofNat 99 :: Char.ofNat 116 :: Char.ofNat 83 :: Char.ofNat 97 :: Char.ofNat 109 :: Char.ofNat 101 :: Char.ofNat 85 :: Char.ofNat 112 :: Char.ofNat 84 :: Char.ofNat 111 :: Char.ofNat 32 :: Char.ofNat 108 :: Char.ofNat 111 :: Char.ofNat 111 :: Char.ofNat 112 :: Char.ofNat 46 :: Char.ofNat 101 :: Char.ofNat 120 :: Char.ofNat 97 :: Char.ofNat 109 :: Char.ofNat 112 :: Char.ofNat 108 :: Char.ofNat 101 :: Char.ofNat 47 :: Char.ofNat 103 :: Char.ofNat 48 :: Char.ofNat 48 :: Char.ofNat 55 :: Char.ofNat 53 :: Char.ofNat 56 :: Char.ofNat 47 :: Char.ofNat 108 :: Char.ofNat 97 :: Char.ofNat 119 :: Char.ofNat 115 :: Char.ofNat 46 :: Char.ofNat 70 :: Char.ofNat 110 :: Char.ofNat 69 :: Char.ofNat 120 :: Char.ofNat 97 :: Char.ofNat 99 :: Char.ofNat 116 :: Char.ofNat 67 :: Char.ofNat 111 :: Char.ofNat 115 :: Char.ofNat 116 :: Char.ofNat 84 :: Char.ofNat 97 :: Char.ofNat 98 :: Char.ofNat 108 :: Char.ofNat 101 :: Char.ofNat 32 :: Char.ofNat 108 :: Char.ofNat 111 :: Char.ofNat 111 :: Char.ofNat 112 :: Char.ofNat 46 :: Char.ofNat 101 :: Char.ofNat 120 :: Char.ofNat 97 :: Char.ofNat 109 :: Char.ofNat 112 :: Char.ofNat 108 :: Char.ofNat 101 :: Char.ofNat 47 :: Char.ofNat 103 :: Char.ofNat 48 :: Char.ofNat 48 :: Char.ofNat 55 :: Char.ofNat 53 :: Char.ofNat 56 :: Char.ofNat 47 :: Char.ofNat 108 :: Char.ofNat 97 :: Char.ofNat 119 :: Char.ofNat 115 :: Char.ofNat 46 :: Char.ofNat 70 :: Char.ofNat 110 :: Char.ofNat 69 :: Char.ofNat 120 :: Char.ofNat 97 :: Char.ofNat 99 :: Char.ofNat 116 :: Char.ofNat 80 :: Char.ofNat 117 :: Char.ofNat 109 :: Char.ofNat 112 :: Char.ofNat 84 :: Char.ofNat 114 :: Char.ofNat 101 :: Char.ofNat 101 :: Char.ofNat 32 :: Char.ofNat 108 :: Char.ofNat 111 :: Char.ofNat 111 :: Char.ofNat 112 :: Char.ofNat 46 :: Char.ofNat 101 :: Char.ofNat 120 :: Char.ofNat 97 :: Char.ofNat 109 :: Char.ofNat 112 :: Char.ofNat 108 :: Char.ofNat 101 :: Char.ofNat 47 :: Char.ofNat 103 :: Char.ofNat 48 :: Char.ofNat 48 :: Char.ofNat 55 :: Char.ofNat 53 :: Char.ofNat 56 :: Char.ofNat 47 :: Char.ofNat 108 :: Char.ofNat 97 :: Char.ofNat 119 :: Char.ofNat 115 :: Char.ofNat 46 :: Char.ofNat 70 :: Char.ofNat 110 :: Char.ofNat 69 :: Char.ofNat 120 :: Char.ofNat 97 :: Char.ofNat 99 :: Char.ofNat 116 :: Char.ofNat 67 :: Char.ofNat 111 :: Char.ofNat 117 :: Char.ofNat 110 :: Char.ofNat 116 :: Char.ofNat 83 :: Char.ofNat 105 :: Char.ofNat 122 :: Char.ofNat 101 :: Char.ofNat 100 :: Char.ofNat 32 :: Char.ofNat 108 :: Char.ofNat 111 :: Char.ofNat 111 :: Char.ofNat 112 :: Char.ofNat 46 :: Char.ofNat 101 :: Char.ofNat 120 :: Char.ofNat 97 :: Char.ofNat 109 :: Char.ofNat 112 :: Char.ofNat 108 :: Char.ofNat 101 :: Char.ofNat 47 :: Char.ofNat 103 :: Char.ofNat 48 :: Char.ofNat 48 :: Char.ofNat 55 :: Char.ofNat 53 :: Char.ofNat 56 :: Char.ofNat 47 :: Char.ofNat 108 :: Char.ofNat 97 :: Char.ofNat 119 :: Char.ofNat 115 :: Char.ofNat 46 :: Char.ofNat 70 :: Char.ofNat 110 :: Char.ofNat 69 :: Char.ofNat 120 :: Char.ofNat 97 :: Char.ofNat 99 :: Char.ofNat 116 :: Char.ofNat 67 :: Char.ofNat 104 :: Char.ofNat 97 :: Char.ofNat 110 :: Char.ofNat 103 :: Char.ofNat 101 :: Char.ofNat 87 :: Char.ofNat 111 :: Char.ofNat 114 :: Char.ofNat 100 :: Char.ofNat 32 :: Char.ofNat 108 :: Char.ofNat 111 :: Char.ofNat 111 :: Char.ofNat 112 :: Char.ofNat 46 :: Char.ofNat 101 :: Char.ofNat 120 :: Char.ofNat 97 :: Char.ofNat 109 :: Char.ofNat 112 :: Char.ofNat 108 :: Char.ofNat 101 :: Char.ofNat 47 :: Char.ofNat 103 :: Char.ofNat 48 :: Char.ofNat 48 :: Char.ofNat 55 :: Char.ofNat 53 :: Char.ofNat 56 :: Char.ofNat 47 :: Char.ofNat 108 :: Char.ofNat 97 :: Char.ofNat 119 :: Char.ofNat 115 :: Char.ofNat 46 :: Char.ofNat 70 :: Char.ofNat 110 :: Char.ofNat 69 :: Char.ofNat 120 :: Char.ofNat 97 :: Char.ofNat 99 :: Char.ofNat 116 :: Char.ofNat 77 :: Char.ofNat 101 :: Char.ofNat 110 :: Char.ofNat 100 :: Char.ofNat 84 :: Char.ofNat 97 :: Char.ofNat 98 :: Char.ofNat 108 :: Char.ofNat 101 :: Char.ofNat 32 :: Char.ofNat 108 :: Char.ofNat 111 :: Char.ofNat 111 :: Char.ofNat 112 :: Char.ofNat 46 :: Char.ofNat 101 :: Char.ofNat 120 :: Char.ofNat 97 :: Char.ofNat 109 :: Char.ofNat 112 :: Char.ofNat 108 :: Char.ofNat 101 :: Char.ofNat 47 :: Char.ofNat 103 :: Char.ofNat 48 :: Char.ofNat 48 :: Char.ofNat 55 :: Char.ofNat 53 :: Char.ofNat 56 :: Char.ofNat 47 :: Char.ofNat 108 :: Char.ofNat 97 :: Char.ofNat 119 :: Char.ofNat 115 :: Char.ofNat 46 :: Char.ofNat 70 :: Char.ofNat 110 :: Char.ofNat 69 :: Char.ofNat 120 :: Char.ofNat 97 :: Char.ofNat 99 :: Char.ofNat 116 :: Char.ofNat 78 :: Char.ofNat 101 :: Char.ofNat 97 :: Char.ofNat 114 :: Char.ofNat 87 :: Char.ofNat 111 :: Char.ofNat 114 :: Char.ofNat 100 :: Char.ofNat 32 :: Char.ofNat 108 :: Char.ofNat 111 :: Char.ofNat 111 :: Char.ofNat 112 :: Char.ofNat 46 :: Char.ofNat 101 :: Char.ofNat 120 :: Char.ofNat 97 :: Char.ofNat 109 :: Char.ofNat 112 :: Char.ofNat 108 :: Char.ofNat 101 :: Char.ofNat 47 :: Char.ofNat 103 :: Char.ofNat 48 :: Char.ofNat 48 :: Char.ofNat 55 :: Char.ofNat 53 :: Char.ofNat 56 :: Char.ofNat 47 :: Char.ofNat 108 :: Char.ofNat 97 :: Char.ofNat 119 :: Char.ofNat 115 :: Char.ofNat 46 :: Char.ofNat 70 :: Char.ofNat 110 :: Char.ofNat 69 :: Char.ofNat 120 :: Char.ofNat 97 :: Char.ofNat 99 :: Char.ofNat 116 :: Char.ofNat 70 :: Char.ofNat 105 :: Char.ofNat 114 :: Char.ofNat 115 :: Char.ofNat 116 :: Char.ofNat 85 :: Char.ofNat 110 :: Char.ofNat 108 :: Char.ofNat 105 :: Char.ofNat 107 :: Char.ofNat 101 :: Char.ofNat 32 :: Char.ofNat 108 :: Char.ofNat 111 :: Char.ofNat 111 :: Char.ofNat 112 :: Char.ofNat 46 :: Char.ofNat 101 :: Char.ofNat 120 :: Char.ofNat 97 :: Char.ofNat 109 :: Char.ofNat 112 :: Char.ofNat 108 :: Char.ofNat 101 :: Char.ofNat 47 :: Char.ofNat 103 :: Char.ofNat 48 :: Char.ofNat 48 :: Char.ofNat 55 :: Char.ofNat 53 :: Char.ofNat 56 :: Char.ofNat 47 :: Char.ofNat 108 :: Char.ofNat 97 :: Char.ofNat 119 :: Char.ofNat 115 :: Char.ofNat 46 :: Char.ofNat 70 :: Char.ofNat 110 :: Char.ofNat 69 :: Char.ofNat 120 :: Char.ofNat 97 :: Char.ofNat 99 :: Char.ofNat 116 :: Char.ofNat 66 :: Char.ofNat 101 :: Char.ofNat 115 :: Char.ofNat 116 :: Char.ofNat 84 :: Char.ofNat 114 :: Char.ofNat 101 :: Char.ofNat 101 :: Char.ofNat 32 :: Char.ofNat 108 :: Char.ofNat 111 :: Char.ofNat 111 :: Char.ofNat 112 :: Char.ofNat 46 :: Char.ofNat 101 :: Char.ofNat 120 :: Char.ofNat 97 :: Char.ofNat 109 :: Char.ofNat 112 :: Char.ofNat 108 :: Char.ofNat 101 :: Char.ofNat 47 :: Char.ofNat 103 :: Char.ofNat 48 :: Char.ofNat 48 :: Char.ofNat 55 :: Char.ofNat 53 :: Char.ofNat 56 :: Char.ofNat 47 :: Char.ofNat 108 :: Char.ofNat 97 :: Char.ofNat 119 :: Char.ofNat 115 :: Char.ofNat 46 :: Char.ofNat 70 :: Char.ofNat 110 :: Char.ofNat 69 :: Char.ofNat 120 :: Char.ofNat 97 :: Char.ofNat 99 :: Char.ofNat 116 :: Char.ofNat 84 :: Char.ofNat 114 :: Char.ofNat 101 :: Char.ofNat 101 :: Char.ofNat 115 :: Char.ofNat 85 :: Char.ofNat 112 :: Char.ofNat 84 :: Char.ofNat 111 :: []
theorem io0 : Try.prog.initOrder = "harness 22a07d443c4c5962121c4b3a543a621850c4656f5b47dfaf5f2739a4f4320ba4 cut at loop.example/g00758/laws.FnExactPumpWord loop.example/g00758/laws.FnExactLongEnough loop.example/g00758/laws.FnExactStarOf loop.example/g00758/laws.FnExactJoinOf loop.example/g00758/laws.FnExactUnionOf loop.example/g00758/laws.FnExactPumpOf loop.example/g00758/laws.FnExactPathIn loop.example/g00758/laws.FnExactLeastMend loop.example/g00758/laws.FnExactIsPump loop.example/g00758/laws.FnExactCountByLong loop.example/g00758/laws.FnExactSameUpTo loop.example/g00758/laws.FnExactCostTable loop.example/g00758/laws.FnExactPumpTree loop.example/g00758/laws.FnExactCountSized loop.example/g00758/laws.FnExactChangeWord loop.example/g00758/laws.FnExactMendTable loop.example/g00758/laws.FnExactNearWord loop.example/g00758/laws.FnExactFirstUnlike loop.example/g00758/laws.FnExactBestTree loop.example/g00758/laws.FnExactTreesUpTo" := by kernel_rfl
theorem io1 : "harness 22a07d443c4c5962121c4b3a543a621850c4656f5b47dfaf5f2739a4f4320ba4 cut at loop.example/g00758/laws.FnExactPumpWord loop.example/g00758/laws.FnExactLongEnough loop.example/g00758/laws.FnExactStarOf loop.example/g00758/laws.FnExactJoinOf loop.example/g00758/laws.FnExactUnionOf loop.example/g00758/laws.FnExactPumpOf loop.example/g00758/laws.FnExactPathIn loop.example/g00758/laws.FnExactLeastMend loop.example/g00758/laws.FnExactIsPump loop.example/g00758/laws.FnExactCountByLong loop.example/g00758/laws.FnExactSameUpTo loop.example/g00758/laws.FnExactCostTable loop.example/g00758/laws.FnExactPumpTree loop.example/g00758/laws.FnExactCountSized loop.example/g00758/laws.FnExactChangeWord loop.example/g00758/laws.FnExactMendTable loop.example/g00758/laws.FnExactNearWord loop.example/g00758/laws.FnExactFirstUnlike loop.example/g00758/laws.FnExactBestTree loop.example/g00758/laws.FnExactTreesUpTo" = String.ofList (Char.ofNat 104 :: Char.ofNat 97 :: Char.ofNat 114 :: Char.ofNat 110 :: Char.ofNat 101 :: Char.ofNat 115 :: Char.ofNat 115 :: Char.ofNat 32 :: Char.ofNat 50 :: Char.ofNat 50 :: Char.ofNat 97 :: Char.ofNat 48 :: Char.ofNat 55 :: Char.ofNat 100 :: Char.ofNat 52 :: Char.ofNat 52 :: Char.ofNat 51 :: Char.ofNat 99 :: Char.ofNat 52 :: Char.ofNat 99 :: Char.ofNat 53 :: Char.ofNat 57 :: Char.ofNat 54 :: Char.ofNat 50 :: Char.ofNat 49 :: Char.ofNat 50 :: Char.ofNat 49 :: Char.ofNat 99 :: Char.ofNat 52 :: Char.ofNat 98 :: Char.ofNat 51 :: Char.ofNat 97 :: Char.ofNat 53 :: Char.ofNat 52 :: Char.ofNat 51 :: Char.ofNat 97 :: Char.ofNat 54 :: Char.ofNat 50 :: Char.ofNat 49 :: Char.ofNat 56 :: Char.ofNat 53 :: Char.ofNat 48 :: Char.ofNat 99 :: Char.ofNat 52 :: Char.ofNat 54 :: Char.ofNat 53 :: Char.ofNat 54 :: Char.ofNat 102 :: Char.ofNat 53 :: Char.ofNat 98 :: Char.ofNat 52 :: Char.ofNat 55 :: Char.ofNat 100 :: Char.ofNat 102 :: Char.ofNat 97 :: Char.ofNat 102 :: Char.ofNat 53 :: Char.ofNat 102 :: Char.ofNat 50 :: Char.ofNat 55 :: Char.ofNat 51 :: Char.ofNat 57 :: Char.ofNat 97 :: Char.ofNat 52 :: Char.ofNat 102 :: Char.ofNat 52 :: Char.ofNat 51 :: Char.ofNat 50 :: Char.ofNat 48 :: Char.ofNat 98 :: Char.ofNat 97 :: Char.ofNat 52 :: Char.ofNat 32 :: Char.ofNat 99 :: Char.ofNat 117 :: Char.ofNat 116 :: Char.ofNat 32 :: Char.ofNat 97 :: Char.ofNat 116 :: Char.ofNat 32 :: Char.ofNat 108 :: Char.ofNat 111 :: Char.ofNat 111 :: Char.ofNat 112 :: Char.ofNat 46 :: Char.ofNat 101 :: Char.ofNat 120 :: Char.ofNat 97 :: Char.ofNat 109 :: Char.ofNat 112 :: Char.ofNat 108 :: Char.ofNat 101 :: Char.ofNat 47 :: Char.ofNat 103 :: Char.ofNat 48 :: Char.ofNat 48 :: Char.ofNat 55 :: Char.ofNat 53 :: Char.ofNat 56 :: Char.ofNat 47 :: Char.ofNat 108 :: Char.ofNat 97 :: Char.ofNat 119 :: Char.ofNat 115 :: Char.ofNat 46 :: Char.ofNat 70 :: Char.ofNat 110 :: Char.ofNat 69 :: Char.ofNat 120 :: Char.ofNat 97 :: Char.ofNat 99 :: Char.ofNat 116 :: Char.ofNat 80 :: Char.ofNat 117 :: Char.ofNat 109 :: Char.ofNat 112 :: Char.ofNat 87 :: Char.ofNat 111 :: Char.ofNat 114 :: Char.ofNat 100 :: Char.ofNat 32 :: Char.ofNat 108 :: Char.ofNat 111 :: Char.ofNat 111 :: Char.ofNat 112 :: Char.ofNat 46 :: Char.ofNat 101 :: Char.ofNat 120 :: Char.ofNat 97 :: Char.ofNat 109 :: Char.ofNat 112 :: Char.ofNat 108 :: Char.ofNat 101 :: Char.ofNat 47 :: Char.ofNat 103 :: Char.ofNat 48 :: Char.ofNat 48 :: Char.ofNat 55 :: Char.ofNat 53 :: Char.ofNat 56 :: Char.ofNat 47 :: Char.ofNat 108 :: Char.ofNat 97 :: Char.ofNat 119 :: Char.ofNat 115 :: Char.ofNat 46 :: Char.ofNat 70 :: Char.ofNat 110 :: Char.ofNat 69 :: Char.ofNat 120 :: Char.ofNat 97 :: Char.ofNat 99 :: Char.ofNat 116 :: Char.ofNat 76 :: Char.ofNat 111 :: Char.ofNat 110 :: Char.ofNat 103 :: Char.ofNat 69 :: Char.ofNat 110 :: Char.ofNat 111 :: Char.ofNat 117 :: Char.ofNat 103 :: Char.ofNat 104 :: Char.ofNat 32 :: Char.ofNat 108 :: Char.ofNat 111 :: Char.ofNat 111 :: Char.ofNat 112 :: Char.ofNat 46 :: Char.ofNat 101 :: Char.ofNat 120 :: Char.ofNat 97 :: Char.ofNat 109 :: Char.ofNat 112 :: Char.ofNat 108 :: Char.ofNat 101 :: Char.ofNat 47 :: Char.ofNat 103 :: Char.ofNat 48 :: Char.ofNat 48 :: Char.ofNat 55 :: Char.ofNat 53 :: Char.ofNat 56 :: Char.ofNat 47 :: Char.ofNat 108 :: Char.ofNat 97 :: Char.ofNat 119 :: Char.ofNat 115 :: Char.ofNat 46 :: Char.ofNat 70 :: Char.ofNat 110 :: Char.ofNat 69 :: Char.ofNat 120 :: Char.ofNat 97 :: Char.ofNat 99 :: Char.ofNat 116 :: Char.ofNat 83 :: Char.ofNat 116 :: Char.ofNat 97 :: Char.ofNat 114 :: Char.ofNat 79 :: Char.ofNat 102 :: Char.ofNat 32 :: Char.ofNat 108 :: Char.ofNat 111 :: Char.ofNat 111 :: Char.ofNat 112 :: Char.ofNat 46 :: Char.ofNat 101 :: Char.ofNat 120 :: Char.ofNat 97 :: Char.ofNat 109 :: Char.ofNat 112 :: Char.ofNat 108 :: Char.ofNat 101 :: Char.ofNat 47 :: Char.ofNat 103 :: Char.ofNat 48 :: Char.ofNat 48 :: Char.ofNat 55 :: Char.ofNat 53 :: Char.ofNat 56 :: Char.ofNat 47 :: Char.ofNat 108 :: Char.ofNat 97 :: Char.ofNat 119 :: Char.ofNat 115 :: Char.ofNat 46 :: Char.ofNat 70 :: Char.ofNat 110 :: Char.ofNat 69 :: Char.ofNat 120 :: Char.ofNat 97 :: Char.ofNat 99 :: Char.ofNat 116 :: Char.ofNat 74 :: Char.ofNat 111 :: Char.ofNat 105 :: Char.ofNat 110 :: Char.ofNat 79 :: Char.ofNat 102 :: Char.ofNat 32 :: Char.ofNat 108 :: Char.ofNat 111 :: Char.ofNat 111 :: Char.ofNat 112 :: Char.ofNat 46 :: Char.ofNat 101 :: Char.ofNat 120 :: Char.ofNat 97 :: Char.ofNat 109 :: Char.ofNat 112 :: Char.ofNat 108 :: Char.ofNat 101 :: Char.ofNat 47 :: Char.ofNat 103 :: Char.ofNat 48 :: Char.ofNat 48 :: Char.ofNat 55 :: Char.ofNat 53 :: Char.ofNat 56 :: Char.ofNat 47 :: Char.ofNat 108 :: Char.ofNat 97 :: Char.ofNat 119 :: Char.ofNat 115 :: Char.ofNat 46 :: Char.ofNat 70 :: Char.ofNat 110 :: Char.ofNat 69 :: Char.ofNat 120 :: Char.ofNat 97 :: Char.ofNat 99 :: Char.ofNat 116 :: Char.ofNat 85 :: Char.ofNat 110 :: Char.ofNat 105 :: Char.ofNat 111 :: Char.ofNat 110 :: Char.ofNat 79 :: Char.ofNat 102 :: Char.ofNat 32 :: Char.ofNat 108 :: Char.ofNat 111 :: Char.ofNat 111 :: Char.ofNat 112 :: Char.ofNat 46 :: Char.ofNat 101 :: Char.ofNat 120 :: Char.ofNat 97 :: Char.ofNat 109 :: Char.ofNat 112 :: Char.ofNat 108 :: Char.ofNat 101 :: Char.ofNat 47 :: Char.ofNat 103 :: Char.ofNat 48 :: Char.ofNat 48 :: Char.ofNat 55 :: Char.ofNat 53 :: Char.ofNat 56 :: Char.ofNat 47 :: Char.ofNat 108 :: Char.ofNat 97 :: Char.ofNat 119 :: Char.ofNat 115 :: Char.ofNat 46 :: Char.ofNat 70 :: Char.ofNat 110 :: Char.ofNat 69 :: Char.ofNat 120 :: Char.ofNat 97 :: Char.ofNat 99 :: Char.ofNat 116 :: Char.ofNat 80 :: Char.ofNat 117 :: Char.ofNat 109 :: Char.ofNat 112 :: Char.ofNat 79 :: Char.ofNat 102 :: Char.ofNat 32 :: Char.ofNat 108 :: Char.ofNat 111 :: Char.ofNat 111 :: Char.ofNat 112 :: Char.ofNat 46 :: Char.ofNat 101 :: Char.ofNat 120 :: Char.ofNat 97 :: Char.ofNat 109 :: Char.ofNat 112 :: Char.ofNat 108 :: Char.ofNat 101 :: Char.ofNat 47 :: Char.ofNat 103 :: Char.ofNat 48 :: Char.ofNat 48 :: Char.ofNat 55 :: Char.ofNat 53 :: Char.ofNat 56 :: Char.ofNat 47 :: Char.ofNat 108 :: Char.ofNat 97 :: Char.ofNat 119 :: Char.ofNat 115 :: Char.ofNat 46 :: Char.ofNat 70 :: Char.ofNat 110 :: Char.ofNat 69 :: Char.ofNat 120 :: Char.ofNat 97 :: Char.ofNat 99 :: Char.ofNat 116 :: Char.ofNat 80 :: Char.ofNat 97 :: Char.ofNat 116 :: Char.ofNat 104 :: Char.ofNat 73 :: Char.ofNat 110 :: Char.ofNat 32 :: Char.ofNat 108 :: Char.ofNat 111 :: Char.ofNat 111 :: Char.ofNat 112 :: Char.ofNat 46 :: Char.ofNat 101 :: Char.ofNat 120 :: Char.ofNat 97 :: Char.ofNat 109 :: Char.ofNat 112 :: Char.ofNat 108 :: Char.ofNat 101 :: Char.ofNat 47 :: Char.ofNat 103 :: Char.ofNat 48 :: Char.ofNat 48 :: Char.ofNat 55 :: Char.ofNat 53 :: Char.ofNat 56 :: Char.ofNat 47 :: Char.ofNat 108 :: Char.ofNat 97 :: Char.ofNat 119 :: Char.ofNat 115 :: Char.ofNat 46 :: Char.ofNat 70 :: Char.ofNat 110 :: Char.ofNat 69 :: Char.ofNat 120 :: Char.ofNat 97 :: Char.ofNat 99 :: Char.ofNat 116 :: Char.ofNat 76 :: Char.ofNat 101 :: Char.ofNat 97 :: Char.ofNat 115 :: Char.ofNat 116 :: Char.ofNat 77 :: Char.ofNat 101 :: Char.ofNat 110 :: Char.ofNat 100 :: Char.ofNat 32 :: Char.ofNat 108 :: Char.ofNat 111 :: Char.ofNat 111 :: Char.ofNat 112 :: Char.ofNat 46 :: Char.ofNat 101 :: Char.ofNat 120 :: Char.ofNat 97 :: Char.ofNat 109 :: Char.ofNat 112 :: Char.ofNat 108 :: Char.ofNat 101 :: Char.ofNat 47 :: Char.ofNat 103 :: Char.ofNat 48 :: Char.ofNat 48 :: Char.ofNat 55 :: Char.ofNat 53 :: Char.ofNat 56 :: Char.ofNat 47 :: Char.ofNat 108 :: Char.ofNat 97 :: Char.ofNat 119 :: Char.ofNat 115 :: Char.ofNat 46 :: Char.ofNat 70 :: Char.ofNat 110 :: Char.ofNat 69 :: Char.ofNat 120 :: Char.ofNat 97 :: Char.ofNat 99 :: Char.ofNat 116 :: Char.ofNat 73 :: Char.ofNat 115 :: Char.ofNat 80 :: Char.ofNat 117 :: Char.ofNat 109 :: Char.ofNat 112 :: Char.ofNat 32 :: Char.ofNat 108 :: Char.ofNat 111 :: Char.ofNat 111 :: Char.ofNat 112 :: Char.ofNat 46 :: Char.ofNat 101 :: Char.ofNat 120 :: Char.ofNat 97 :: Char.ofNat 109 :: Char.ofNat 112 :: Char.ofNat 108 :: Char.ofNat 101 :: Char.ofNat 47 :: Char.ofNat 103 :: Char.ofNat 48 :: Char.ofNat 48 :: Char.ofNat 55 :: Char.ofNat 53 :: Char.ofNat 56 :: Char.ofNat 47 :: Char.ofNat 108 :: Char.ofNat 97 :: Char.ofNat 119 :: Char.ofNat 115 :: Char.ofNat 46 :: Char.ofNat 70 :: Char.ofNat 110 :: Char.ofNat 69 :: Char.ofNat 120 :: Char.ofNat 97 :: Char.ofNat 99 :: Char.ofNat 116 :: Char.ofNat 67 :: Char.ofNat 111 :: Char.ofNat 117 :: Char.ofNat 110 :: Char.ofNat 116 :: Char.ofNat 66 :: Char.ofNat 121 :: Char.ofNat 76 :: Char.ofNat 111 :: Char.ofNat 110 :: Char.ofNat 103 :: Char.ofNat 32 :: Char.ofNat 108 :: Char.ofNat 111 :: Char.ofNat 111 :: Char.ofNat 112 :: Char.ofNat 46 :: Char.ofNat 101 :: Char.ofNat 120 :: Char.ofNat 97 :: Char.ofNat 109 :: Char.ofNat 112 :: Char.ofNat 108 :: Char.ofNat 101 :: Char.ofNat 47 :: Char.ofNat 103 :: Char.ofNat 48 :: Char.ofNat 48 :: Char.ofNat 55 :: Char.ofNat 53 :: Char.ofNat 56 :: Char.ofNat 47 :: Char.ofNat 108 :: Char.ofNat 97 :: Char.ofNat 119 :: Char.ofNat 115 :: Char.ofNat 46 :: Char.ofNat 70 :: Char.ofNat 110 :: Char.ofNat 69 :: Char.ofNat 120 :: Char.ofNat 97 :: Char.ofNat 99 :: Char.ofNat 116 :: Char.ofNat 83 :: Char.ofNat 97 :: Char.ofNat 109 :: Char.ofNat 101 :: Char.ofNat 85 :: Char.ofNat 112 :: Char.ofNat 84 :: Char.ofNat 111 :: Char.ofNat 32 :: Char.ofNat 108 :: Char.ofNat 111 :: Char.ofNat 111 :: Char.ofNat 112 :: Char.ofNat 46 :: Char.ofNat 101 :: Char.ofNat 120 :: Char.ofNat 97 :: Char.ofNat 109 :: Char.ofNat 112 :: Char.ofNat 108 :: Char.ofNat 101 :: Char.ofNat 47 :: Char.ofNat 103 :: Char.ofNat 48 :: Char.ofNat 48 :: Char.ofNat 55 :: Char.ofNat 53 :: Char.ofNat 56 :: Char.ofNat 47 :: Char.ofNat 108 :: Char.ofNat 97 :: Char.ofNat 119 :: Char.ofNat 115 :: Char.ofNat 46 :: Char.ofNat 70 :: Char.ofNat 110 :: Char.ofNat 69 :: Char.ofNat 120 :: Char.ofNat 97 :: Char.ofNat 99 :: Char.ofNat 116 :: Char.ofNat 67 :: Char.ofNat 111 :: Char.ofNat 115 :: Char.ofNat 116 :: Char.ofNat 84 :: Char.ofNat 97 :: Char.ofNat 98 :: Char.ofNat 108 :: Char.ofNat 101 :: Char.ofNat 32 :: Char.ofNat 108 :: Char.ofNat 111 :: Char.ofNat 111 :: Char.ofNat 112 :: Char.ofNat 46 :: Char.ofNat 101 :: Char.ofNat 120 :: Char.ofNat 97 :: Char.ofNat 109 :: Char.ofNat 112 :: Char.ofNat 108 :: Char.ofNat 101 :: Char.ofNat 47 :: Char.ofNat 103 :: Char.ofNat 48 :: Char.ofNat 48 :: Char.ofNat 55 :: Char.ofNat 53 :: Char.ofNat 56 :: Char.ofNat 47 :: Char.ofNat 108 :: Char.ofNat 97 :: Char.ofNat 119 :: Char.ofNat 115 :: Char.ofNat 46 :: Char.ofNat 70 :: Char.ofNat 110 :: Char.ofNat 69 :: Char.ofNat 120 :: Char.ofNat 97 :: Char.ofNat 99 :: Char.ofNat 116 :: Char.ofNat 80 :: Char.ofNat 117 :: Char.ofNat 109 :: Char.ofNat 112 :: Char.ofNat 84 :: Char.ofNat 114 :: Char.ofNat 101 :: Char.ofNat 101 :: Char.ofNat 32 :: Char.ofNat 108 :: Char.ofNat 111 :: Char.ofNat 111 :: Char.ofNat 112 :: Char.ofNat 46 :: Char.ofNat 101 :: Char.ofNat 120 :: Char.ofNat 97 :: Char.ofNat 109 :: Char.ofNat 112 :: Char.ofNat 108 :: Char.ofNat 101 :: Char.ofNat 47 :: Char.ofNat 103 :: Char.ofNat 48 :: Char.ofNat 48 :: Char.ofNat 55 :: Char.ofNat 53 :: Char.ofNat 56 :: Char.ofNat 47 :: Char.ofNat 108 :: Char.ofNat 97 :: Char.ofNat 119 :: Char.ofNat 115 :: Char.ofNat 46 :: Char.ofNat 70 :: Char.ofNat 110 :: Char.ofNat 69 :: Char.ofNat 120 :: Char.ofNat 97 :: Char.ofNat 99 :: Char.ofNat 116 :: Char.ofNat 67 :: Char.ofNat 111 :: Char.ofNat 117 :: Char.ofNat 110 :: Char.ofNat 116 :: Char.ofNat 83 :: Char.ofNat 105 :: Char.ofNat 122 :: Char.ofNat 101 :: Char.ofNat 100 :: Char.ofNat 32 :: Char.ofNat 108 :: Char.ofNat 111 :: Char.ofNat 111 :: Char.ofNat 112 :: Char.ofNat 46 :: Char.ofNat 101 :: Char.ofNat 120 :: Char.ofNat 97 :: Char.ofNat 109 :: Char.ofNat 112 :: Char.ofNat 108 :: Char.ofNat 101 :: Char.ofNat 47 :: Char.ofNat 103 :: Char.ofNat 48 :: Char.ofNat 48 :: Char.ofNat 55 :: Char.ofNat 53 :: Char.ofNat 56 :: Char.ofNat 47 :: Char.ofNat 108 :: Char.ofNat 97 :: Char.ofNat 119 :: Char.ofNat 115 :: Char.ofNat 46 :: Char.ofNat 70 :: Char.ofNat 110 :: Char.ofNat 69 :: Char.ofNat 120 :: Char.ofNat 97 :: Char.ofNat 99 :: Char.ofNat 116 :: Char.ofNat 67 :: Char.ofNat 104 :: Char.ofNat 97 :: Char.ofNat 110 :: Char.ofNat 103 :: Char.ofNat 101 :: Char.ofNat 87 :: Char.ofNat 111 :: Char.ofNat 114 :: Char.ofNat 100 :: Char.ofNat 32 :: Char.ofNat 108 :: Char.ofNat 111 :: Char.ofNat 111 :: Char.ofNat 112 :: Char.ofNat 46 :: Char.ofNat 101 :: Char.ofNat 120 :: Char.ofNat 97 :: Char.ofNat 109 :: Char.ofNat 112 :: Char.ofNat 108 :: Char.ofNat 101 :: Char.ofNat 47 :: Char.ofNat 103 :: Char.ofNat 48 :: Char.ofNat 48 :: Char.ofNat 55 :: Char.ofNat 53 :: Char.ofNat 56 :: Char.ofNat 47 :: Char.ofNat 108 :: Char.ofNat 97 :: Char.ofNat 119 :: Char.ofNat 115 :: Char.ofNat 46 :: Char.ofNat 70 :: Char.ofNat 110 :: Char.ofNat 69 :: Char.ofNat 120 :: Char.ofNat 97 :: Char.ofNat 99 :: Char.ofNat 116 :: Char.ofNat 77 :: Char.ofNat 101 :: Char.ofNat 110 :: Char.ofNat 100 :: Char.ofNat 84 :: Char.ofNat 97 :: Char.ofNat 98 :: Char.ofNat 108 :: Char.ofNat 101 :: Char.ofNat 32 :: Char.ofNat 108 :: Char.ofNat 111 :: Char.ofNat 111 :: Char.ofNat 112 :: Char.ofNat 46 :: Char.ofNat 101 :: Char.ofNat 120 :: Char.ofNat 97 :: Char.ofNat 109 :: Char.ofNat 112 :: Char.ofNat 108 :: Char.ofNat 101 :: Char.ofNat 47 :: Char.ofNat 103 :: Char.ofNat 48 :: Char.ofNat 48 :: Char.ofNat 55 :: Char.ofNat 53 :: Char.ofNat 56 :: Char.ofNat 47 :: Char.ofNat 108 :: Char.ofNat 97 :: Char.ofNat 119 :: Char.ofNat 115 :: Char.ofNat 46 :: Char.ofNat 70 :: Char.ofNat 110 :: Char.ofNat 69 :: Char.ofNat 120 :: Char.ofNat 97 :: Char.ofNat 99 :: Char.ofNat 116 :: Char.ofNat 78 :: Char.ofNat 101 :: Char.ofNat 97 :: Char.ofNat 114 :: Char.ofNat 87 :: Char.ofNat 111 :: Char.ofNat 114 :: Char.ofNat 100 :: Char.ofNat 32 :: Char.ofNat 108 :: Char.ofNat 111 :: Char.ofNat 111 :: Char.ofNat 112 :: Char.ofNat 46 :: Char.ofNat 101 :: Char.ofNat 120 :: Char.ofNat 97 :: Char.ofNat 109 :: Char.ofNat 112 :: Char.ofNat 108 :: Char.ofNat 101 :: Char.ofNat 47 :: Char.ofNat 103 :: Char.ofNat 48 :: Char.ofNat 48 :: Char.ofNat 55 :: Char.ofNat 53 :: Char.ofNat 56 :: Char.ofNat 47 :: Char.ofNat 108 :: Char.ofNat 97 :: Char.ofNat 119 :: Char.ofNat 115 :: Char.ofNat 46 :: Char.ofNat 70 :: Char.ofNat 110 :: Char.ofNat 69 :: Char.ofNat 120 :: Char.ofNat 97 :: Char.ofNat 99 :: Char.ofNat 116 :: Char.ofNat 70 :: Char.ofNat 105 :: Char.ofNat 114 :: Char.ofNat 115 :: Char.ofNat 116 :: Char.ofNat 85 :: Char.ofNat 110 :: Char.ofNat 108 :: Char.ofNat 105 :: Char.ofNat 107 :: Char.ofNat 101 :: Char.ofNat 32 :: Char.ofNat 108 :: Char.ofNat 111 :: Char.ofNat 111 :: Char.ofNat 112 :: Char.ofNat 46 :: Char.ofNat 101 :: Char.ofNat 120 :: Char.ofNat 97 :: Char.ofNat 109 :: Char.ofNat 112 :: Char.ofNat 108 :: Char.ofNat 101 :: Char.ofNat 47 :: Char.ofNat 103 :: Char.ofNat 48 :: Char.ofNat 48 :: Char.ofNat 55 :: Char.ofNat 53 :: Char.ofNat 56 :: Char.ofNat 47 :: Char.ofNat 108 :: Char.ofNat 97 :: Char.ofNat 119 :: Char.ofNat 115 :: Char.ofNat 46 :: Char.ofNat 70 :: Char.ofNat 110 :: Char.ofNat 69 :: Char.ofNat 120 :: Char.ofNat 97 :: Char.ofNat 99 :: Char.ofNat 116 :: Char.ofNat 66 :: Char.ofNat 101 :: Char.ofNat 115 :: Char.ofNat 116 :: Char.ofNat 84 :: Char.ofNat 114 :: Char.ofNat 101 :: Char.ofNat 101 :: Char.ofNat 32 :: Char.ofNat 108 :: Char.ofNat 111 :: Char.ofNat 111 :: Char.ofNat 112 :: Char.ofNat 46 :: Char.ofNat 101 :: Char.ofNat 120 :: Char.ofNat 97 :: Char.ofNat 109 :: Char.ofNat 112 :: Char.ofNat 108 :: Char.ofNat 101 :: Char.ofNat 47 :: Char.ofNat 103 :: Char.ofNat 48 :: Char.ofNat 48 :: Char.ofNat 55 :: Char.ofNat 53 :: Char.ofNat 56 :: Char.ofNat 47 :: Char.ofNat 108 :: Char.ofNat 97 :: Char.ofNat 119 :: Char.ofNat 115 :: Char.ofNat 46 :: Char.ofNat 70 :: Char.ofNat 110 :: Char.ofNat 69 :: Char.ofNat 120 :: Char.ofNat 97 :: Char.ofNat 99 :: Char.ofNat 116 :: Char.ofNat 84 :: Char.ofNat 114 :: Char.ofNat 101 :: Char.ofNat 101 :: Char.ofNat 115 :: Char.ofNat 85 :: Char.ofNat 112 :: Char.ofNat 84 :: Char.ofNat 111 :: []) := by kernel_rfl
theorem io : Try.prog.initOrder = String.ofList (Char.ofNat 104 :: Char.ofNat 97 :: Char.ofNat 114 :: Char.ofNat 110 :: Char.ofNat 101 :: Char.ofNat 115 :: Char.ofNat 115 :: Char.ofNat 32 :: Char.ofNat 50 :: Char.ofNat 50 :: Char.ofNat 97 :: Char.ofNat 48 :: Char.ofNat 55 :: Char.ofNat 100 :: Char.ofNat 52 :: Char.ofNat 52 :: Char.ofNat 51 :: Char.ofNat 99 :: Char.ofNat 52 :: Char.ofNat 99 :: Char.ofNat 53 :: Char.ofNat 57 :: Char.ofNat 54 :: Char.ofNat 50 :: Char.ofNat 49 :: Char.ofNat 50 :: Char.ofNat 49 :: Char.ofNat 99 :: Char.ofNat 52 :: Char.ofNat 98 :: Char.ofNat 51 :: Char.ofNat 97 :: Char.ofNat 53 :: Char.ofNat 52 :: Char.ofNat 51 :: Char.ofNat 97 :: Char.ofNat 54 :: Char.ofNat 50 :: Char.ofNat 49 :: Char.ofNat 56 :: Char.ofNat 53 :: Char.ofNat 48 :: Char.ofNat 99 :: Char.ofNat 52 :: Char.ofNat 54 :: Char.ofNat 53 :: Char.ofNat 54 :: Char.ofNat 102 :: Char.ofNat 53 :: Char.ofNat 98 :: Char.ofNat 52 :: Char.ofNat 55 :: Char.ofNat 100 :: Char.ofNat 102 :: Char.ofNat 97 :: Char.ofNat 102 :: Char.ofNat 53 :: Char.ofNat 102 :: Char.ofNat 50 :: Char.ofNat 55 :: Char.ofNat 51 :: Char.ofNat 57 :: Char.ofNat 97 :: Char.ofNat 52 :: Char.ofNat 102 :: Char.ofNat 52 :: Char.ofNat 51 :: Char.ofNat 50 :: Char.ofNat 48 :: Char.ofNat 98 :: Char.ofNat 97 :: Char.ofNat 52 :: Char.ofNat 32 :: Char.ofNat 99 :: Char.ofNat 117 :: Char.ofNat 116 :: Char.ofNat 32 :: Char.ofNat 97 :: Char.ofNat 116 :: Char.ofNat 32 :: Char.ofNat 108 :: Char.ofNat 111 :: Char.ofNat 111 :: Char.ofNat 112 :: Char.ofNat 46 :: Char.ofNat 101 :: Char.ofNat 120 :: Char.ofNat 97 :: Char.ofNat 109 :: Char.ofNat 112 :: Char.ofNat 108 :: Char.ofNat 101 :: Char.ofNat 47 :: Char.ofNat 103 :: Char.ofNat 48 :: Char.ofNat 48 :: Char.ofNat 55 :: Char.ofNat 53 :: Char.ofNat 56 :: Char.ofNat 47 :: Char.ofNat 108 :: Char.ofNat 97 :: Char.ofNat 119 :: Char.ofNat 115 :: Char.ofNat 46 :: Char.ofNat 70 :: Char.ofNat 110 :: Char.ofNat 69 :: Char.ofNat 120 :: Char.ofNat 97 :: Char.ofNat 99 :: Char.ofNat 116 :: Char.ofNat 80 :: Char.ofNat 117 :: Char.ofNat 109 :: Char.ofNat 112 :: Char.ofNat 87 :: Char.ofNat 111 :: Char.ofNat 114 :: Char.ofNat 100 :: Char.ofNat 32 :: Char.ofNat 108 :: Char.ofNat 111 :: Char.ofNat 111 :: Char.ofNat 112 :: Char.ofNat 46 :: Char.ofNat 101 :: Char.ofNat 120 :: Char.ofNat 97 :: Char.ofNat 109 :: Char.ofNat 112 :: Char.ofNat 108 :: Char.ofNat 101 :: Char.ofNat 47 :: Char.ofNat 103 :: Char.ofNat 48 :: Char.ofNat 48 :: Char.ofNat 55 :: Char.ofNat 53 :: Char.ofNat 56 :: Char.ofNat 47 :: Char.ofNat 108 :: Char.ofNat 97 :: Char.ofNat 119 :: Char.ofNat 115 :: Char.ofNat 46 :: Char.ofNat 70 :: Char.ofNat 110 :: Char.ofNat 69 :: Char.ofNat 120 :: Char.ofNat 97 :: Char.ofNat 99 :: Char.ofNat 116 :: Char.ofNat 76 :: Char.ofNat 111 :: Char.ofNat 110 :: Char.ofNat 103 :: Char.ofNat 69 :: Char.ofNat 110 :: Char.ofNat 111 :: Char.ofNat 117 :: Char.ofNat 103 :: Char.ofNat 104 :: Char.ofNat 32 :: Char.ofNat 108 :: Char.ofNat 111 :: Char.ofNat 111 :: Char.ofNat 112 :: Char.ofNat 46 :: Char.ofNat 101 :: Char.ofNat 120 :: Char.ofNat 97 :: Char.ofNat 109 :: Char.ofNat 112 :: Char.ofNat 108 :: Char.ofNat 101 :: Char.ofNat 47 :: Char.ofNat 103 :: Char.ofNat 48 :: Char.ofNat 48 :: Char.ofNat 55 :: Char.ofNat 53 :: Char.ofNat 56 :: Char.ofNat 47 :: Char.ofNat 108 :: Char.ofNat 97 :: Char.ofNat 119 :: Char.ofNat 115 :: Char.ofNat 46 :: Char.ofNat 70 :: Char.ofNat 110 :: Char.ofNat 69 :: Char.ofNat 120 :: Char.ofNat 97 :: Char.ofNat 99 :: Char.ofNat 116 :: Char.ofNat 83 :: Char.ofNat 116 :: Char.ofNat 97 :: Char.ofNat 114 :: Char.ofNat 79 :: Char.ofNat 102 :: Char.ofNat 32 :: Char.ofNat 108 :: Char.ofNat 111 :: Char.ofNat 111 :: Char.ofNat 112 :: Char.ofNat 46 :: Char.ofNat 101 :: Char.ofNat 120 :: Char.ofNat 97 :: Char.ofNat 109 :: Char.ofNat 112 :: Char.ofNat 108 :: Char.ofNat 101 :: Char.ofNat 47 :: Char.ofNat 103 :: Char.ofNat 48 :: Char.ofNat 48 :: Char.ofNat 55 :: Char.ofNat 53 :: Char.ofNat 56 :: Char.ofNat 47 :: Char.ofNat 108 :: Char.ofNat 97 :: Char.ofNat 119 :: Char.ofNat 115 :: Char.ofNat 46 :: Char.ofNat 70 :: Char.ofNat 110 :: Char.ofNat 69 :: Char.ofNat 120 :: Char.ofNat 97 :: Char.ofNat 99 :: Char.ofNat 116 :: Char.ofNat 74 :: Char.ofNat 111 :: Char.ofNat 105 :: Char.ofNat 110 :: Char.ofNat 79 :: Char.ofNat 102 :: Char.ofNat 32 :: Char.ofNat 108 :: Char.ofNat 111 :: Char.ofNat 111 :: Char.ofNat 112 :: Char.ofNat 46 :: Char.ofNat 101 :: Char.ofNat 120 :: Char.ofNat 97 :: Char.ofNat 109 :: Char.ofNat 112 :: Char.ofNat 108 :: Char.ofNat 101 :: Char.ofNat 47 :: Char.ofNat 103 :: Char.ofNat 48 :: Char.ofNat 48 :: Char.ofNat 55 :: Char.ofNat 53 :: Char.ofNat 56 :: Char.ofNat 47 :: Char.ofNat 108 :: Char.ofNat 97 :: Char.ofNat 119 :: Char.ofNat 115 :: Char.ofNat 46 :: Char.ofNat 70 :: Char.ofNat 110 :: Char.ofNat 69 :: Char.ofNat 120 :: Char.ofNat 97 :: Char.ofNat 99 :: Char.ofNat 116 :: Char.ofNat 85 :: Char.ofNat 110 :: Char.ofNat 105 :: Char.ofNat 111 :: Char.ofNat 110 :: Char.ofNat 79 :: Char.ofNat 102 :: Char.ofNat 32 :: Char.ofNat 108 :: Char.ofNat 111 :: Char.ofNat 111 :: Char.ofNat 112 :: Char.ofNat 46 :: Char.ofNat 101 :: Char.ofNat 120 :: Char.ofNat 97 :: Char.ofNat 109 :: Char.ofNat 112 :: Char.ofNat 108 :: Char.ofNat 101 :: Char.ofNat 47 :: Char.ofNat 103 :: Char.ofNat 48 :: Char.ofNat 48 :: Char.ofNat 55 :: Char.ofNat 53 :: Char.ofNat 56 :: Char.ofNat 47 :: Char.ofNat 108 :: Char.ofNat 97 :: Char.ofNat 119 :: Char.ofNat 115 :: Char.ofNat 46 :: Char.ofNat 70 :: Char.ofNat 110 :: Char.ofNat 69 :: Char.ofNat 120 :: Char.ofNat 97 :: Char.ofNat 99 :: Char.ofNat 116 :: Char.ofNat 80 :: Char.ofNat 117 :: Char.ofNat 109 :: Char.ofNat 112 :: Char.ofNat 79 :: Char.ofNat 102 :: Char.ofNat 32 :: Char.ofNat 108 :: Char.ofNat 111 :: Char.ofNat 111 :: Char.ofNat 112 :: Char.ofNat 46 :: Char.ofNat 101 :: Char.ofNat 120 :: Char.ofNat 97 :: Char.ofNat 109 :: Char.ofNat 112 :: Char.ofNat 108 :: Char.ofNat 101 :: Char.ofNat 47 :: Char.ofNat 103 :: Char.ofNat 48 :: Char.ofNat 48 :: Char.ofNat 55 :: Char.ofNat 53 :: Char.ofNat 56 :: Char.ofNat 47 :: Char.ofNat 108 :: Char.ofNat 97 :: Char.ofNat 119 :: Char.ofNat 115 :: Char.ofNat 46 :: Char.ofNat 70 :: Char.ofNat 110 :: Char.ofNat 69 :: Char.ofNat 120 :: Char.ofNat 97 :: Char.ofNat 99 :: Char.ofNat 116 :: Char.ofNat 80 :: Char.ofNat 97 :: Char.ofNat 116 :: Char.ofNat 104 :: Char.ofNat 73 :: Char.ofNat 110 :: Char.ofNat 32 :: Char.ofNat 108 :: Char.ofNat 111 :: Char.ofNat 111 :: Char.ofNat 112 :: Char.ofNat 46 :: Char.ofNat 101 :: Char.ofNat 120 :: Char.ofNat 97 :: Char.ofNat 109 :: Char.ofNat 112 :: Char.ofNat 108 :: Char.ofNat 101 :: Char.ofNat 47 :: Char.ofNat 103 :: Char.ofNat 48 :: Char.ofNat 48 :: Char.ofNat 55 :: Char.ofNat 53 :: Char.ofNat 56 :: Char.ofNat 47 :: Char.ofNat 108 :: Char.ofNat 97 :: Char.ofNat 119 :: Char.ofNat 115 :: Char.ofNat 46 :: Char.ofNat 70 :: Char.ofNat 110 :: Char.ofNat 69 :: Char.ofNat 120 :: Char.ofNat 97 :: Char.ofNat 99 :: Char.ofNat 116 :: Char.ofNat 76 :: Char.ofNat 101 :: Char.ofNat 97 :: Char.ofNat 115 :: Char.ofNat 116 :: Char.ofNat 77 :: Char.ofNat 101 :: Char.ofNat 110 :: Char.ofNat 100 :: Char.ofNat 32 :: Char.ofNat 108 :: Char.ofNat 111 :: Char.ofNat 111 :: Char.ofNat 112 :: Char.ofNat 46 :: Char.ofNat 101 :: Char.ofNat 120 :: Char.ofNat 97 :: Char.ofNat 109 :: Char.ofNat 112 :: Char.ofNat 108 :: Char.ofNat 101 :: Char.ofNat 47 :: Char.ofNat 103 :: Char.ofNat 48 :: Char.ofNat 48 :: Char.ofNat 55 :: Char.ofNat 53 :: Char.ofNat 56 :: Char.ofNat 47 :: Char.ofNat 108 :: Char.ofNat 97 :: Char.ofNat 119 :: Char.ofNat 115 :: Char.ofNat 46 :: Char.ofNat 70 :: Char.ofNat 110 :: Char.ofNat 69 :: Char.ofNat 120 :: Char.ofNat 97 :: Char.ofNat 99 :: Char.ofNat 116 :: Char.ofNat 73 :: Char.ofNat 115 :: Char.ofNat 80 :: Char.ofNat 117 :: Char.ofNat 109 :: Char.ofNat 112 :: Char.ofNat 32 :: Char.ofNat 108 :: Char.ofNat 111 :: Char.ofNat 111 :: Char.ofNat 112 :: Char.ofNat 46 :: Char.ofNat 101 :: Char.ofNat 120 :: Char.ofNat 97 :: Char.ofNat 109 :: Char.ofNat 112 :: Char.ofNat 108 :: Char.ofNat 101 :: Char.ofNat 47 :: Char.ofNat 103 :: Char.ofNat 48 :: Char.ofNat 48 :: Char.ofNat 55 :: Char.ofNat 53 :: Char.ofNat 56 :: Char.ofNat 47 :: Char.ofNat 108 :: Char.ofNat 97 :: Char.ofNat 119 :: Char.ofNat 115 :: Char.ofNat 46 :: Char.ofNat 70 :: Char.ofNat 110 :: Char.ofNat 69 :: Char.ofNat 120 :: Char.ofNat 97 :: Char.ofNat 99 :: Char.ofNat 116 :: Char.ofNat 67 :: Char.ofNat 111 :: Char.ofNat 117 :: Char.ofNat 110 :: Char.ofNat 116 :: Char.ofNat 66 :: Char.ofNat 121 :: Char.ofNat 76 :: Char.ofNat 111 :: Char.ofNat 110 :: Char.ofNat 103 :: Char.ofNat 32 :: Char.ofNat 108 :: Char.ofNat 111 :: Char.ofNat 111 :: Char.ofNat 112 :: Char.ofNat 46 :: Char.ofNat 101 :: Char.ofNat 120 :: Char.ofNat 97 :: Char.ofNat 109 :: Char.ofNat 112 :: Char.ofNat 108 :: Char.ofNat 101 :: Char.ofNat 47 :: Char.ofNat 103 :: Char.ofNat 48 :: Char.ofNat 48 :: Char.ofNat 55 :: Char.ofNat 53 :: Char.ofNat 56 :: Char.ofNat 47 :: Char.ofNat 108 :: Char.ofNat 97 :: Char.ofNat 119 :: Char.ofNat 115 :: Char.ofNat 46 :: Char.ofNat 70 :: Char.ofNat 110 :: Char.ofNat 69 :: Char.ofNat 120 :: Char.ofNat 97 :: Char.ofNat 99 :: Char.ofNat 116 :: Char.ofNat 83 :: Char.ofNat 97 :: Char.ofNat 109 :: Char.ofNat 101 :: Char.ofNat 85 :: Char.ofNat 112 :: Char.ofNat 84 :: Char.ofNat 111 :: Char.ofNat 32 :: Char.ofNat 108 :: Char.ofNat 111 :: Char.ofNat 111 :: Char.ofNat 112 :: Char.ofNat 46 :: Char.ofNat 101 :: Char.ofNat 120 :: Char.ofNat 97 :: Char.ofNat 109 :: Char.ofNat 112 :: Char.ofNat 108 :: Char.ofNat 101 :: Char.ofNat 47 :: Char.ofNat 103 :: Char.ofNat 48 :: Char.ofNat 48 :: Char.ofNat 55 :: Char.ofNat 53 :: Char.ofNat 56 :: Char.ofNat 47 :: Char.ofNat 108 :: Char.ofNat 97 :: Char.ofNat 119 :: Char.ofNat 115 :: Char.ofNat 46 :: Char.ofNat 70 :: Char.ofNat 110 :: Char.ofNat 69 :: Char.ofNat 120 :: Char.ofNat 97 :: Char.ofNat 99 :: Char.ofNat 116 :: Char.ofNat 67 :: Char.ofNat 111 :: Char.ofNat 115 :: Char.ofNat 116 :: Char.ofNat 84 :: Char.ofNat 97 :: Char.ofNat 98 :: Char.ofNat 108 :: Char.ofNat 101 :: Char.ofNat 32 :: Char.ofNat 108 :: Char.ofNat 111 :: Char.ofNat 111 :: Char.ofNat 112 :: Char.ofNat 46 :: Char.ofNat 101 :: Char.ofNat 120 :: Char.ofNat 97 :: Char.ofNat 109 :: Char.ofNat 112 :: Char.ofNat 108 :: Char.ofNat 101 :: Char.ofNat 47 :: Char.ofNat 103 :: Char.ofNat 48 :: Char.ofNat 48 :: Char.ofNat 55 :: Char.ofNat 53 :: Char.ofNat 56 :: Char.ofNat 47 :: Char.ofNat 108 :: Char.ofNat 97 :: Char.ofNat 119 :: Char.ofNat 115 :: Char.ofNat 46 :: Char.ofNat 70 :: Char.ofNat 110 :: Char.ofNat 69 :: Char.ofNat 120 :: Char.ofNat 97 :: Char.ofNat 99 :: Char.ofNat 116 :: Char.ofNat 80 :: Char.ofNat 117 :: Char.ofNat 109 :: Char.ofNat 112 :: Char.ofNat 84 :: Char.ofNat 114 :: Char.ofNat 101 :: Char.ofNat 101 :: Char.ofNat 32 :: Char.ofNat 108 :: Char.ofNat 111 :: Char.ofNat 111 :: Char.ofNat 112 :: Char.ofNat 46 :: Char.ofNat 101 :: Char.ofNat 120 :: Char.ofNat 97 :: Char.ofNat 109 :: Char.ofNat 112 :: Char.ofNat 108 :: Char.ofNat 101 :: Char.ofNat 47 :: Char.ofNat 103 :: Char.ofNat 48 :: Char.ofNat 48 :: Char.ofNat 55 :: Char.ofNat 53 :: Char.ofNat 56 :: Char.ofNat 47 :: Char.ofNat 108 :: Char.ofNat 97 :: Char.ofNat 119 :: Char.ofNat 115 :: Char.ofNat 46 :: Char.ofNat 70 :: Char.ofNat 110 :: Char.ofNat 69 :: Char.ofNat 120 :: Char.ofNat 97 :: Char.ofNat 99 :: Char.ofNat 116 :: Char.ofNat 67 :: Char.ofNat 111 :: Char.ofNat 117 :: Char.ofNat 110 :: Char.ofNat 116 :: Char.ofNat 83 :: Char.ofNat 105 :: Char.ofNat 122 :: Char.ofNat 101 :: Char.ofNat 100 :: Char.ofNat 32 :: Char.ofNat 108 :: Char.ofNat 111 :: Char.ofNat 111 :: Char.ofNat 112 :: Char.ofNat 46 :: Char.ofNat 101 :: Char.ofNat 120 :: Char.ofNat 97 :: Char.ofNat 109 :: Char.ofNat 112 :: Char.ofNat 108 :: Char.ofNat 101 :: Char.ofNat 47 :: Char.ofNat 103 :: Char.ofNat 48 :: Char.ofNat 48 :: Char.ofNat 55 :: Char.ofNat 53 :: Char.ofNat 56 :: Char.ofNat 47 :: Char.ofNat 108 :: Char.ofNat 97 :: Char.ofNat 119 :: Char.ofNat 115 :: Char.ofNat 46 :: Char.ofNat 70 :: Char.ofNat 110 :: Char.ofNat 69 :: Char.ofNat 120 :: Char.ofNat 97 :: Char.ofNat 99 :: Char.ofNat 116 :: Char.ofNat 67 :: Char.ofNat 104 :: Char.ofNat 97 :: Char.ofNat 110 :: Char.ofNat 103 :: Char.ofNat 101 :: Char.ofNat 87 :: Char.ofNat 111 :: Char.ofNat 114 :: Char.ofNat 100 :: Char.ofNat 32 :: Char.ofNat 108 :: Char.ofNat 111 :: Char.ofNat 111 :: Char.ofNat 112 :: Char.ofNat 46 :: Char.ofNat 101 :: Char.ofNat 120 :: Char.ofNat 97 :: Char.ofNat 109 :: Char.ofNat 112 :: Char.ofNat 108 :: Char.ofNat 101 :: Char.ofNat 47 :: Char.ofNat 103 :: Char.ofNat 48 :: Char.ofNat 48 :: Char.ofNat 55 :: Char.ofNat 53 :: Char.ofNat 56 :: Char.ofNat 47 :: Char.ofNat 108 :: Char.ofNat 97 :: Char.ofNat 119 :: Char.ofNat 115 :: Char.ofNat 46 :: Char.ofNat 70 :: Char.ofNat 110 :: Char.ofNat 69 :: Char.ofNat 120 :: Char.ofNat 97 :: Char.ofNat 99 :: Char.ofNat 116 :: Char.ofNat 77 :: Char.ofNat 101 :: Char.ofNat 110 :: Char.ofNat 100 :: Char.ofNat 84 :: Char.ofNat 97 :: Char.ofNat 98 :: Char.ofNat 108 :: Char.ofNat 101 :: Char.ofNat 32 :: Char.ofNat 108 :: Char.ofNat 111 :: Char.ofNat 111 :: Char.ofNat 112 :: Char.ofNat 46 :: Char.ofNat 101 :: Char.ofNat 120 :: Char.ofNat 97 :: Char.ofNat 109 :: Char.ofNat 112 :: Char.ofNat 108 :: Char.ofNat 101 :: Char.ofNat 47 :: Char.ofNat 103 :: Char.ofNat 48 :: Char.ofNat 48 :: Char.ofNat 55 :: Char.ofNat 53 :: Char.ofNat 56 :: Char.ofNat 47 :: Char.ofNat 108 :: Char.ofNat 97 :: Char.ofNat 119 :: Char.ofNat 115 :: Char.ofNat 46 :: Char.ofNat 70 :: Char.ofNat 110 :: Char.ofNat 69 :: Char.ofNat 120 :: Char.ofNat 97 :: Char.ofNat 99 :: Char.ofNat 116 :: Char.ofNat 78 :: Char.ofNat 101 :: Char.ofNat 97 :: Char.ofNat 114 :: Char.ofNat 87 :: Char.ofNat 111 :: Char.ofNat 114 :: Char.ofNat 100 :: Char.ofNat 32 :: Char.ofNat 108 :: Char.ofNat 111 :: Char.ofNat 111 :: Char.ofNat 112 :: Char.ofNat 46 :: Char.ofNat 101 :: Char.ofNat 120 :: Char.ofNat 97 :: Char.ofNat 109 :: Char.ofNat 112 :: Char.ofNat 108 :: Char.ofNat 101 :: Char.ofNat 47 :: Char.ofNat 103 :: Char.ofNat 48 :: Char.ofNat 48 :: Char.ofNat 55 :: Char.ofNat 53 :: Char.ofNat 56 :: Char.ofNat 47 :: Char.ofNat 108 :: Char.ofNat 97 :: Char.ofNat 119 :: Char.ofNat 115 :: Char.ofNat 46 :: Char.ofNat 70 :: Char.ofNat 110 :: Char.ofNat 69 :: Char.ofNat 120 :: Char.ofNat 97 :: Char.ofNat 99 :: Char.ofNat 116 :: Char.ofNat 70 :: Char.ofNat 105 :: Char.ofNat 114 :: Char.ofNat 115 :: Char.ofNat 116 :: Char.ofNat 85 :: Char.ofNat 110 :: Char.ofNat 108 :: Char.ofNat 105 :: Char.ofNat 107 :: Char.ofNat 101 :: Char.ofNat 32 :: Char.ofNat 108 :: Char.ofNat 111 :: Char.ofNat 111 :: Char.ofNat 112 :: Char.ofNat 46 :: Char.ofNat 101 :: Char.ofNat 120 :: Char.ofNat 97 :: Char.ofNat 109 :: Char.ofNat 112 :: Char.ofNat 108 :: Char.ofNat 101 :: Char.ofNat 47 :: Char.ofNat 103 :: Char.ofNat 48 :: Char.ofNat 48 :: Char.ofNat 55 :: Char.ofNat 53 :: Char.ofNat 56 :: Char.ofNat 47 :: Char.ofNat 108 :: Char.ofNat 97 :: Char.ofNat 119 :: Char.ofNat 115 :: Char.ofNat 46 :: Char.ofNat 70 :: Char.ofNat 110 :: Char.ofNat 69 :: Char.ofNat 120 :: Char.ofNat 97 :: Char.ofNat 99 :: Char.ofNat 116 :: Char.ofNat 66 :: Char.ofNat 101 :: Char.ofNat 115 :: Char.ofNat 116 :: Char.ofNat 84 :: Char.ofNat 114 :: Char.ofNat 101 :: Char.ofNat 101 :: Char.ofNat 32 :: Char.ofNat 108 :: Char.ofNat 111 :: Char.ofNat 111 :: Char.ofNat 112 :: Char.ofNat 46 :: Char.ofNat 101 :: Char.ofNat 120 :: Char.ofNat 97 :: Char.ofNat 109 :: Char.ofNat 112 :: Char.ofNat 108 :: Char.ofNat 101 :: Char.ofNat 47 :: Char.ofNat 103 :: Char.ofNat 48 :: Char.ofNat 48 :: Char.ofNat 55 :: Char.ofNat 53 :: Char.ofNat 56 :: Char.ofNat 47 :: Char.ofNat 108 :: Char.ofNat 97 :: Char.ofNat 119 :: Char.ofNat 115 :: Char.ofNat 46 :: Char.ofNat 70 :: Char.ofNat 110 :: Char.ofNat 69 :: Char.ofNat 120 :: Char.ofNat 97 :: Char.ofNat 99 :: Char.ofNat 116 :: Char.ofNat 84 :: Char.ofNat 114 :: Char.ofNat 101 :: Char.ofNat 101 :: Char.ofNat 115 :: Char.ofNat 85 :: Char.ofNat 112 :: Char.ofNat 84 :: Char.ofNat 111 :: []) := io0.trans io1
theorem io2 : Try.prog.initOrder.toList = signs := by rw [io, String.toList_ofList]; rfl
def behind : List (List Char) := [[Char.ofNat 99, Char.ofNat 117, Char.ofNat 116], [Char.ofNat 97, Char.ofNat 116], [Char.ofNat 108, Char.ofNat 111, Char.ofNat 111, Char.ofNat 112, Char.ofNat 46, Char.ofNat 101, Char.ofNat 120, Char.ofNat 97, Char.ofNat 109, Char.ofNat 112, Char.ofNat 108, Char.ofNat 101, Char.ofNat 47, Char.ofNat 103, Char.ofNat 48, Char.ofNat 48, Char.ofNat 55, Char.ofNat 53, Char.ofNat 56, Char.ofNat 47, Char.ofNat 108, Char.ofNat 97, Char.ofNat 119, Char.ofNat 115, Char.ofNat 46, Char.ofNat 70, Char.ofNat 110, Char.ofNat 69, Char.ofNat 120, Char.ofNat 97, Char.ofNat 99, Char.ofNat 116, Char.ofNat 80, Char.ofNat 117, Char.ofNat 109, Char.ofNat 112, Char.ofNat 87, Char.ofNat 111, Char.ofNat 114, Char.ofNat 100], [Char.ofNat 108, Char.ofNat 111, Char.ofNat 111, Char.ofNat 112, Char.ofNat 46, Char.ofNat 101, Char.ofNat 120, Char.ofNat 97, Char.ofNat 109, Char.ofNat 112, Char.ofNat 108, Char.ofNat 101, Char.ofNat 47, Char.ofNat 103, Char.ofNat 48, Char.ofNat 48, Char.ofNat 55, Char.ofNat 53, Char.ofNat 56, Char.ofNat 47, Char.ofNat 108, Char.ofNat 97, Char.ofNat 119, Char.ofNat 115, Char.ofNat 46, Char.ofNat 70, Char.ofNat 110, Char.ofNat 69, Char.ofNat 120, Char.ofNat 97, Char.ofNat 99, Char.ofNat 116, Char.ofNat 76, Char.ofNat 111, Char.ofNat 110, Char.ofNat 103, Char.ofNat 69, Char.ofNat 110, Char.ofNat 111, Char.ofNat 117, Char.ofNat 103, Char.ofNat 104], [Char.ofNat 108, Char.ofNat 111, Char.ofNat 111, Char.ofNat 112, Char.ofNat 46, Char.ofNat 101, Char.ofNat 120, Char.ofNat 97, Char.ofNat 109, Char.ofNat 112, Char.ofNat 108, Char.ofNat 101, Char.ofNat 47, Char.ofNat 103, Char.ofNat 48, Char.ofNat 48, Char.ofNat 55, Char.ofNat 53, Char.ofNat 56, Char.ofNat 47, Char.ofNat 108, Char.ofNat 97, Char.ofNat 119, Char.ofNat 115, Char.ofNat 46, Char.ofNat 70, Char.ofNat 110, Char.ofNat 69, Char.ofNat 120, Char.ofNat 97, Char.ofNat 99, Char.ofNat 116, Char.ofNat 83, Char.ofNat 116, Char.ofNat 97, Char.ofNat 114, Char.ofNat 79, Char.ofNat 102], [Char.ofNat 108, Char.ofNat 111, Char.ofNat 111, Char.ofNat 112, Char.ofNat 46, Char.ofNat 101, Char.ofNat 120, Char.ofNat 97, Char.ofNat 109, Char.ofNat 112, Char.ofNat 108, Char.ofNat 101, Char.ofNat 47, Char.ofNat 103, Char.ofNat 48, Char.ofNat 48, Char.ofNat 55, Char.ofNat 53, Char.ofNat 56, Char.ofNat 47, Char.ofNat 108, Char.ofNat 97, Char.ofNat 119, Char.ofNat 115, Char.ofNat 46, Char.ofNat 70, Char.ofNat 110, Char.ofNat 69, Char.ofNat 120, Char.ofNat 97, Char.ofNat 99, Char.ofNat 116, Char.ofNat 74, Char.ofNat 111, Char.ofNat 105, Char.ofNat 110, Char.ofNat 79, Char.ofNat 102], [Char.ofNat 108, Char.ofNat 111, Char.ofNat 111, Char.ofNat 112, Char.ofNat 46, Char.ofNat 101, Char.ofNat 120, Char.ofNat 97, Char.ofNat 109, Char.ofNat 112, Char.ofNat 108, Char.ofNat 101, Char.ofNat 47, Char.ofNat 103, Char.ofNat 48, Char.ofNat 48, Char.ofNat 55, Char.ofNat 53, Char.ofNat 56, Char.ofNat 47, Char.ofNat 108, Char.ofNat 97, Char.ofNat 119, Char.ofNat 115, Char.ofNat 46, Char.ofNat 70, Char.ofNat 110, Char.ofNat 69, Char.ofNat 120, Char.ofNat 97, Char.ofNat 99, Char.ofNat 116, Char.ofNat 85, Char.ofNat 110, Char.ofNat 105, Char.ofNat 111, Char.ofNat 110, Char.ofNat 79, Char.ofNat 102], [Char.ofNat 108, Char.ofNat 111, Char.ofNat 111, Char.ofNat 112, Char.ofNat 46, Char.ofNat 101, Char.ofNat 120, Char.ofNat 97, Char.ofNat 109, Char.ofNat 112, Char.ofNat 108, Char.ofNat 101, Char.ofNat 47, Char.ofNat 103, Char.ofNat 48, Char.ofNat 48, Char.ofNat 55, Char.ofNat 53, Char.ofNat 56, Char.ofNat 47, Char.ofNat 108, Char.ofNat 97, Char.ofNat 119, Char.ofNat 115, Char.ofNat 46, Char.ofNat 70, Char.ofNat 110, Char.ofNat 69, Char.ofNat 120, Char.ofNat 97, Char.ofNat 99, Char.ofNat 116, Char.ofNat 80, Char.ofNat 117, Char.ofNat 109, Char.ofNat 112, Char.ofNat 79, Char.ofNat 102], [Char.ofNat 108, Char.ofNat 111, Char.ofNat 111, Char.ofNat 112, Char.ofNat 46, Char.ofNat 101, Char.ofNat 120, Char.ofNat 97, Char.ofNat 109, Char.ofNat 112, Char.ofNat 108, Char.ofNat 101, Char.ofNat 47, Char.ofNat 103, Char.ofNat 48, Char.ofNat 48, Char.ofNat 55, Char.ofNat 53, Char.ofNat 56, Char.ofNat 47, Char.ofNat 108, Char.ofNat 97, Char.ofNat 119, Char.ofNat 115, Char.ofNat 46, Char.ofNat 70, Char.ofNat 110, Char.ofNat 69, Char.ofNat 120, Char.ofNat 97, Char.ofNat 99, Char.ofNat 116, Char.ofNat 80, Char.ofNat 97, Char.ofNat 116, Char.ofNat 104, Char.ofNat 73, Char.ofNat 110], [Char.ofNat 108, Char.ofNat 111, Char.ofNat 111, Char.ofNat 112, Char.ofNat 46, Char.ofNat 101, Char.ofNat 120, Char.ofNat 97, Char.ofNat 109, Char.ofNat 112, Char.ofNat 108, Char.ofNat 101, Char.ofNat 47, Char.ofNat 103, Char.ofNat 48, Char.ofNat 48, Char.ofNat 55, Char.ofNat 53, Char.ofNat 56, Char.ofNat 47, Char.ofNat 108, Char.ofNat 97, Char.ofNat 119, Char.ofNat 115, Char.ofNat 46, Char.ofNat 70, Char.ofNat 110, Char.ofNat 69, Char.ofNat 120, Char.ofNat 97, Char.ofNat 99, Char.ofNat 116, Char.ofNat 76, Char.ofNat 101, Char.ofNat 97, Char.ofNat 115, Char.ofNat 116, Char.ofNat 77, Char.ofNat 101, Char.ofNat 110, Char.ofNat 100], [Char.ofNat 108, Char.ofNat 111, Char.ofNat 111, Char.ofNat 112, Char.ofNat 46, Char.ofNat 101, Char.ofNat 120, Char.ofNat 97, Char.ofNat 109, Char.ofNat 112, Char.ofNat 108, Char.ofNat 101, Char.ofNat 47, Char.ofNat 103, Char.ofNat 48, Char.ofNat 48, Char.ofNat 55, Char.ofNat 53, Char.ofNat 56, Char.ofNat 47, Char.ofNat 108, Char.ofNat 97, Char.ofNat 119, Char.ofNat 115, Char.ofNat 46, Char.ofNat 70, Char.ofNat 110, Char.ofNat 69, Char.ofNat 120, Char.ofNat 97, Char.ofNat 99, Char.ofNat 116, Char.ofNat 73, Char.ofNat 115, Char.ofNat 80, Char.ofNat 117, Char.ofNat 109, Char.ofNat 112], [Char.ofNat 108, Char.ofNat 111, Char.ofNat 111, Char.ofNat 112, Char.ofNat 46, Char.ofNat 101, Char.ofNat 120, Char.ofNat 97, Char.ofNat 109, Char.ofNat 112, Char.ofNat 108, Char.ofNat 101, Char.ofNat 47, Char.ofNat 103, Char.ofNat 48, Char.ofNat 48, Char.ofNat 55, Char.ofNat 53, Char.ofNat 56, Char.ofNat 47, Char.ofNat 108, Char.ofNat 97, Char.ofNat 119, Char.ofNat 115, Char.ofNat 46, Char.ofNat 70, Char.ofNat 110, Char.ofNat 69, Char.ofNat 120, Char.ofNat 97, Char.ofNat 99, Char.ofNat 116, Char.ofNat 67, Char.ofNat 111, Char.ofNat 117, Char.ofNat 110, Char.ofNat 116, Char.ofNat 66, Char.ofNat 121, Char.ofNat 76, Char.ofNat 111, Char.ofNat 110, Char.ofNat 103], [Char.ofNat 108, Char.ofNat 111, Char.ofNat 111, Char.ofNat 112, Char.ofNat 46, Char.ofNat 101, Char.ofNat 120, Char.ofNat 97, Char.ofNat 109, Char.ofNat 112, Char.ofNat 108, Char.ofNat 101, Char.ofNat 47, Char.ofNat 103, Char.ofNat 48, Char.ofNat 48, Char.ofNat 55, Char.ofNat 53, Char.ofNat 56, Char.ofNat 47, Char.ofNat 108, Char.ofNat 97, Char.ofNat 119, Char.ofNat 115, Char.ofNat 46, Char.ofNat 70, Char.ofNat 110, Char.ofNat 69, Char.ofNat 120, Char.ofNat 97, Char.ofNat 99, Char.ofNat 116, Char.ofNat 83, Char.ofNat 97, Char.ofNat 109, Char.ofNat 101, Char.ofNat 85, Char.ofNat 112, Char.ofNat 84, Char.ofNat 111], [Char.ofNat 108, Char.ofNat 111, Char.ofNat 111, Char.ofNat 112, Char.ofNat 46, Char.ofNat 101, Char.ofNat 120, Char.ofNat 97, Char.ofNat 109, Char.ofNat 112, Char.ofNat 108, Char.ofNat 101, Char.ofNat 47, Char.ofNat 103, Char.ofNat 48, Char.ofNat 48, Char.ofNat 55, Char.ofNat 53, Char.ofNat 56, Char.ofNat 47, Char.ofNat 108, Char.ofNat 97, Char.ofNat 119, Char.ofNat 115, Char.ofNat 46, Char.ofNat 70, Char.ofNat 110, Char.ofNat 69, Char.ofNat 120, Char.ofNat 97, Char.ofNat 99, Char.ofNat 116, Char.ofNat 67, Char.ofNat 111, Char.ofNat 115, Char.ofNat 116, Char.ofNat 84, Char.ofNat 97, Char.ofNat 98, Char.ofNat 108, Char.ofNat 101], [Char.ofNat 108, Char.ofNat 111, Char.ofNat 111, Char.ofNat 112, Char.ofNat 46, Char.ofNat 101, Char.ofNat 120, Char.ofNat 97, Char.ofNat 109, Char.ofNat 112, Char.ofNat 108, Char.ofNat 101, Char.ofNat 47, Char.ofNat 103, Char.ofNat 48, Char.ofNat 48, Char.ofNat 55, Char.ofNat 53, Char.ofNat 56, Char.ofNat 47, Char.ofNat 108, Char.ofNat 97, Char.ofNat 119, Char.ofNat 115, Char.ofNat 46, Char.ofNat 70, Char.ofNat 110, Char.ofNat 69, Char.ofNat 120, Char.ofNat 97, Char.ofNat 99, Char.ofNat 116, Char.ofNat 80, Char.ofNat 117, Char.ofNat 109, Char.ofNat 112, Char.ofNat 84, Char.ofNat 114, Char.ofNat 101, Char.ofNat 101], [Char.ofNat 108, Char.ofNat 111, Char.ofNat 111, Char.ofNat 112, Char.ofNat 46, Char.ofNat 101, Char.ofNat 120, Char.ofNat 97, Char.ofNat 109, Char.ofNat 112, Char.ofNat 108, Char.ofNat 101, Char.ofNat 47, Char.ofNat 103, Char.ofNat 48, Char.ofNat 48, Char.ofNat 55, Char.ofNat 53, Char.ofNat 56, Char.ofNat 47, Char.ofNat 108, Char.ofNat 97, Char.ofNat 119, Char.ofNat 115, Char.ofNat 46, Char.ofNat 70, Char.ofNat 110, Char.ofNat 69, Char.ofNat 120, Char.ofNat 97, Char.ofNat 99, Char.ofNat 116, Char.ofNat 67, Char.ofNat 111, Char.ofNat 117, Char.ofNat 110, Char.ofNat 116, Char.ofNat 83, Char.ofNat 105, Char.ofNat 122, Char.ofNat 101, Char.ofNat 100], [Char.ofNat 108, Char.ofNat 111, Char.ofNat 111, Char.ofNat 112, Char.ofNat 46, Char.ofNat 101, Char.ofNat 120, Char.ofNat 97, Char.ofNat 109, Char.ofNat 112, Char.ofNat 108, Char.ofNat 101, Char.ofNat 47, Char.ofNat 103, Char.ofNat 48, Char.ofNat 48, Char.ofNat 55, Char.ofNat 53, Char.ofNat 56, Char.ofNat 47, Char.ofNat 108, Char.ofNat 97, Char.ofNat 119, Char.ofNat 115, Char.ofNat 46, Char.ofNat 70, Char.ofNat 110, Char.ofNat 69, Char.ofNat 120, Char.ofNat 97, Char.ofNat 99, Char.ofNat 116, Char.ofNat 67, Char.ofNat 104, Char.ofNat 97, Char.ofNat 110, Char.ofNat 103, Char.ofNat 101, Char.ofNat 87, Char.ofNat 111, Char.ofNat 114, Char.ofNat 100], [Char.ofNat 108, Char.ofNat 111, Char.ofNat 111, Char.ofNat 112, Char.ofNat 46, Char.ofNat 101, Char.ofNat 120, Char.ofNat 97, Char.ofNat 109, Char.ofNat 112, Char.ofNat 108, Char.ofNat 101, Char.ofNat 47, Char.ofNat 103, Char.ofNat 48, Char.ofNat 48, Char.ofNat 55, Char.ofNat 53, Char.ofNat 56, Char.ofNat 47, Char.ofNat 108, Char.ofNat 97, Char.ofNat 119, Char.ofNat 115, Char.ofNat 46, Char.ofNat 70, Char.ofNat 110, Char.ofNat 69, Char.ofNat 120, Char.ofNat 97, Char.ofNat 99, Char.ofNat 116, Char.ofNat 77, Char.ofNat 101, Char.ofNat 110, Char.ofNat 100, Char.ofNat 84, Char.ofNat 97, Char.ofNat 98, Char.ofNat 108, Char.ofNat 101], [Char.ofNat 108, Char.ofNat 111, Char.ofNat 111, Char.ofNat 112, Char.ofNat 46, Char.ofNat 101, Char.ofNat 120, Char.ofNat 97, Char.ofNat 109, Char.ofNat 112, Char.ofNat 108, Char.ofNat 101, Char.ofNat 47, Char.ofNat 103, Char.ofNat 48, Char.ofNat 48, Char.ofNat 55, Char.ofNat 53, Char.ofNat 56, Char.ofNat 47, Char.ofNat 108, Char.ofNat 97, Char.ofNat 119, Char.ofNat 115, Char.ofNat 46, Char.ofNat 70, Char.ofNat 110, Char.ofNat 69, Char.ofNat 120, Char.ofNat 97, Char.ofNat 99, Char.ofNat 116, Char.ofNat 78, Char.ofNat 101, Char.ofNat 97, Char.ofNat 114, Char.ofNat 87, Char.ofNat 111, Char.ofNat 114, Char.ofNat 100], [Char.ofNat 108, Char.ofNat 111, Char.ofNat 111, Char.ofNat 112, Char.ofNat 46, Char.ofNat 101, Char.ofNat 120, Char.ofNat 97, Char.ofNat 109, Char.ofNat 112, Char.ofNat 108, Char.ofNat 101, Char.ofNat 47, Char.ofNat 103, Char.ofNat 48, Char.ofNat 48, Char.ofNat 55, Char.ofNat 53, Char.ofNat 56, Char.ofNat 47, Char.ofNat 108, Char.ofNat 97, Char.ofNat 119, Char.ofNat 115, Char.ofNat 46, Char.ofNat 70, Char.ofNat 110, Char.ofNat 69, Char.ofNat 120, Char.ofNat 97, Char.ofNat 99, Char.ofNat 116, Char.ofNat 70, Char.ofNat 105, Char.ofNat 114, Char.ofNat 115, Char.ofNat 116, Char.ofNat 85, Char.ofNat 110, Char.ofNat 108, Char.ofNat 105, Char.ofNat 107, Char.ofNat 101], [Char.ofNat 108, Char.ofNat 111, Char.ofNat 111, Char.ofNat 112, Char.ofNat 46, Char.ofNat 101, Char.ofNat 120, Char.ofNat 97, Char.ofNat 109, Char.ofNat 112, Char.ofNat 108, Char.ofNat 101, Char.ofNat 47, Char.ofNat 103, Char.ofNat 48, Char.ofNat 48, Char.ofNat 55, Char.ofNat 53, Char.ofNat 56, Char.ofNat 47, Char.ofNat 108, Char.ofNat 97, Char.ofNat 119, Char.ofNat 115, Char.ofNat 46, Char.ofNat 70, Char.ofNat 110, Char.ofNat 69, Char.ofNat 120, Char.ofNat 97, Char.ofNat 99, Char.ofNat 116, Char.ofNat 66, Char.ofNat 101, Char.ofNat 115, Char.ofNat 116, Char.ofNat 84, Char.ofNat 114, Char.ofNat 101, Char.ofNat 101], [Char.ofNat 108, Char.ofNat 111, Char.ofNat 111, Char.ofNat 112, Char.ofNat 46, Char.ofNat 101, Char.ofNat 120, Char.ofNat 97, Char.ofNat 109, Char.ofNat 112, Char.ofNat 108, Char.ofNat 101, Char.ofNat 47, Char.ofNat 103, Char.ofNat 48, Char.ofNat 48, Char.ofNat 55, Char.ofNat 53, Char.ofNat 56, Char.ofNat 47, Char.ofNat 108, Char.ofNat 97, Char.ofNat 119, Char.ofNat 115, Char.ofNat 46, Char.ofNat 70, Char.ofNat 110, Char.ofNat 69, Char.ofNat 120, Char.ofNat 97, Char.ofNat 99, Char.ofNat 116, Char.ofNat 84, Char.ofNat 114, Char.ofNat 101, Char.ofNat 101, Char.ofNat 115, Char.ofNat 85, Char.ofNat 112, Char.ofNat 84, Char.ofNat 111]]
theorem io4 : behindMainWord (wordsSigns signs) = behind := by kernel_rfl
theorem io3 : behindMainWord (wordsSigns Try.prog.initOrder.toList) = behind := by rw [io2, io4]
theorem may : Try.prog.mayEnter = true := may_of (l := []) io3 (by rfl) (by kernel_rfl) (by kernel_rfl) (by kernel_rfl) (by kernel_rfl) rfl (by kernel_rfl)
theorem fin : Try.prog.liftsFinal = false := lifts_of io3 (by kernel_rfl) (by kernel_rfl)
theorem mk : Try.prog.make = some .cut := make_of io3 (by rfl) (by kernel_rfl) (by kernel_rfl)
theorem own : ownKnob Try.prog.godebug = none := by kernel_rfl
theorem laidOut : laidOutB Try.prog = true := by kernel_rfl
theorem rowed : mapsRowed Try.prog = true := by kernel_rfl
def lightFacts (P : Program) (f : FuncId) (fn : Func) (s : ChangeSpec) (c : OpenClaim) : Bool :=
  c.wf (OpenSpec.ofChange s) && fn.params.all (P.readableRec ·) && namedTie P c.named s.vars && (c.stops == []) && (P.stops == []) && (c.knobs == []) && (P.stopKnobs == []) && (c.inPlace == P.inPlace f) && (c.unfollowed == P.unfollowed f) && (c.recurses == P.recurses f) && (c.named == P.varsNamed f) && (c.maps == (fn.params.toList ++ s.plain.varTypes P).any (P.mapsRec ·)) && (c.ifaces == (fn.params.toList ++ s.plain.varTypes P).any (P.ifacesRec ·)) && (c.mapsOut == P.mapsAmong fn.resultTypes.toList) && (c.loops == (fn.params.toList ++ s.plain.varTypes P).any (P.loopsFrom ·)) && (c.wideKeys == (fn.params.toList ++ s.plain.varTypes P ++ fn.resultTypes.toList).any (P.wideKeysFrom ·)) && s.vars.all (P.varReadable ·) && fn.resultTypes.all (fun t => P.readableRec t && decide (t < P.types.size)) && (c.ifacesOut == fn.resultTypes.toList.any (P.ifacesRec ·)) && (c.loopsOut == fn.resultTypes.toList.any (P.loopsFrom ·)) && (c.plainKeys == P.plainKeys) && c.shortTexts.isNone && P.stopsHeard && (c.kinds == (if c.domain.isEmpty then [] else fn.params.toList.map fun t => match P.underlying t with | some (.int k) => some k | _ => none)) && (c.pinned == c.pinnedBy) && (c.veiled == (fn.params.toList ++ s.plain.varTypes P ++ fn.resultTypes.toList).any (P.veiledRec ·)) && c.veiledFits P fn.params.toList (fn.params.toList ++ s.plain.varTypes P ++ fn.resultTypes.toList)
theorem facts_of {f : FuncId} {fn : Func} {s : ChangeSpec} {c : OpenClaim} (hl : c.lifted = false) (hm : c.make = .cut) (h : lightFacts Try.prog f fn s c = true) : joinedFacts Try.prog f fn s c = true := by
  unfold lightFacts at h
  unfold joinedFacts
  simp only [Bool.and_eq_true] at h ⊢
  obtain ⟨⟨⟨⟨⟨⟨⟨⟨⟨⟨⟨⟨⟨⟨⟨⟨⟨⟨⟨⟨⟨⟨⟨⟨⟨⟨k0, k3⟩, k4⟩, k5⟩, k6⟩, k7⟩, k8⟩, k9⟩, k10⟩, k11⟩, k12⟩, k13⟩, k14⟩, k15⟩, k16⟩, k17⟩, k18⟩, k19⟩, k20⟩, k21⟩, k22⟩, k23⟩, k24⟩, k28⟩, k29⟩, k30⟩, k31⟩ := h
  exact ⟨⟨⟨⟨⟨⟨⟨⟨⟨⟨⟨⟨⟨⟨⟨⟨⟨⟨⟨⟨⟨⟨⟨⟨⟨⟨⟨⟨⟨⟨⟨k0, laidOut⟩, rowed⟩, k3⟩, k4⟩, k5⟩, k6⟩, k7⟩, k8⟩, k9⟩, k10⟩, k11⟩, k12⟩, k13⟩, k14⟩, k15⟩, k16⟩, k17⟩, k18⟩, k19⟩, k20⟩, k21⟩, k22⟩, k23⟩, k24⟩, may⟩, (by rw [hl, fin]; rfl)⟩, (by rw [hm, mk]; rfl)⟩, k28⟩, k29⟩, k30⟩, k31⟩
end Go.Proofs.Ytiohaeckagjebaa
