/- The law of PumpWord, over its contracts. -/
import Derived.Test.YtiohaeckagjebaaShC3
import Derived.Test.YtiohaeckagjebaaShC4
set_option linter.unusedVariables false
set_option linter.unusedSimpArgs false
set_option maxRecDepth 100000
namespace Go.Sh
open Go
/-- Two rows, the one younger than the other: what is written into the one doesn't touch the other. -/
theorem apart {w w' : World} {B e sz n c B' e' sz' n' c' : Nat} {X Y : Option Addr} {cs cs' : List Value} (h : Row w B e sz X n c cs) (h' : Row w' B' e' sz' Y n' c' cs') (hb : w.heap.size ≤ B') : blk X = none ∨ blk X ≠ blk Y := by
  cases hq : blk X with
  | none => exact .inl rfl
  | some q =>
    refine .inr fun e => ?_
    have := (h.ge hq).2
    have := (h'.ge e.symm).1
    omega
theorem apart' {w w' : World} {B e sz n c B' e' sz' n' c' : Nat} {X Y : Option Addr} {cs cs' : List Value} (h : Row w B e sz X n c cs) (h' : Row w' B' e' sz' Y n' c' cs') (hb : w.heap.size ≤ B') : blk Y = none ∨ blk Y ≠ blk X := by
  cases hq : blk Y with
  | none => exact .inl rfl
  | some q =>
    refine .inr fun e => ?_
    have := (h.ge e.symm).2
    have := (h'.ge hq).1
    omega
theorem Ints.kept {w w' : World} {X : Option Addr} {xs : List Int} {r : Option Nat} (h : Ints w X xs) (g : w.grownBy w' r) (hr : blk X = none ∨ blk X ≠ r) : Ints w' X xs := by
  refine ⟨h.le, h.ptr, fun j hj => ?_⟩
  have hp := h.ptr (by omega)
  refine g.cell (h.cell j hj) ?_
  rw [hp] at hr
  simp only [blk, Option.map_some] at hr
  have : ((ad X).add j).block = (ad X).block := by
    unfold Addr.add
    split <;> rfl
  rw [this]
  rcases hr with h | h
  · cases h
  · exact h
end Go.Sh
namespace Go.Proofs.Ytiohaeckagjebaa
open Go Go.Sh Go.RowKit

theorem specPumpWord_u {w : World} {X Y : Option Addr} {c d : Nat} {xs cs : List Int} {many : Int} (hx : Ints w X xs) (hc : xs.length ≤ c) (hy : Ints w Y cs) {k : Value → World → Prop}
    (hk : ∀ X' c' w', Gr w w' → Own 3 w' w.heap.size X' c' ((pumpW xs cs many).getD []) → k (.tuple #[.slice X' ((pumpW xs cs many).getD []).length c', .bool (pumpW xs cs many).isSome]) w') :
    CallK Try.prog 23 [.slice X xs.length c, .slice Y cs.length d, .int .i64 many] k w := by
  refine specPumpWord_c hx hc hy fun X' c' w' g => ?_
  cases h : pumpW xs cs many with
  | none =>
    rw [h] at hk
    exact hk none 0 w' g (Row.nil _ _ _ _)
  | some l =>
    intro ho
    rw [h] at hk
    exact hk X' c' w' g ho
theorem implPumpWord_u {w : World} {X Y : Option Addr} {c d : Nat} {xs cs : List Int} {many : Int} (hx : Ints w X xs) (hc : xs.length ≤ c) (hy : Ints w Y cs) {k : Value → World → Prop}
    (hk : ∀ X' c' w', Gr w w' → Own 3 w' w.heap.size X' c' ((pumpW xs cs many).getD []) → k (.tuple #[.slice X' ((pumpW xs cs many).getD []).length c', .bool (pumpW xs cs many).isSome]) w') :
    CallK Try.prog 25 [.slice X xs.length c, .slice Y cs.length d, .int .i64 many] k w := by
  refine ImplPumpWord_c hx hc hy fun X' c' w' g => ?_
  cases h : pumpW xs cs many with
  | none =>
    rw [h] at hk
    exact hk none 0 w' g (Row.nil _ _ _ _)
  | some l =>
    intro ho
    rw [h] at hk
    exact hk X' c' w' g ho
theorem pumpW_le (xs cs : List Int) (many : Int) : ((pumpW xs cs many).getD []).length ≤ 60 := by
  unfold pumpW
  split
  · split
    · simpa
    · simp
  · simp

theorem law_PumpWord {w : World} {X Y : Option Addr} {c d : Nat} {xs cs : List Int} {many : Int} (hx : Ints w X xs) (hc : xs.length ≤ c) (hy : Ints w Y cs) (hd : cs.length ≤ d) {k : Value → World → Prop} (hk : ∀ w', Gr w w' → k (.bool true) w') :
    CallK Try.prog 3 [.slice X xs.length c, .slice Y cs.length d, .int .i64 many] k w := by
  refine enter3 ?_
  unfold S3
  simp only [go_sem, Nat.reduceEqDiff]
  refine cond_split (fun _ => hk w (Gr.refl w)) fun h1 => ?_
  refine cond_split (fun _ => hk w (Gr.refl w)) fun h2 => ?_
  have hxl' : (xs.length : Int) ≤ 1048576 := by simpa using h1
  have hxl : xs.length ≤ 1048576 := by omega
  have hyl' : (cs.length : Int) ≤ 1048576 := by simpa using h2
  have hyl : cs.length ≤ 1048576 := by omega
  clear h1 h2 hxl' hyl'
  refine toIntS_c hx rfl (by omega) fun X1 c1 w1 g1 o1 => ?_
  refine toIntS_c (hy.gr g1) rfl (by omega) fun Y1 d1 w2 g2 p1 => ?_
  have G2 := gr_trans g1 g2
  refine specPumpWord_u (Own.ints (Row.gr o1 g2)) (Row.cap o1).1 (Own.ints p1) fun Z1 e1 w3 g3 r1 => ?_
  have G3 := gr_trans G2 g3
  simp only [go_sem, Nat.reduceEqDiff]
  generalize hL : (pumpW xs cs many).getD [] = L at *
  generalize hok : (pumpW xs cs many).isSome = ok at *
  have hLl : L.length ≤ 60 := hL ▸ pumpW_le xs cs many
  refine toIntS_c (hx.gr G3) rfl (by omega) fun X2 c2 w4 g4 o2 => ?_
  refine toIntS_c (hy.gr (gr_trans G3 g4)) rfl (by omega) fun Y2 d2 w5 g5 p2 => ?_
  have G5 := gr_trans (gr_trans G3 g4) g5
  refine implPumpWord_u (Own.ints (Row.gr o2 g5)) (Row.cap o2).1 (Own.ints p2) fun Z2 e2 w6 g6 r2 => ?_
  rw [hL] at r2 ⊢
  rw [hok]
  have G6 := gr_trans G5 g6
  have R1 : Own 3 w6 w2.heap.size Z1 e1 L := Row.gr r1 (gr_trans (gr_trans g4 g5) g6)
  have O2 : Own 3 w6 w3.heap.size X2 c2 xs := Row.gr o2 (gr_trans g5 g6)
  have P2 : Own 3 w6 w4.heap.size Y2 d2 cs := Row.gr p2 g6
  simp only [go_sem, Nat.reduceEqDiff]
  refine eqIntS_c (Own.ints r2) (Own.ints R1) fun w7 g7 => ?_
  simp only [decide_true, Bool.not_true, beq_self_eq_true, go_sem, Nat.reduceEqDiff]
  rw [bin_neq_bool (by kernel_rfl)]
  simp only [beq_self_eq_true, Bool.not_true, go_sem, Nat.reduceEqDiff]
  refine toIntS_c (hx.gr (gr_trans G6 g7)) rfl (by omega) fun X3 c3 w8 g8 o3 => ?_
  refine eqIntS_c ((Own.ints (Row.gr O2 (gr_trans g7 g8)))) (Own.ints o3) fun w9 g9 => ?_
  simp only [decide_true, Bool.not_true, go_sem, Nat.reduceEqDiff]
  refine toIntS_c (hy.gr (gr_trans (gr_trans (gr_trans G6 g7) g8) g9)) rfl (by omega) fun Y3 d3 w10 g10 p3 => ?_
  have H6 := gr_trans (gr_trans (gr_trans g7 g8) g9) g10
  refine eqIntS_c ((Own.ints (Row.gr P2 H6))) (Own.ints p3) fun w11 g11 => ?_
  simp only [decide_true, Bool.not_true, go_sem, Nat.reduceEqDiff]
  have H6' := gr_trans H6 g11
  have O2' := Row.gr O2 H6'
  have P2' := Row.gr P2 H6'
  have R1' := Row.gr R1 H6'
  have r2' := Row.gr r2 H6'
  refine markIntS_c O2' rfl (by decide) (by omega) fun w12 m12 O12 => ?_
  have P12 := Row.kept P2' m12 (apart' o2 P2' (Nat.le_refl _))
  have R12 := Row.kept R1' m12 (apart r1 O2' (Nat.le_refl _))
  have r12 := Row.kept r2' m12 (apart' (Row.gr o2 g5) r2' (Nat.le_refl _))
  refine markIntS_c P12 rfl (by omega) (by omega) fun w13 m13 P13 => ?_
  have R13 := Row.kept R12 m13 (apart (Row.gr r1 g4) P12 (Nat.le_refl _))
  have r13 := Row.kept r12 m13 (apart' p2 r12 (Nat.le_refl _))
  have G13 : Gr w w13 := by
    have a := gr_trans (gr_trans G6 H6') (Gr.refl w11)
    have b := gr_mod a m12 fun q hq => Nat.le_trans G3.size (Row.ge O2' hq).1
    exact gr_mod b m13 fun q hq => Nat.le_trans (gr_trans G3 g4).size (Row.ge P12 hq).1
  simp only [show ¬ (1 : Int) + xs.length + cs.length < 0 by omega, decide_false, go_sem, Nat.reduceEqDiff]
  refine eqIntS_c (Own.ints r13) (Own.ints R13) fun w14 g14 => ?_
  simp only [decide_true, Bool.not_true, beq_self_eq_true, go_sem, Nat.reduceEqDiff]
  rw [bin_neq_bool (by kernel_rfl)]
  simp only [beq_self_eq_true, Bool.not_true, go_sem, Nat.reduceEqDiff]
  have r14 := Row.gr r13 g14
  have R14 := Row.gr R13 g14
  refine markIntS_c r14 rfl (by decide) (by omega) fun w15 m15 q15 => ?_
  have R15 := Row.kept R14 m15 (apart (Row.gr r1 (gr_trans g4 g5)) r14 (Nat.le_refl _))
  have G15 : Gr w w15 := gr_mod (gr_trans G13 g14) m15 fun q hq => Nat.le_trans G5.size (Row.ge r14 hq).1
  refine heldIntS_c (Own.ints q15) rfl (by decide) (by omega) fun w16 g16 => ?_
  simp only [show ¬ (1 : Int) + L.length < 0 by omega, decide_false, decide_true, Bool.not_true, go_sem, Nat.reduceEqDiff]
  have G16 := gr_trans G15 g16
  refine toIntS_c (hx.gr G16) rfl (by omega) fun X4 c4 w17 g17 o4 => ?_
  refine toIntS_c (hy.gr (gr_trans G16 g17)) rfl (by omega) fun Y4 d4 w18 g18 p4 => ?_
  refine implPumpWord_u (Own.ints (Row.gr o4 g18)) (Row.cap o4).1 (Own.ints p4) fun Z3 e3 w19 g19 r3 => ?_
  rw [hL] at r3 ⊢
  rw [hok]
  have H15 := gr_trans (gr_trans (gr_trans g16 g17) g18) g19
  simp only [go_sem, Nat.reduceEqDiff]
  refine eqIntS_c (Own.ints r3) (Own.ints (Row.gr R15 H15)) fun w20 g20 => ?_
  simp only [decide_true, Bool.not_true, beq_self_eq_true, go_sem, Nat.reduceEqDiff]
  rw [bin_neq_bool (by kernel_rfl)]
  simp only [beq_self_eq_true, Bool.not_true, go_sem, Nat.reduceEqDiff]
  refine heldIntS_c (Own.ints (Row.gr q15 (gr_trans H15 g20))) rfl (by decide) (by omega) fun w21 g21 => ?_
  simp only [show ¬ (1 : Int) + L.length < 0 by omega, decide_false, decide_true, Bool.not_true, go_sem, Nat.reduceEqDiff]
  exact hk w21 (gr_trans (gr_trans (gr_trans G15 H15) g20) g21)
end Go.Proofs.Ytiohaeckagjebaa
