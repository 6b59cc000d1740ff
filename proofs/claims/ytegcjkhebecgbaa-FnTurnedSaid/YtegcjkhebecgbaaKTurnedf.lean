/- Texts of this repository put together: Sh7C, ShIO. -/
import Derived.Test.YtegcjkhebecgbaaKTurnede
import Derived.Test.YtegcjkhebecgbaaRows
import Derived.JoinedOf
import Derived.KernelRfl

set_option linter.unusedVariables false
set_option linter.unusedSimpArgs false
set_option maxRecDepth 100000
namespace Go.Proofs.Ytegcjkhebecgbaa
open Go Go.Sh Go.RowKit
theorem inLV_two {gm : Gram} {ws : List Int} {is one : Bool} (e : inLV gm ws = (is, one)) : wordG gm ws = one := by
  unfold inLV at e
  split at e
  · rename_i h
    rw [h, ← (Prod.mk.inj e).2]
  · rename_i h
    rw [Bool.not_eq_true] at h
    rw [h, ← (Prod.mk.inj e).2]
theorem wordG_parts {gm : Gram} {ws : List Int} (h : wordG gm ws = true) : zv_ gm = true ∧ zxd_ gm.toks ws = true := by
  unfold wordG at h
  rwa [Bool.and_eq_true] at h
attribute [local irreducible] Rd Do CallK zb_ zm_ Join zrb_ zbb_ zc_ zeb_ sBin sUn ze_ zi_ zw_ zf_ za_ zec_
set_option maxHeartbeats 12800000 in
theorem law_Turned {w : World} {C D : Option Addr} {cap cap' : Nat} {bs es : List Int} (hC : Byts w C bs) (hD : Byts w D es) {k : Value → World → Prop} (hk : ∀ w', Gr w w' → k (.bool true) w') :
    CallK Try.prog 14 [.slice C bs.length cap, .slice D es.length cap'] k w := by
  refine enter14 ?_
  unfold S14
  have H := knC (knC (Kn.nil w) hC) hD
  refine big_c hC.le hD.le fun b => ?_
  cases b
  case true =>
    refine rdi zq29 ?_
    exact hk _ (H.get 0 rfl)
  refine rdi zq30 ?_
  refine zkk_ (H.get 1 rfl) fun w2 gm ft Y cy X cx ws hd A => ?_
  have hG := gowK (A.gow 1 rfl)
  have oW := A.own 0 rfl
  have H := ((H.step A.gr).addG hG.1 hG.2).addI oW.ints (Row.cap oW).1
  simp only [List.cons_append, List.nil_append] at H
  refine rdi zq1 (rdi zq2 ?_)
  refine newG H fun b1 w3 H => ?_
  simp only [List.cons_append, List.nil_append] at H
  rcases hr : zud_ gm with ⟨r, ok⟩
  rcases hi : inLV gm ws with ⟨is, one⟩
  rw [zj_ zu_ sz26 rfl (H.get 5 rfl)]
  refine zyp_ hr (H.get 3 rfl) fun w4 Z d g o => ?_
  have H := (H.step g).addG o.1 o.2
  simp only [List.cons_append, List.nil_append] at H
  refine rdi zq1 (rdi zq2 ?_)
  refine newG H fun b2 w5 H => ?_
  simp only [List.cons_append, List.nil_append] at H
  rw [zj_ zu_ sz26 rfl (H.get 5 rfl)]
  refine specRev_n hr (H.get 3 rfl) fun w6 Z2 d2 g o => ?_
  have H := (H.step g).addG o.1 o.2
  simp only [List.cons_append, List.nil_append] at H
  refine rdi zq1 (rdi zq2 ?_)
  refine newG H fun b3 w7 H => ?_
  simp only [List.cons_append, List.nil_append] at H
  rw [zj_ zu_ sz26 rfl (H.get 5 rfl)]
  refine zji_ hi (H.get 3 rfl) (H.get 4 rfl) fun w8 g => ?_
  have H := (H.step g).drew
  refine rdi zq1 (rdi zq2 ?_)
  have H := H.add (P := fun w' => Gr w8.drew w') fun w' g => g
  simp only [List.cons_append, List.nil_append] at H
  have B1 := H.get 5 rfl
  have B2 := H.get 7 rfl
  have B3 := H.get 9 rfl
  refine ⟨fun w' => Gr w8.drew w', Gr.refl _, ?_⟩
  repeat (first | refine rdi zjb_ ?_ | refine rdi zgb_ ?_ | refine rdi zkb_ ?_ | refine rdi zhb_ ?_ | refine rdi zq1 ?_ | refine rdi zq2 ?_ | refine rdi zq13 ?_ | refine rdi zq14 ?_ | refine rdi zq16 ?_ | refine rdi zq15 ?_ | refine rdi zq17 ?_ | refine rdi zq4 ?_ | refine rdi zq3 ?_ | refine rdi zq27 ?_ | refine rdi bneq ?_ | refine rdi beql ?_ | refine rdi zq29 ?_ | refine rdi zq30 ?_ | refine rdi zq21 ?_ | refine rdi zq22 ?_ | refine rdi zq23 ?_ | refine rdi zq24 ?_ | refine rdi zq25 ?_ | refine rdi zq26 ?_ | refine rdi len27 ?_ | refine rdi len35 ?_)
  refine rdi (zad_ rfl fun w' h => B2.gr h) ?_
  repeat (first | refine rdi zjb_ ?_ | refine rdi zgb_ ?_ | refine rdi zkb_ ?_ | refine rdi zhb_ ?_ | refine rdi zq1 ?_ | refine rdi zq2 ?_ | refine rdi zq13 ?_ | refine rdi zq14 ?_ | refine rdi zq16 ?_ | refine rdi zq15 ?_ | refine rdi zq17 ?_ | refine rdi zq4 ?_ | refine rdi zq3 ?_ | refine rdi zq27 ?_ | refine rdi bneq ?_ | refine rdi beql ?_ | refine rdi zq29 ?_ | refine rdi zq30 ?_ | refine rdi zq21 ?_ | refine rdi zq22 ?_ | refine rdi zq23 ?_ | refine rdi zq24 ?_ | refine rdi zq25 ?_ | refine rdi zq26 ?_ | refine rdi len27 ?_ | refine rdi len35 ?_)
  refine rdi (zad_ rfl fun w' h => B3.gr h) ?_
  repeat (first | refine rdi zjb_ ?_ | refine rdi zgb_ ?_ | refine rdi zkb_ ?_ | refine rdi zhb_ ?_ | refine rdi zq1 ?_ | refine rdi zq2 ?_ | refine rdi zq13 ?_ | refine rdi zq14 ?_ | refine rdi zq16 ?_ | refine rdi zq15 ?_ | refine rdi zq17 ?_ | refine rdi zq4 ?_ | refine rdi zq3 ?_ | refine rdi zq27 ?_ | refine rdi bneq ?_ | refine rdi beql ?_ | refine rdi zq29 ?_ | refine rdi zq30 ?_ | refine rdi zq21 ?_ | refine rdi zq22 ?_ | refine rdi zq23 ?_ | refine rdi zq24 ?_ | refine rdi zq25 ?_ | refine rdi zq26 ?_ | refine rdi len27 ?_ | refine rdi len35 ?_)
  refine zpf_ (H.get 6 rfl) (H.get 8 rfl) fun w9 g => ?_
  have H := H.step g
  rw [decide_eq_true rfl]
  refine ⟨H.get 10 rfl, ?_⟩
  repeat (first | refine rdi zjb_ ?_ | refine rdi zgb_ ?_ | refine rdi zkb_ ?_ | refine rdi zhb_ ?_ | refine rdi zq1 ?_ | refine rdi zq2 ?_ | refine rdi zq13 ?_ | refine rdi zq14 ?_ | refine rdi zq16 ?_ | refine rdi zq15 ?_ | refine rdi zq17 ?_ | refine rdi zq4 ?_ | refine rdi zq3 ?_ | refine rdi zq27 ?_ | refine rdi bneq ?_ | refine rdi beql ?_ | refine rdi zq29 ?_ | refine rdi zq30 ?_ | refine rdi zq21 ?_ | refine rdi zq22 ?_ | refine rdi zq23 ?_ | refine rdi zq24 ?_ | refine rdi zq25 ?_ | refine rdi zq26 ?_ | refine rdi len27 ?_ | refine rdi len35 ?_)
  refine rdi (zad_ rfl fun w' h => B1.gr h) ?_
  repeat (first | refine rdi zjb_ ?_ | refine rdi zgb_ ?_ | refine rdi zkb_ ?_ | refine rdi zhb_ ?_ | refine rdi zq1 ?_ | refine rdi zq2 ?_ | refine rdi zq13 ?_ | refine rdi zq14 ?_ | refine rdi zq16 ?_ | refine rdi zq15 ?_ | refine rdi zq17 ?_ | refine rdi zq4 ?_ | refine rdi zq3 ?_ | refine rdi zq27 ?_ | refine rdi bneq ?_ | refine rdi beql ?_ | refine rdi zq29 ?_ | refine rdi zq30 ?_ | refine rdi zq21 ?_ | refine rdi zq22 ?_ | refine rdi zq23 ?_ | refine rdi zq24 ?_ | refine rdi zq25 ?_ | refine rdi zq26 ?_ | refine rdi len27 ?_ | refine rdi len35 ?_)
  refine rdi (zad_ rfl fun w' h => B1.gr h) ?_
  repeat (first | refine rdi zjb_ ?_ | refine rdi zgb_ ?_ | refine rdi zkb_ ?_ | refine rdi zhb_ ?_ | refine rdi zq1 ?_ | refine rdi zq2 ?_ | refine rdi zq13 ?_ | refine rdi zq14 ?_ | refine rdi zq16 ?_ | refine rdi zq15 ?_ | refine rdi zq17 ?_ | refine rdi zq4 ?_ | refine rdi zq3 ?_ | refine rdi zq27 ?_ | refine rdi bneq ?_ | refine rdi beql ?_ | refine rdi zq29 ?_ | refine rdi zq30 ?_ | refine rdi zq21 ?_ | refine rdi zq22 ?_ | refine rdi zq23 ?_ | refine rdi zq24 ?_ | refine rdi zq25 ?_ | refine rdi zq26 ?_ | refine rdi len27 ?_ | refine rdi len35 ?_)
  refine zfj_ (H.get 3 rfl) fun w10 g => ?_
  have H := H.step g
  refine ⟨H.get 10 rfl, ?_⟩
  repeat (first | refine rdi zjb_ ?_ | refine rdi zgb_ ?_ | refine rdi zkb_ ?_ | refine rdi zhb_ ?_ | refine rdi zq1 ?_ | refine rdi zq2 ?_ | refine rdi zq13 ?_ | refine rdi zq14 ?_ | refine rdi zq16 ?_ | refine rdi zq15 ?_ | refine rdi zq17 ?_ | refine rdi zq4 ?_ | refine rdi zq3 ?_ | refine rdi zq27 ?_ | refine rdi bneq ?_ | refine rdi beql ?_ | refine rdi zq29 ?_ | refine rdi zq30 ?_ | refine rdi zq21 ?_ | refine rdi zq22 ?_ | refine rdi zq23 ?_ | refine rdi zq24 ?_ | refine rdi zq25 ?_ | refine rdi zq26 ?_ | refine rdi len27 ?_ | refine rdi len35 ?_)
  refine zdd_ (gvK (H.get 3 rfl)) fun w11 g => ?_
  have H := H.step g
  refine ⟨H.get 10 rfl, ?_⟩
  repeat (first | refine rdi zjb_ ?_ | refine rdi zgb_ ?_ | refine rdi zkb_ ?_ | refine rdi zhb_ ?_ | refine rdi zq1 ?_ | refine rdi zq2 ?_ | refine rdi zq13 ?_ | refine rdi zq14 ?_ | refine rdi zq16 ?_ | refine rdi zq15 ?_ | refine rdi zq17 ?_ | refine rdi zq4 ?_ | refine rdi zq3 ?_ | refine rdi zq27 ?_ | refine rdi bneq ?_ | refine rdi beql ?_ | refine rdi zq29 ?_ | refine rdi zq30 ?_ | refine rdi zq21 ?_ | refine rdi zq22 ?_ | refine rdi zq23 ?_ | refine rdi zq24 ?_ | refine rdi zq25 ?_ | refine rdi zq26 ?_ | refine rdi len27 ?_ | refine rdi len35 ?_)
  refine rdi (zad_ rfl fun w' h => B1.gr h) ?_
  repeat (first | refine rdi zjb_ ?_ | refine rdi zgb_ ?_ | refine rdi zkb_ ?_ | refine rdi zhb_ ?_ | refine rdi zq1 ?_ | refine rdi zq2 ?_ | refine rdi zq13 ?_ | refine rdi zq14 ?_ | refine rdi zq16 ?_ | refine rdi zq15 ?_ | refine rdi zq17 ?_ | refine rdi zq4 ?_ | refine rdi zq3 ?_ | refine rdi zq27 ?_ | refine rdi bneq ?_ | refine rdi beql ?_ | refine rdi zq29 ?_ | refine rdi zq30 ?_ | refine rdi zq21 ?_ | refine rdi zq22 ?_ | refine rdi zq23 ?_ | refine rdi zq24 ?_ | refine rdi zq25 ?_ | refine rdi zq26 ?_ | refine rdi len27 ?_ | refine rdi len35 ?_)
  refine rdi (zad_ rfl fun w' h => B1.gr h) ?_
  repeat (first | refine rdi zjb_ ?_ | refine rdi zgb_ ?_ | refine rdi zkb_ ?_ | refine rdi zhb_ ?_ | refine rdi zq1 ?_ | refine rdi zq2 ?_ | refine rdi zq13 ?_ | refine rdi zq14 ?_ | refine rdi zq16 ?_ | refine rdi zq15 ?_ | refine rdi zq17 ?_ | refine rdi zq4 ?_ | refine rdi zq3 ?_ | refine rdi zq27 ?_ | refine rdi bneq ?_ | refine rdi beql ?_ | refine rdi zq29 ?_ | refine rdi zq30 ?_ | refine rdi zq21 ?_ | refine rdi zq22 ?_ | refine rdi zq23 ?_ | refine rdi zq24 ?_ | refine rdi zq25 ?_ | refine rdi zq26 ?_ | refine rdi len27 ?_ | refine rdi len35 ?_)
  refine zbi_ (H.get 3 rfl) (H.get 4 rfl) fun w12 g => ?_
  have H := H.step g
  refine ⟨H.get 10 rfl, ?_⟩
  repeat (first | refine rdi zjb_ ?_ | refine rdi zgb_ ?_ | refine rdi zkb_ ?_ | refine rdi zhb_ ?_ | refine rdi zq1 ?_ | refine rdi zq2 ?_ | refine rdi zq13 ?_ | refine rdi zq14 ?_ | refine rdi zq16 ?_ | refine rdi zq15 ?_ | refine rdi zq17 ?_ | refine rdi zq4 ?_ | refine rdi zq3 ?_ | refine rdi zq27 ?_ | refine rdi bneq ?_ | refine rdi beql ?_ | refine rdi zq29 ?_ | refine rdi zq30 ?_ | refine rdi zq21 ?_ | refine rdi zq22 ?_ | refine rdi zq23 ?_ | refine rdi zq24 ?_ | refine rdi zq25 ?_ | refine rdi zq26 ?_ | refine rdi len27 ?_ | refine rdi len35 ?_)
  refine goodWord_c (gvK (H.get 3 rfl)) (H.get 4 rfl).1 rfl fun w13 g => ?_
  have H := H.step g
  refine ⟨H.get 10 rfl, ?_⟩
  repeat (first | refine rdi zjb_ ?_ | refine rdi zgb_ ?_ | refine rdi zkb_ ?_ | refine rdi zhb_ ?_ | refine rdi zq1 ?_ | refine rdi zq2 ?_ | refine rdi zq13 ?_ | refine rdi zq14 ?_ | refine rdi zq16 ?_ | refine rdi zq15 ?_ | refine rdi zq17 ?_ | refine rdi zq4 ?_ | refine rdi zq3 ?_ | refine rdi zq27 ?_ | refine rdi bneq ?_ | refine rdi beql ?_ | refine rdi zq29 ?_ | refine rdi zq30 ?_ | refine rdi zq21 ?_ | refine rdi zq22 ?_ | refine rdi zq23 ?_ | refine rdi zq24 ?_ | refine rdi zq25 ?_ | refine rdi zq26 ?_ | refine rdi len27 ?_ | refine rdi len35 ?_)
  refine rdi (zad_ rfl fun w' h => B1.gr h) ?_
  repeat (first | refine rdi zjb_ ?_ | refine rdi zgb_ ?_ | refine rdi zkb_ ?_ | refine rdi zhb_ ?_ | refine rdi zq1 ?_ | refine rdi zq2 ?_ | refine rdi zq13 ?_ | refine rdi zq14 ?_ | refine rdi zq16 ?_ | refine rdi zq15 ?_ | refine rdi zq17 ?_ | refine rdi zq4 ?_ | refine rdi zq3 ?_ | refine rdi zq27 ?_ | refine rdi bneq ?_ | refine rdi beql ?_ | refine rdi zq29 ?_ | refine rdi zq30 ?_ | refine rdi zq21 ?_ | refine rdi zq22 ?_ | refine rdi zq23 ?_ | refine rdi zq24 ?_ | refine rdi zq25 ?_ | refine rdi zq26 ?_ | refine rdi len27 ?_ | refine rdi len35 ?_)
  refine zbi_ (H.get 3 rfl) (H.get 4 rfl) fun w14 g => ?_
  have H := H.step g
  rw [inLV_two hi]
  repeat (first | refine rdi zjb_ ?_ | refine rdi zgb_ ?_ | refine rdi zkb_ ?_ | refine rdi zhb_ ?_ | refine rdi zq1 ?_ | refine rdi zq2 ?_ | refine rdi zq13 ?_ | refine rdi zq14 ?_ | refine rdi zq16 ?_ | refine rdi zq15 ?_ | refine rdi zq17 ?_ | refine rdi zq4 ?_ | refine rdi zq3 ?_ | refine rdi zq27 ?_ | refine rdi bneq ?_ | refine rdi beql ?_ | refine rdi zq29 ?_ | refine rdi zq30 ?_ | refine rdi zq21 ?_ | refine rdi zq22 ?_ | refine rdi zq23 ?_ | refine rdi zq24 ?_ | refine rdi zq25 ?_ | refine rdi zq26 ?_ | refine rdi len27 ?_ | refine rdi len35 ?_)
  have H := H.add (P := fun w' => Gr w14 w') fun w' g => g
  simp only [List.cons_append, List.nil_append] at H
  refine zmd_ (fun f w' => f 1 = .slice D es.length cap' ∧ Gr w14 w') (fun K hK => ?_) ?_
  · cases one
    · repeat (first | refine rdi zjb_ ?_ | refine rdi zgb_ ?_ | refine rdi zkb_ ?_ | refine rdi zhb_ ?_ | refine rdi zq1 ?_ | refine rdi zq2 ?_ | refine rdi zq13 ?_ | refine rdi zq14 ?_ | refine rdi zq16 ?_ | refine rdi zq15 ?_ | refine rdi zq17 ?_ | refine rdi zq4 ?_ | refine rdi zq3 ?_ | refine rdi zq27 ?_ | refine rdi bneq ?_ | refine rdi beql ?_ | refine rdi zq29 ?_ | refine rdi zq30 ?_ | refine rdi zq21 ?_ | refine rdi zq22 ?_ | refine rdi zq23 ?_ | refine rdi zq24 ?_ | refine rdi zq25 ?_ | refine rdi zq26 ?_ | refine rdi len27 ?_ | refine rdi len35 ?_)
      exact hK _ _ ⟨rfl, H.get 11 rfl⟩
    repeat (first | refine rdi zjb_ ?_ | refine rdi zgb_ ?_ | refine rdi zkb_ ?_ | refine rdi zhb_ ?_ | refine rdi zq1 ?_ | refine rdi zq2 ?_ | refine rdi zq13 ?_ | refine rdi zq14 ?_ | refine rdi zq16 ?_ | refine rdi zq15 ?_ | refine rdi zq17 ?_ | refine rdi zq4 ?_ | refine rdi zq3 ?_ | refine rdi zq27 ?_ | refine rdi bneq ?_ | refine rdi beql ?_ | refine rdi zq29 ?_ | refine rdi zq30 ?_ | refine rdi zq21 ?_ | refine rdi zq22 ?_ | refine rdi zq23 ?_ | refine rdi zq24 ?_ | refine rdi zq25 ?_ | refine rdi zq26 ?_ | refine rdi len27 ?_ | refine rdi len35 ?_)
    obtain ⟨hg, hw⟩ := wordG_parts (inLV_two hi)
    have hrg := (zdp_ hg).symm.trans hr
    injection hrg with hrg hok
    subst hrg hok
    have hl : ws.length ≤ 10 := by
      simp only [zxd_, Bool.and_eq_true, decide_eq_true_eq] at hw
      exact hw.1
    have H := H.drew
    have H := H.add (P := fun w' => Gr w14.drew w') fun w' g => g
    simp only [List.cons_append, List.nil_append] at H
    have B2 := H.get 7 rfl
    refine ⟨fun w' => Gr w14.drew w', Gr.refl _, ?_⟩
    refine rdi (zad_ rfl fun w' h => B2.gr h) ?_
    refine turned_c (H.get 4 rfl).1 rfl (by omega) fun w15 U d5 g o => ?_
    have H := (H.step g).addI o.ints (Row.cap o).1
    simp only [List.cons_append, List.nil_append] at H
    refine ⟨H.get 12 rfl, ?_⟩
    rw [show ws.length = ws.reverse.length from by simp]
    refine zji_ ((inLV_rev hg hw).trans hi) (H.get 6 rfl) (H.get 13 rfl) fun w16 g => ?_
    have H := H.step g
    refine rdi zq1 (rdi zq2 ?_)
    rw [zj_ zu_ sz26 rfl (H.get 7 rfl)]
    refine zyp_ (revOf_rev hg) (H.get 6 rfl) fun w17 Z3 d3 g o => ?_
    have H := (H.step g).addG o.1 o.2
    simp only [List.cons_append, List.nil_append] at H
    refine rdi zq1 (rdi zq2 ?_)
    refine newG H fun b4 w18 H => ?_
    simp only [List.cons_append, List.nil_append] at H
    have hs : zre_ gm = (((sizeR gm.rules : Nat) : Int), true) := by
      unfold zre_
      rw [if_pos hg]
    rw [zj_ zu_ sz26 rfl (H.get 5 rfl)]
    refine zyk_ hs (H.get 3 rfl) fun w19 g => ?_
    have H := H.step g
    refine rdi zq1 (rdi zq2 ?_)
    rw [zj_ zu_ sz26 rfl (H.get 7 rfl)]
    refine zyk_ ((size_rev hg).trans hs) (H.get 6 rfl) fun w20 g => ?_
    have H := H.step g
    repeat (first | refine rdi zjb_ ?_ | refine rdi zgb_ ?_ | refine rdi zkb_ ?_ | refine rdi zhb_ ?_ | refine rdi zq1 ?_ | refine rdi zq2 ?_ | refine rdi zq13 ?_ | refine rdi zq14 ?_ | refine rdi zq16 ?_ | refine rdi zq15 ?_ | refine rdi zq17 ?_ | refine rdi zq4 ?_ | refine rdi zq3 ?_ | refine rdi zq27 ?_ | refine rdi bneq ?_ | refine rdi beql ?_ | refine rdi zq29 ?_ | refine rdi zq30 ?_ | refine rdi zq21 ?_ | refine rdi zq22 ?_ | refine rdi zq23 ?_ | refine rdi zq24 ?_ | refine rdi zq25 ?_ | refine rdi zq26 ?_ | refine rdi len27 ?_ | refine rdi len35 ?_)
    rw [zj_ zu_ sz26 rfl (H.get 15 rfl)]
    repeat (first | refine rdi zjb_ ?_ | refine rdi zgb_ ?_ | refine rdi zkb_ ?_ | refine rdi zhb_ ?_ | refine rdi zq1 ?_ | refine rdi zq2 ?_ | refine rdi zq13 ?_ | refine rdi zq14 ?_ | refine rdi zq16 ?_ | refine rdi zq15 ?_ | refine rdi zq17 ?_ | refine rdi zq4 ?_ | refine rdi zq3 ?_ | refine rdi zq27 ?_ | refine rdi bneq ?_ | refine rdi beql ?_ | refine rdi zq29 ?_ | refine rdi zq30 ?_ | refine rdi zq21 ?_ | refine rdi zq22 ?_ | refine rdi zq23 ?_ | refine rdi zq24 ?_ | refine rdi zq25 ?_ | refine rdi zq26 ?_ | refine rdi len27 ?_ | refine rdi len35 ?_)
    rw [zj_ zu_ sz26 rfl (H.get 5 rfl)]
    repeat (first | refine rdi zjb_ ?_ | refine rdi zgb_ ?_ | refine rdi zkb_ ?_ | refine rdi zhb_ ?_ | refine rdi zq1 ?_ | refine rdi zq2 ?_ | refine rdi zq13 ?_ | refine rdi zq14 ?_ | refine rdi zq16 ?_ | refine rdi zq15 ?_ | refine rdi zq17 ?_ | refine rdi zq4 ?_ | refine rdi zq3 ?_ | refine rdi zq27 ?_ | refine rdi bneq ?_ | refine rdi beql ?_ | refine rdi zq29 ?_ | refine rdi zq30 ?_ | refine rdi zq21 ?_ | refine rdi zq22 ?_ | refine rdi zq23 ?_ | refine rdi zq24 ?_ | refine rdi zq25 ?_ | refine rdi zq26 ?_ | refine rdi len27 ?_ | refine rdi len35 ?_)
    refine zmf_ (H.get 14 rfl) (H.get 3 rfl) fun w21 g => ?_
    have H := H.step g
    rw [decide_eq_true rfl]
    repeat (first | refine rdi zjb_ ?_ | refine rdi zgb_ ?_ | refine rdi zkb_ ?_ | refine rdi zhb_ ?_ | refine rdi zq1 ?_ | refine rdi zq2 ?_ | refine rdi zq13 ?_ | refine rdi zq14 ?_ | refine rdi zq16 ?_ | refine rdi zq15 ?_ | refine rdi zq17 ?_ | refine rdi zq4 ?_ | refine rdi zq3 ?_ | refine rdi zq27 ?_ | refine rdi bneq ?_ | refine rdi beql ?_ | refine rdi zq29 ?_ | refine rdi zq30 ?_ | refine rdi zq21 ?_ | refine rdi zq22 ?_ | refine rdi zq23 ?_ | refine rdi zq24 ?_ | refine rdi zq25 ?_ | refine rdi zq26 ?_ | refine rdi len27 ?_ | refine rdi len35 ?_)
    exact hK _ _ ⟨rfl, H.get 11 rfl⟩
  clear hr hi B1 B2 B3
  rintro f w20 ⟨f1, g⟩
  have H := H.step g
  simp only [f1]
  refine zxk_ (H.get 2 rfl) fun w21 gm2 Y2 cy2 V cv to g hG2 hV hto => ?_
  have H := ((H.step g).addG hG2.1 hG2.2).addI hV.1 hV.2
  simp only [List.cons_append, List.nil_append] at H
  refine rdi zq1 (rdi zq2 ?_)
  refine newG H fun b4 w22 H => ?_
  simp only [List.cons_append, List.nil_append] at H
  rcases hrn : renV gm2 to with ⟨x, two⟩
  rw [zj_ zu_ sz26 rfl (H.get 14 rfl)]
  refine implRen_n hrn (H.get 12 rfl) (H.get 13 rfl) hto fun w23 Z3 d3 g o => ?_
  have H := (H.step g).addG o.1 o.2
  simp only [List.cons_append, List.nil_append] at H
  refine rdi zq1 (rdi zq2 ?_)
  refine newG H fun b5 w24 H => ?_
  simp only [List.cons_append, List.nil_append] at H
  rw [zj_ zu_ sz26 rfl (H.get 14 rfl)]
  refine specRen_n hrn (H.get 12 rfl) (H.get 13 rfl) hto fun w25 Z4 d4 g o => ?_
  have H := (H.step g).addG o.1 o.2
  simp only [List.cons_append, List.nil_append] at H
  refine rdi zq1 (rdi zq2 ?_)
  refine newG H fun b6 w26 H => ?_
  simp only [List.cons_append, List.nil_append] at H
  repeat (first | refine rdi zjb_ ?_ | refine rdi zgb_ ?_ | refine rdi zkb_ ?_ | refine rdi zhb_ ?_ | refine rdi zq1 ?_ | refine rdi zq2 ?_ | refine rdi zq13 ?_ | refine rdi zq14 ?_ | refine rdi zq16 ?_ | refine rdi zq15 ?_ | refine rdi zq17 ?_ | refine rdi zq4 ?_ | refine rdi zq3 ?_ | refine rdi zq27 ?_ | refine rdi bneq ?_ | refine rdi beql ?_ | refine rdi zq29 ?_ | refine rdi zq30 ?_ | refine rdi zq21 ?_ | refine rdi zq22 ?_ | refine rdi zq23 ?_ | refine rdi zq24 ?_ | refine rdi zq25 ?_ | refine rdi zq26 ?_ | refine rdi len27 ?_ | refine rdi len35 ?_)
  rw [zj_ zu_ sz26 rfl (H.get 16 rfl)]
  repeat (first | refine rdi zjb_ ?_ | refine rdi zgb_ ?_ | refine rdi zkb_ ?_ | refine rdi zhb_ ?_ | refine rdi zq1 ?_ | refine rdi zq2 ?_ | refine rdi zq13 ?_ | refine rdi zq14 ?_ | refine rdi zq16 ?_ | refine rdi zq15 ?_ | refine rdi zq17 ?_ | refine rdi zq4 ?_ | refine rdi zq3 ?_ | refine rdi zq27 ?_ | refine rdi bneq ?_ | refine rdi beql ?_ | refine rdi zq29 ?_ | refine rdi zq30 ?_ | refine rdi zq21 ?_ | refine rdi zq22 ?_ | refine rdi zq23 ?_ | refine rdi zq24 ?_ | refine rdi zq25 ?_ | refine rdi zq26 ?_ | refine rdi len27 ?_ | refine rdi len35 ?_)
  rw [zj_ zu_ sz26 rfl (H.get 18 rfl)]
  repeat (first | refine rdi zjb_ ?_ | refine rdi zgb_ ?_ | refine rdi zkb_ ?_ | refine rdi zhb_ ?_ | refine rdi zq1 ?_ | refine rdi zq2 ?_ | refine rdi zq13 ?_ | refine rdi zq14 ?_ | refine rdi zq16 ?_ | refine rdi zq15 ?_ | refine rdi zq17 ?_ | refine rdi zq4 ?_ | refine rdi zq3 ?_ | refine rdi zq27 ?_ | refine rdi bneq ?_ | refine rdi beql ?_ | refine rdi zq29 ?_ | refine rdi zq30 ?_ | refine rdi zq21 ?_ | refine rdi zq22 ?_ | refine rdi zq23 ?_ | refine rdi zq24 ?_ | refine rdi zq25 ?_ | refine rdi zq26 ?_ | refine rdi len27 ?_ | refine rdi len35 ?_)
  refine zpf_ (H.get 15 rfl) (H.get 17 rfl) fun w27 g => ?_
  have H := H.step g
  rw [decide_eq_true rfl]
  repeat (first | refine rdi zjb_ ?_ | refine rdi zgb_ ?_ | refine rdi zkb_ ?_ | refine rdi zhb_ ?_ | refine rdi zq1 ?_ | refine rdi zq2 ?_ | refine rdi zq13 ?_ | refine rdi zq14 ?_ | refine rdi zq16 ?_ | refine rdi zq15 ?_ | refine rdi zq17 ?_ | refine rdi zq4 ?_ | refine rdi zq3 ?_ | refine rdi zq27 ?_ | refine rdi bneq ?_ | refine rdi beql ?_ | refine rdi zq29 ?_ | refine rdi zq30 ?_ | refine rdi zq21 ?_ | refine rdi zq22 ?_ | refine rdi zq23 ?_ | refine rdi zq24 ?_ | refine rdi zq25 ?_ | refine rdi zq26 ?_ | refine rdi len27 ?_ | refine rdi len35 ?_)
  have H := H.add (P := fun w' => Gr w27 w') fun w' g => g
  simp only [List.cons_append, List.nil_append] at H
  refine zmd_ (fun f w' => f 1 = .slice D es.length cap' ∧ Gr w27 w') (fun K hK => ?_) ?_
  · cases two
    · repeat (first | refine rdi zjb_ ?_ | refine rdi zgb_ ?_ | refine rdi zkb_ ?_ | refine rdi zhb_ ?_ | refine rdi zq1 ?_ | refine rdi zq2 ?_ | refine rdi zq13 ?_ | refine rdi zq14 ?_ | refine rdi zq16 ?_ | refine rdi zq15 ?_ | refine rdi zq17 ?_ | refine rdi zq4 ?_ | refine rdi zq3 ?_ | refine rdi zq27 ?_ | refine rdi bneq ?_ | refine rdi beql ?_ | refine rdi zq29 ?_ | refine rdi zq30 ?_ | refine rdi zq21 ?_ | refine rdi zq22 ?_ | refine rdi zq23 ?_ | refine rdi zq24 ?_ | refine rdi zq25 ?_ | refine rdi zq26 ?_ | refine rdi len27 ?_ | refine rdi len35 ?_)
      exact hK _ _ ⟨f1, H.get 19 rfl⟩
    repeat (first | refine rdi zjb_ ?_ | refine rdi zgb_ ?_ | refine rdi zkb_ ?_ | refine rdi zhb_ ?_ | refine rdi zq1 ?_ | refine rdi zq2 ?_ | refine rdi zq13 ?_ | refine rdi zq14 ?_ | refine rdi zq16 ?_ | refine rdi zq15 ?_ | refine rdi zq17 ?_ | refine rdi zq4 ?_ | refine rdi zq3 ?_ | refine rdi zq27 ?_ | refine rdi bneq ?_ | refine rdi beql ?_ | refine rdi zq29 ?_ | refine rdi zq30 ?_ | refine rdi zq21 ?_ | refine rdi zq22 ?_ | refine rdi zq23 ?_ | refine rdi zq24 ?_ | refine rdi zq25 ?_ | refine rdi zq26 ?_ | refine rdi len27 ?_ | refine rdi len35 ?_)
    have hgp : (zv_ gm2 && zgc_ gm2 to) = true := by
      unfold renV at hrn
      split at hrn
      · assumption
      · have := (Prod.mk.inj hrn).2
        cases this
    obtain ⟨hg2, hp2⟩ := (Bool.and_eq_true _ _).mp hgp
    have hx : x = renG gm2 to := by
      unfold renV at hrn
      rw [if_pos hgp] at hrn
      exact (Prod.mk.inj hrn).1.symm
    subst hx
    obtain ⟨b, i1, i2⟩ := inLV_ren hg2 hp2
    refine bs27 [.int .i64 0, .int .i64 0] (by decide) (by simp [Instr.fill, madeCells, Value.cells, rng2]) rfl fun b9 w28 hb9 hb9' g9 hbox9 hrow9 => ?_
    have o9 : Own 3 w28 w27.heap.size (some ⟨b9, 0, none⟩) 2 [0, 0] := hrow9 _ (Nat.le_refl _)
    have H := (H.step g9).addI o9.ints (Row.cap o9).1
    simp only [List.cons_append, List.nil_append] at H
    rw [zj_ zu_ sz26 rfl (H.get 14 rfl)]
    refine zji_ (ws := [0, 0]) i2 (H.get 12 rfl) (H.get 20 rfl) fun w29 g => ?_
    have H := H.step g
    refine rdi zq1 (rdi zq2 ?_)
    rw [zj_ zu_ sz26 rfl (H.get 16 rfl)]
    refine zji_ (ws := [0, 0]) i1 (H.get 15 rfl) (H.get 20 rfl) fun w30 g => ?_
    have H := H.step g
    refine rdi zq1 (rdi zq2 ?_)
    repeat (first | refine rdi zjb_ ?_ | refine rdi zgb_ ?_ | refine rdi zkb_ ?_ | refine rdi zhb_ ?_ | refine rdi zq1 ?_ | refine rdi zq2 ?_ | refine rdi zq13 ?_ | refine rdi zq14 ?_ | refine rdi zq16 ?_ | refine rdi zq15 ?_ | refine rdi zq17 ?_ | refine rdi zq4 ?_ | refine rdi zq3 ?_ | refine rdi zq27 ?_ | refine rdi bneq ?_ | refine rdi beql ?_ | refine rdi zq29 ?_ | refine rdi zq30 ?_ | refine rdi zq21 ?_ | refine rdi zq22 ?_ | refine rdi zq23 ?_ | refine rdi zq24 ?_ | refine rdi zq25 ?_ | refine rdi zq26 ?_ | refine rdi len27 ?_ | refine rdi len35 ?_)
    exact hK _ _ ⟨f1, H.get 19 rfl⟩
  clear hrn
  rintro f w28 ⟨f1, g⟩
  have H := H.step g
  simp only [f1]
  refine zkj_ (H.get 2 rfl) fun w29 gm3 Y3 cy3 gm4 Y4 cy4 g hA hB => ?_
  have H := ((H.step g).addG hA.1 hA.2).addG hB.1 hB.2
  simp only [List.cons_append, List.nil_append] at H
  refine rdi zq1 (rdi zq2 ?_)
  refine newG2 H fun b7 b8 w30 H => ?_
  simp only [List.cons_append, List.nil_append] at H
  refine zdt_ (H.get 2 rfl) fun w31 gm5 Y5 cy5 g hG5 => ?_
  have H := (H.step g).addG hG5.1 hG5.2
  simp only [List.cons_append, List.nil_append] at H
  refine newG H fun b9 w32 H => ?_
  simp only [List.cons_append, List.nil_append] at H
  rcases hs : zre_ gm5 with ⟨sx, sb⟩
  rw [zj_ zu_ sz26 rfl (H.get 25 rfl)]
  refine zyk_ hs (H.get 24 rfl) fun w33 g => ?_
  have H := H.step g
  refine rdi zq1 (rdi zq2 ?_)
  rw [zj_ zu_ sz26 rfl (H.get 25 rfl)]
  refine specSz_n hs (H.get 24 rfl) fun w34 g => ?_
  have H := H.step g
  refine rdi zq1 (rdi zq2 ?_)
  refine zpr_ (H.get 2 rfl) fun w35 gm6 Y6 cy6 n6 g hG6 => ?_
  have H := (H.step g).addG hG6.1 hG6.2
  simp only [List.cons_append, List.nil_append] at H
  refine rdi zq1 (rdi zq2 ?_)
  refine newG H fun b10 w36 H => ?_
  simp only [List.cons_append, List.nil_append] at H
  rcases hu : zee_ gm6 n6 with ⟨l6, lb⟩
  rw [zj_ zu_ sz26 rfl (H.get 27 rfl)]
  refine implRu_n hu (H.get 26 rfl) fun w37 U6 d6 g o => ?_
  have H := (H.step g).add (P := fun w' => Ints w' U6 l6) fun w' g => o.gr g
  simp only [List.cons_append, List.nil_append] at H
  refine rdi zq1 (rdi zq2 ?_)
  rw [zj_ zu_ sz26 rfl (H.get 27 rfl)]
  refine specRu_n hu (H.get 26 rfl) fun w38 U7 d7 g o => ?_
  have H := (H.step g).add (P := fun w' => Ints w' U7 l6) fun w' g => o.gr g
  simp only [List.cons_append, List.nil_append] at H
  refine rdi zq1 (rdi zq2 ?_)
  refine zjj_ (H.get 2 rfl) fun w39 gm7 Y7 cy7 n7 g hG7 => ?_
  have H := (H.step g).addG hG7.1 hG7.2
  simp only [List.cons_append, List.nil_append] at H
  refine rdi zq1 (rdi zq2 ?_)
  refine newG H fun b11 w40 H => ?_
  simp only [List.cons_append, List.nil_append] at H
  rcases hw : zgd_ gm7 n7 with ⟨r7, wb⟩
  rw [zj_ zu_ sz26 rfl (H.get 31 rfl)]
  refine implWo_n hw (H.get 30 rfl) fun w41 Z7 e7 g o => ?_
  have H := (H.step g).addG o.1 o.2
  simp only [List.cons_append, List.nil_append] at H
  refine rdi zq1 (rdi zq2 ?_)
  refine newG H fun b12 w42 H => ?_
  simp only [List.cons_append, List.nil_append] at H
  rw [zj_ zu_ sz26 rfl (H.get 31 rfl)]
  refine specWo_n hw (H.get 30 rfl) fun w43 Z8 e8 g o => ?_
  have H := (H.step g).addG o.1 o.2
  simp only [List.cons_append, List.nil_append] at H
  refine rdi zq1 (rdi zq2 ?_)
  refine newG H fun b13 w44 H => ?_
  simp only [List.cons_append, List.nil_append] at H
  have H := H.drew
  have H := H.add (P := fun w' => Gr w44.drew w') fun w' g => g
  simp only [List.cons_append, List.nil_append] at H
  have B1 := H.get 22 rfl
  have B2 := H.get 23 rfl
  have B3 := H.get 33 rfl
  have B4 := H.get 35 rfl
  refine ⟨fun w' => Gr w44.drew w', Gr.refl _, ?_⟩
  refine rdi (zad_ rfl fun w' h => B1.gr h) (rdi (zad_ rfl fun w' h => B2.gr h) (rdi (zad_ rfl fun w' h => B1.gr h) (rdi (zad_ rfl fun w' h => B2.gr h) ?_)))
  refine zmf_ (H.get 20 rfl) (H.get 21 rfl) fun w45 g => ?_
  have H := H.step g
  refine ⟨H.get 36 rfl, ?_⟩
  refine zgj_ (H.get 20 rfl) (H.get 21 rfl) fun w46 g => ?_
  have H := H.step g
  refine ⟨H.get 36 rfl, ?_⟩
  repeat (first | refine rdi zjb_ ?_ | refine rdi zgb_ ?_ | refine rdi zkb_ ?_ | refine rdi zhb_ ?_ | refine rdi zq1 ?_ | refine rdi zq2 ?_ | refine rdi zq13 ?_ | refine rdi zq14 ?_ | refine rdi zq16 ?_ | refine rdi zq15 ?_ | refine rdi zq17 ?_ | refine rdi zq4 ?_ | refine rdi zq3 ?_ | refine rdi zq27 ?_ | refine rdi bneq ?_ | refine rdi beql ?_ | refine rdi zq29 ?_ | refine rdi zq30 ?_ | refine rdi zq21 ?_ | refine rdi zq22 ?_ | refine rdi zq23 ?_ | refine rdi zq24 ?_ | refine rdi zq25 ?_ | refine rdi zq26 ?_ | refine rdi len27 ?_ | refine rdi len35 ?_)
  refine rdi (zad_ rfl fun w' h => B1.gr h) ?_
  repeat (first | refine rdi zjb_ ?_ | refine rdi zgb_ ?_ | refine rdi zkb_ ?_ | refine rdi zhb_ ?_ | refine rdi zq1 ?_ | refine rdi zq2 ?_ | refine rdi zq13 ?_ | refine rdi zq14 ?_ | refine rdi zq16 ?_ | refine rdi zq15 ?_ | refine rdi zq17 ?_ | refine rdi zq4 ?_ | refine rdi zq3 ?_ | refine rdi zq27 ?_ | refine rdi bneq ?_ | refine rdi beql ?_ | refine rdi zq29 ?_ | refine rdi zq30 ?_ | refine rdi zq21 ?_ | refine rdi zq22 ?_ | refine rdi zq23 ?_ | refine rdi zq24 ?_ | refine rdi zq25 ?_ | refine rdi zq26 ?_ | refine rdi len27 ?_ | refine rdi len35 ?_)
  refine rdi (zad_ rfl fun w' h => B2.gr h) ?_
  repeat (first | refine rdi zjb_ ?_ | refine rdi zgb_ ?_ | refine rdi zkb_ ?_ | refine rdi zhb_ ?_ | refine rdi zq1 ?_ | refine rdi zq2 ?_ | refine rdi zq13 ?_ | refine rdi zq14 ?_ | refine rdi zq16 ?_ | refine rdi zq15 ?_ | refine rdi zq17 ?_ | refine rdi zq4 ?_ | refine rdi zq3 ?_ | refine rdi zq27 ?_ | refine rdi bneq ?_ | refine rdi beql ?_ | refine rdi zq29 ?_ | refine rdi zq30 ?_ | refine rdi zq21 ?_ | refine rdi zq22 ?_ | refine rdi zq23 ?_ | refine rdi zq24 ?_ | refine rdi zq25 ?_ | refine rdi zq26 ?_ | refine rdi len27 ?_ | refine rdi len35 ?_)
  refine rdi (zad_ rfl fun w' h => B1.gr h) ?_
  repeat (first | refine rdi zjb_ ?_ | refine rdi zgb_ ?_ | refine rdi zkb_ ?_ | refine rdi zhb_ ?_ | refine rdi zq1 ?_ | refine rdi zq2 ?_ | refine rdi zq13 ?_ | refine rdi zq14 ?_ | refine rdi zq16 ?_ | refine rdi zq15 ?_ | refine rdi zq17 ?_ | refine rdi zq4 ?_ | refine rdi zq3 ?_ | refine rdi zq27 ?_ | refine rdi bneq ?_ | refine rdi beql ?_ | refine rdi zq29 ?_ | refine rdi zq30 ?_ | refine rdi zq21 ?_ | refine rdi zq22 ?_ | refine rdi zq23 ?_ | refine rdi zq24 ?_ | refine rdi zq25 ?_ | refine rdi zq26 ?_ | refine rdi len27 ?_ | refine rdi len35 ?_)
  refine rdi (zad_ rfl fun w' h => B2.gr h) ?_
  repeat (first | refine rdi zjb_ ?_ | refine rdi zgb_ ?_ | refine rdi zkb_ ?_ | refine rdi zhb_ ?_ | refine rdi zq1 ?_ | refine rdi zq2 ?_ | refine rdi zq13 ?_ | refine rdi zq14 ?_ | refine rdi zq16 ?_ | refine rdi zq15 ?_ | refine rdi zq17 ?_ | refine rdi zq4 ?_ | refine rdi zq3 ?_ | refine rdi zq27 ?_ | refine rdi bneq ?_ | refine rdi beql ?_ | refine rdi zq29 ?_ | refine rdi zq30 ?_ | refine rdi zq21 ?_ | refine rdi zq22 ?_ | refine rdi zq23 ?_ | refine rdi zq24 ?_ | refine rdi zq25 ?_ | refine rdi zq26 ?_ | refine rdi len27 ?_ | refine rdi len35 ?_)
  refine zmf_ (H.get 20 rfl) (H.get 21 rfl) fun w47 g => ?_
  have H := H.step g
  refine ⟨H.get 36 rfl, ?_⟩
  repeat (first | refine rdi zjb_ ?_ | refine rdi zgb_ ?_ | refine rdi zkb_ ?_ | refine rdi zhb_ ?_ | refine rdi zq1 ?_ | refine rdi zq2 ?_ | refine rdi zq13 ?_ | refine rdi zq14 ?_ | refine rdi zq16 ?_ | refine rdi zq15 ?_ | refine rdi zq17 ?_ | refine rdi zq4 ?_ | refine rdi zq3 ?_ | refine rdi zq27 ?_ | refine rdi bneq ?_ | refine rdi beql ?_ | refine rdi zq29 ?_ | refine rdi zq30 ?_ | refine rdi zq21 ?_ | refine rdi zq22 ?_ | refine rdi zq23 ?_ | refine rdi zq24 ?_ | refine rdi zq25 ?_ | refine rdi zq26 ?_ | refine rdi len27 ?_ | refine rdi len35 ?_)
  refine zpf_ (H.get 20 rfl) (H.get 21 rfl) fun w48 g => ?_
  have H := H.step g
  refine ⟨H.get 36 rfl, ?_⟩
  repeat (first | refine rdi zjb_ ?_ | refine rdi zgb_ ?_ | refine rdi zkb_ ?_ | refine rdi zhb_ ?_ | refine rdi zq1 ?_ | refine rdi zq2 ?_ | refine rdi zq13 ?_ | refine rdi zq14 ?_ | refine rdi zq16 ?_ | refine rdi zq15 ?_ | refine rdi zq17 ?_ | refine rdi zq4 ?_ | refine rdi zq3 ?_ | refine rdi zq27 ?_ | refine rdi bneq ?_ | refine rdi beql ?_ | refine rdi zq29 ?_ | refine rdi zq30 ?_ | refine rdi zq21 ?_ | refine rdi zq22 ?_ | refine rdi zq23 ?_ | refine rdi zq24 ?_ | refine rdi zq25 ?_ | refine rdi zq26 ?_ | refine rdi len27 ?_ | refine rdi len35 ?_)
  refine zvm_ (H.get 28 rfl) (H.get 29 rfl) fun w49 g => ?_
  have H := H.step g
  rw [decide_eq_true rfl]
  refine ⟨H.get 36 rfl, ?_⟩
  repeat (first | refine rdi zjb_ ?_ | refine rdi zgb_ ?_ | refine rdi zkb_ ?_ | refine rdi zhb_ ?_ | refine rdi zq1 ?_ | refine rdi zq2 ?_ | refine rdi zq13 ?_ | refine rdi zq14 ?_ | refine rdi zq16 ?_ | refine rdi zq15 ?_ | refine rdi zq17 ?_ | refine rdi zq4 ?_ | refine rdi zq3 ?_ | refine rdi zq27 ?_ | refine rdi bneq ?_ | refine rdi beql ?_ | refine rdi zq29 ?_ | refine rdi zq30 ?_ | refine rdi zq21 ?_ | refine rdi zq22 ?_ | refine rdi zq23 ?_ | refine rdi zq24 ?_ | refine rdi zq25 ?_ | refine rdi zq26 ?_ | refine rdi len27 ?_ | refine rdi len35 ?_)
  refine rdi (zad_ rfl fun w' h => B3.gr h) ?_
  repeat (first | refine rdi zjb_ ?_ | refine rdi zgb_ ?_ | refine rdi zkb_ ?_ | refine rdi zhb_ ?_ | refine rdi zq1 ?_ | refine rdi zq2 ?_ | refine rdi zq13 ?_ | refine rdi zq14 ?_ | refine rdi zq16 ?_ | refine rdi zq15 ?_ | refine rdi zq17 ?_ | refine rdi zq4 ?_ | refine rdi zq3 ?_ | refine rdi zq27 ?_ | refine rdi bneq ?_ | refine rdi beql ?_ | refine rdi zq29 ?_ | refine rdi zq30 ?_ | refine rdi zq21 ?_ | refine rdi zq22 ?_ | refine rdi zq23 ?_ | refine rdi zq24 ?_ | refine rdi zq25 ?_ | refine rdi zq26 ?_ | refine rdi len27 ?_ | refine rdi len35 ?_)
  refine rdi (zad_ rfl fun w' h => B4.gr h) ?_
  repeat (first | refine rdi zjb_ ?_ | refine rdi zgb_ ?_ | refine rdi zkb_ ?_ | refine rdi zhb_ ?_ | refine rdi zq1 ?_ | refine rdi zq2 ?_ | refine rdi zq13 ?_ | refine rdi zq14 ?_ | refine rdi zq16 ?_ | refine rdi zq15 ?_ | refine rdi zq17 ?_ | refine rdi zq4 ?_ | refine rdi zq3 ?_ | refine rdi zq27 ?_ | refine rdi bneq ?_ | refine rdi beql ?_ | refine rdi zq29 ?_ | refine rdi zq30 ?_ | refine rdi zq21 ?_ | refine rdi zq22 ?_ | refine rdi zq23 ?_ | refine rdi zq24 ?_ | refine rdi zq25 ?_ | refine rdi zq26 ?_ | refine rdi len27 ?_ | refine rdi len35 ?_)
  refine zpf_ (H.get 32 rfl) (H.get 34 rfl) fun w50 g => ?_
  have H := H.step g
  rw [decide_eq_true rfl]
  repeat (first | refine rdi zjb_ ?_ | refine rdi zgb_ ?_ | refine rdi zkb_ ?_ | refine rdi zhb_ ?_ | refine rdi zq1 ?_ | refine rdi zq2 ?_ | refine rdi zq13 ?_ | refine rdi zq14 ?_ | refine rdi zq16 ?_ | refine rdi zq15 ?_ | refine rdi zq17 ?_ | refine rdi zq4 ?_ | refine rdi zq3 ?_ | refine rdi zq27 ?_ | refine rdi bneq ?_ | refine rdi beql ?_ | refine rdi zq29 ?_ | refine rdi zq30 ?_ | refine rdi zq21 ?_ | refine rdi zq22 ?_ | refine rdi zq23 ?_ | refine rdi zq24 ?_ | refine rdi zq25 ?_ | refine rdi zq26 ?_ | refine rdi len27 ?_ | refine rdi len35 ?_)
  exact hk _ (H.get 0 rfl)
open Go
theorem make_of {P : Program} {W : List (List Char)} {c : List Char} {rest : List (List Char)} (h : behindMainWord (wordsSigns P.initOrder.toList) = W) (hW : W = c :: rest) (hc : (c == "gc".toList || c == "spec".toList) = false) (h2 : (c == "cut".toList) = true) : P.make = some .cut := by
  unfold Program.make
  rw [h, hW]
  dsimp only
  rw [if_neg (by rw [hc]; exact Bool.false_ne_true), if_pos (by rw [h2]; rfl)]
theorem lifts_of {P : Program} {W : List (List Char)} (h : behindMainWord (wordsSigns P.initOrder.toList) = W) (h1 : (W.head? == some "carried".toList) = false) (h2 : (stripLifts liftWords W).1.contains "finals" = false) : P.liftsFinal = false := by
  unfold Program.liftsFinal Program.headLifts
  rw [h]
  simp only [h1, Bool.false_and, Bool.false_or]
  split
  · exact h2
  · rfl
theorem may_of {P : Program} {W : List (List Char)} {c : List Char} {rest : List (List Char)} {l : List String} (h : behindMainWord (wordsSigns P.initOrder.toList) = W) (hW : W = c :: rest) (hl : P.laysLater = false) (hb : P.bearsReflect = false) (hs : stripLifts liftWords (c :: rest) = (l, c :: rest)) (h2 : (c == "cut".toList) = true) (h3 : l.contains "leanrows" = false) (hd : P.doorFits l = true) : P.mayEnter = true := by
  unfold Program.mayEnter
  rw [h, hW]
  have h4 : (some c == some "cut".toList) = true := h2
  simp only [hs, hl, hb, h3, hd, h4, List.head?_cons, Bool.not_false, Bool.and_true, Bool.or_true]
def signs : List Char := Char.ofNat 104 :: Char.ofNat 97 :: Char.ofNat 114 :: Char.ofNat 110 :: Char.ofNat 101 :: Char.ofNat 115 :: Char.ofNat 115 :: Char.ofNat 32 :: Char.ofNat 54 :: Char.ofNat 56 :: Char.ofNat 98 :: Char.ofNat 99 :: Char.ofNat 101 :: Char.ofNat 53 :: Char.ofNat 101 :: Char.ofNat 51 :: Char.ofNat 48 :: Char.ofNat 98 :: Char.ofNat 99 :: Char.ofNat 100 :: Char.ofNat 53 :: Char.ofNat 48 :: Char.ofNat 57 :: Char.ofNat 53 :: Char.ofNat 50 :: Char.ofNat 99 :: Char.ofNat 57 :: Char.ofNat 55 :: Char.ofNat 55 :: Char.ofNat 51 :: Char.ofNat 57 :: Char.ofNat 97 :: Char.ofNat 99 :: Char.ofNat 97 :: Char.ofNat 98 :: Char.ofNat 101 :: Char.ofNat 102 :: Char.ofNat 48 :: Char.ofNat 52 :: Char.ofNat 57 :: Char.ofNat 51 :: Char.ofNat 48 :: Char.ofNat 48 :: Char.ofNat 48 :: Char.ofNat 56 :: Char.ofNat 52 :: Char.ofNat 101 :: Char.ofNat 101 :: Char.ofNat 57 :: Char.ofNat 53 :: Char.ofNat 57 :: Char.ofNat 50 :: Char.ofNat 101 :: Char.ofNat 52 :: Char.ofNat 50 :: Char.ofNat 50 :: Char.ofNat 48 :: Char.ofNat 98 :: Char.ofNat 48 :: Char.ofNat 51 :: Char.ofNat 100 :: Char.ofNat 98 :: Char.ofNat 56 :: Char.ofNat 101 :: Char.ofNat 54 :: Char.ofNat 52 :: Char.ofNat 99 :: Char.ofNat 98 :: Char.ofNat 53 :: Char.ofNat 55 :: Char.ofNat 49 :: Char.ofNat 98 :: Char.ofNat 32 :: Char.ofNat 99 :: Char.ofNat 117 :: Char.ofNat 116 :: Char.ofNat 32 :: Char.ofNat 97 :: Char.ofNat 116 :: Char.ofNat 32 :: Char.ofNat 108 :: Char.ofNat 111 :: Char.ofNat 111 :: Char.ofNat 112 :: Char.ofNat 46 :: Char.ofNat 101 :: Char.ofNat 120 :: Char.ofNat 97 :: Char.ofNat 109 :: Char.ofNat 112 :: Char.ofNat 108 :: Char.ofNat 101 :: Char.ofNat 47 :: Char.ofNat 103 :: Char.ofNat 48 :: Char.ofNat 48 :: Char.ofNat 55 :: Char.ofNat 53 :: Char.ofNat 56 :: Char.ofNat 47 :: Char.ofNat 108 :: Char.ofNat 97 :: Char.ofNat 119 :: Char.ofNat 115 :: Char.ofNat 46 :: Char.ofNat 70 :: Char.ofNat 110 :: Char.ofNat 68 :: Char.ofNat 101 :: Char.ofNat 114 :: Char.ofNat 105 :: Char.ofNat 118 :: Char.ofNat 101 :: Char.ofNat 115 :: Char.ofNat 32 :: Char.ofNat 108 :: Char.ofNat 111 :: Char.ofNat 111 :: Char.ofNat 112 :: Char.ofNat 46 :: Char.ofNat 101 :: Char.ofNat 120 :: Char.ofNat 97 :: Char.ofNat 109 :: Char.ofNat 112 :: Char.ofNat 108 :: Char.ofNat 101 :: Char.ofNat 47 :: Char.ofNat 103 :: Char.ofNat 48 :: Char.ofNat 48 :: Char.ofNat 55 :: Char.ofNat 53 :: Char.ofNat 56 :: Char.ofNat 47 :: Char.ofNat 108 :: Char.ofNat 97 :: Char.ofNat 119 :: Char.ofNat 115 :: Char.ofNat 46 :: Char.ofNat 70 :: Char.ofNat 110 :: Char.ofNat 70 :: Char.ofNat 105 :: Char.ofNat 114 :: Char.ofNat 115 :: Char.ofNat 116 :: Char.ofNat 115 :: Char.ofNat 32 :: Char.ofNat 108 :: Char.ofNat 111 :: Char.ofNat 111 :: Char.ofNat 112 :: Char.ofNat 46 :: Char.ofNat 101 :: Char.ofNat 120 :: Char.ofNat 97 :: Char.ofNat 109 :: Char.ofNat 112 :: Char.ofNat 108 :: Char.ofNat 101 :: Char.ofNat 47 :: Char.ofNat 103 :: Char.ofNat 48 :: Char.ofNat 48 :: Char.ofNat 55 :: Char.ofNat 53 :: Char.ofNat 56 :: Char.ofNat 47 :: Char.ofNat 108 :: Char.ofNat 97 :: Char.ofNat 119 :: Char.ofNat 115 :: Char.ofNat 46 :: Char.ofNat 70 :: Char.ofNat 110 :: Char.ofNat 66 :: Char.ofNat 101 :: Char.ofNat 115 :: Char.ofNat 105 :: Char.ofNat 100 :: Char.ofNat 101 :: Char.ofNat 32 :: Char.ofNat 108 :: Char.ofNat 111 :: Char.ofNat 111 :: Char.ofNat 112 :: Char.ofNat 46 :: Char.ofNat 101 :: Char.ofNat 120 :: Char.ofNat 97 :: Char.ofNat 109 :: Char.ofNat 112 :: Char.ofNat 108 :: Char.ofNat 101 :: Char.ofNat 47 :: Char.ofNat 103 :: Char.ofNat 48 :: Char.ofNat 48 :: Char.ofNat 55 :: Char.ofNat 53 :: Char.ofNat 56 :: Char.ofNat 47 :: Char.ofNat 108 :: Char.ofNat 97 :: Char.ofNat 119 :: Char.ofNat 115 :: Char.ofNat 46 :: Char.ofNat 70 :: Char.ofNat 110 :: Char.ofNat 82 :: Char.ofNat 101 :: Char.ofNat 119 :: Char.ofNat 114 :: Char.ofNat 105 :: Char.ofNat 116 :: Char.ofNat 101 :: Char.ofNat 115 :: Char.ofNat 32 :: Char.ofNat 108 :: Char.ofNat 111 :: Char.ofNat 111 :: Char.ofNat 112 :: Char.ofNat 46 :: Char.ofNat 101 :: Char.ofNat 120 :: Char.ofNat 97 :: Char.ofNat 109 :: Char.ofNat 112 :: Char.ofNat 108 :: Char.ofNat 101 :: Char.ofNat 47 :: Char.ofNat 103 :: Char.ofNat 48 :: Char.ofNat 48 :: Char.ofNat 55 :: Char.ofNat 53 :: Char.ofNat 56 :: Char.ofNat 47 :: Char.ofNat 108 :: Char.ofNat 97 :: Char.ofNat 119 :: Char.ofNat 115 :: Char.ofNat 46 :: Char.ofNat 70 :: Char.ofNat 110 :: Char.ofNat 70 :: Char.ofNat 105 :: Char.ofNat 110 :: Char.ofNat 105 :: Char.ofNat 116 :: Char.ofNat 101 :: Char.ofNat 32 :: Char.ofNat 108 :: Char.ofNat 111 :: Char.ofNat 111 :: Char.ofNat 112 :: Char.ofNat 46 :: Char.ofNat 101 :: Char.ofNat 120 :: Char.ofNat 97 :: Char.ofNat 109 :: Char.ofNat 112 :: Char.ofNat 108 :: Char.ofNat 101 :: Char.ofNat 47 :: Char.ofNat 103 :: Char.ofNat 48 :: Char.ofNat 48 :: Char.ofNat 55 :: Char.ofNat 53 :: Char.ofNat 56 :: Char.ofNat 47 :: Char.ofNat 108 :: Char.ofNat 97 :: Char.ofNat 119 :: Char.ofNat 115 :: Char.ofNat 46 :: Char.ofNat 70 :: Char.ofNat 110 :: Char.ofNat 85 :: Char.ofNat 115 :: Char.ofNat 101 :: Char.ofNat 102 :: Char.ofNat 117 :: Char.ofNat 108 :: Char.ofNat 32 :: Char.ofNat 108 :: Char.ofNat 111 :: Char.ofNat 111 :: Char.ofNat 112 :: Char.ofNat 46 :: Char.ofNat 101 :: Char.ofNat 120 :: Char.ofNat 97 :: Char.ofNat 109 :: Char.ofNat 112 :: Char.ofNat 108 :: Char.ofNat 101 :: Char.ofNat 47 :: Char.ofNat 103 :: Char.ofNat 48 :: Char.ofNat 48 :: Char.ofNat 55 :: Char.ofNat 53 :: Char.ofNat 56 :: Char.ofNat 47 :: Char.ofNat 108 :: Char.ofNat 97 :: Char.ofNat 119 :: Char.ofNat 115 :: Char.ofNat 46 :: Char.ofNat 70 :: Char.ofNat 110 :: Char.ofNat 85 :: Char.ofNat 110 :: Char.ofNat 108 :: Char.ofNat 105 :: Char.ofNat 107 :: Char.ofNat 101 :: Char.ofNat 32 :: Char.ofNat 108 :: Char.ofNat 111 :: Char.ofNat 111 :: Char.ofNat 112 :: Char.ofNat 46 :: Char.ofNat 101 :: Char.ofNat 120 :: Char.ofNat 97 :: Char.ofNat 109 :: Char.ofNat 112 :: Char.ofNat 108 :: Char.ofNat 101 :: Char.ofNat 47 :: Char.ofNat 103 :: Char.ofNat 48 :: Char.ofNat 48 :: Char.ofNat 55 :: Char.ofNat 53 :: Char.ofNat 56 :: Char.ofNat 47 :: Char.ofNat 108 :: Char.ofNat 97 :: Char.ofNat 119 :: Char.ofNat 115 :: Char.ofNat 46 :: Char.ofNat 70 :: Char.ofNat 110 :: Char.ofNat 67 :: Char.ofNat 101 :: Char.ofNat 108 :: Char.ofNat 108 :: Char.ofNat 115 :: Char.ofNat 32 :: Char.ofNat 108 :: Char.ofNat 111 :: Char.ofNat 111 :: Char.ofNat 112 :: Char.ofNat 46 :: Char.ofNat 101 :: Char.ofNat 120 :: Char.ofNat 97 :: Char.ofNat 109 :: Char.ofNat 112 :: Char.ofNat 108 :: Char.ofNat 101 :: Char.ofNat 47 :: Char.ofNat 103 :: Char.ofNat 48 :: Char.ofNat 48 :: Char.ofNat 55 :: Char.ofNat 53 :: Char.ofNat 56 :: Char.ofNat 47 :: Char.ofNat 108 :: Char.ofNat 97 :: Char.ofNat 119 :: Char.ofNat 115 :: Char.ofNat 46 :: Char.ofNat 70 :: Char.ofNat 110 :: Char.ofNat 77 :: Char.ofNat 101 :: Char.ofNat 110 :: Char.ofNat 100 :: Char.ofNat 32 :: Char.ofNat 108 :: Char.ofNat 111 :: Char.ofNat 111 :: Char.ofNat 112 :: Char.ofNat 46 :: Char.ofNat 101 :: Char.ofNat 120 :: Char.ofNat 97 :: Char.ofNat 109 :: Char.ofNat 112 :: Char.ofNat 108 :: Char.ofNat 101 :: Char.ofNat 47 :: Char.ofNat 103 :: Char.ofNat 48 :: Char.ofNat 48 :: Char.ofNat 55 :: Char.ofNat 53 :: Char.ofNat 56 :: Char.ofNat 47 :: Char.ofNat 108 :: Char.ofNat 97 :: Char.ofNat 119 :: Char.ofNat 115 :: Char.ofNat 46 :: Char.ofNat 70 :: Char.ofNat 110 :: Char.ofNat 80 :: Char.ofNat 117 :: Char.ofNat 109 :: Char.ofNat 112 :: Char.ofNat 32 :: Char.ofNat 108 :: Char.ofNat 111 :: Char.ofNat 111 :: Char.ofNat 112 :: Char.ofNat 46 :: Char.ofNat 101 :: Char.ofNat 120 :: Char.ofNat 97 :: Char.ofNat 109 :: Char.ofNat 112 :: Char.ofNat 108 :: Char.ofNat 101 :: Char.ofNat 47 :: Char.ofNat 103 :: Char.ofNat 48 :: Char.ofNat 48 :: Char.ofNat 55 :: Char.ofNat 53 :: Char.ofNat 56 :: Char.ofNat 47 :: Char.ofNat 108 :: Char.ofNat 97 :: Char.ofNat 119 :: Char.ofNat 115 :: Char.ofNat 46 :: Char.ofNat 70 :: Char.ofNat 110 :: Char.ofNat 76 :: Char.ofNat 111 :: Char.ofNat 110 :: Char.ofNat 103 :: Char.ofNat 69 :: Char.ofNat 110 :: Char.ofNat 111 :: Char.ofNat 117 :: Char.ofNat 103 :: Char.ofNat 104 :: Char.ofNat 32 :: Char.ofNat 108 :: Char.ofNat 111 :: Char.ofNat 111 :: Char.ofNat 112 :: Char.ofNat 46 :: Char.ofNat 101 :: Char.ofNat 120 :: Char.ofNat 97 :: Char.ofNat 109 :: Char.ofNat 112 :: Char.ofNat 108 :: Char.ofNat 101 :: Char.ofNat 47 :: Char.ofNat 103 :: Char.ofNat 48 :: Char.ofNat 48 :: Char.ofNat 55 :: Char.ofNat 53 :: Char.ofNat 56 :: Char.ofNat 47 :: Char.ofNat 108 :: Char.ofNat 97 :: Char.ofNat 119 :: Char.ofNat 115 :: Char.ofNat 46 :: Char.ofNat 70 :: Char.ofNat 110 :: Char.ofNat 84 :: Char.ofNat 117 :: Char.ofNat 114 :: Char.ofNat 110 :: Char.ofNat 101 :: Char.ofNat 100 :: []
theorem io0 : Try.prog.initOrder = "harness 68bce5e30bcd50952c97739acabef049300084ee9592e4220b03db8e64cb571b cut at loop.example/g00758/laws.FnDerives loop.example/g00758/laws.FnFirsts loop.example/g00758/laws.FnBeside loop.example/g00758/laws.FnRewrites loop.example/g00758/laws.FnFinite loop.example/g00758/laws.FnUseful loop.example/g00758/laws.FnUnlike loop.example/g00758/laws.FnCells loop.example/g00758/laws.FnMend loop.example/g00758/laws.FnPump loop.example/g00758/laws.FnLongEnough loop.example/g00758/laws.FnTurned" := by kernel_rfl
theorem io1 : "harness 68bce5e30bcd50952c97739acabef049300084ee9592e4220b03db8e64cb571b cut at loop.example/g00758/laws.FnDerives loop.example/g00758/laws.FnFirsts loop.example/g00758/laws.FnBeside loop.example/g00758/laws.FnRewrites loop.example/g00758/laws.FnFinite loop.example/g00758/laws.FnUseful loop.example/g00758/laws.FnUnlike loop.example/g00758/laws.FnCells loop.example/g00758/laws.FnMend loop.example/g00758/laws.FnPump loop.example/g00758/laws.FnLongEnough loop.example/g00758/laws.FnTurned" = String.ofList (Char.ofNat 104 :: Char.ofNat 97 :: Char.ofNat 114 :: Char.ofNat 110 :: Char.ofNat 101 :: Char.ofNat 115 :: Char.ofNat 115 :: Char.ofNat 32 :: Char.ofNat 54 :: Char.ofNat 56 :: Char.ofNat 98 :: Char.ofNat 99 :: Char.ofNat 101 :: Char.ofNat 53 :: Char.ofNat 101 :: Char.ofNat 51 :: Char.ofNat 48 :: Char.ofNat 98 :: Char.ofNat 99 :: Char.ofNat 100 :: Char.ofNat 53 :: Char.ofNat 48 :: Char.ofNat 57 :: Char.ofNat 53 :: Char.ofNat 50 :: Char.ofNat 99 :: Char.ofNat 57 :: Char.ofNat 55 :: Char.ofNat 55 :: Char.ofNat 51 :: Char.ofNat 57 :: Char.ofNat 97 :: Char.ofNat 99 :: Char.ofNat 97 :: Char.ofNat 98 :: Char.ofNat 101 :: Char.ofNat 102 :: Char.ofNat 48 :: Char.ofNat 52 :: Char.ofNat 57 :: Char.ofNat 51 :: Char.ofNat 48 :: Char.ofNat 48 :: Char.ofNat 48 :: Char.ofNat 56 :: Char.ofNat 52 :: Char.ofNat 101 :: Char.ofNat 101 :: Char.ofNat 57 :: Char.ofNat 53 :: Char.ofNat 57 :: Char.ofNat 50 :: Char.ofNat 101 :: Char.ofNat 52 :: Char.ofNat 50 :: Char.ofNat 50 :: Char.ofNat 48 :: Char.ofNat 98 :: Char.ofNat 48 :: Char.ofNat 51 :: Char.ofNat 100 :: Char.ofNat 98 :: Char.ofNat 56 :: Char.ofNat 101 :: Char.ofNat 54 :: Char.ofNat 52 :: Char.ofNat 99 :: Char.ofNat 98 :: Char.ofNat 53 :: Char.ofNat 55 :: Char.ofNat 49 :: Char.ofNat 98 :: Char.ofNat 32 :: Char.ofNat 99 :: Char.ofNat 117 :: Char.ofNat 116 :: Char.ofNat 32 :: Char.ofNat 97 :: Char.ofNat 116 :: Char.ofNat 32 :: Char.ofNat 108 :: Char.ofNat 111 :: Char.ofNat 111 :: Char.ofNat 112 :: Char.ofNat 46 :: Char.ofNat 101 :: Char.ofNat 120 :: Char.ofNat 97 :: Char.ofNat 109 :: Char.ofNat 112 :: Char.ofNat 108 :: Char.ofNat 101 :: Char.ofNat 47 :: Char.ofNat 103 :: Char.ofNat 48 :: Char.ofNat 48 :: Char.ofNat 55 :: Char.ofNat 53 :: Char.ofNat 56 :: Char.ofNat 47 :: Char.ofNat 108 :: Char.ofNat 97 :: Char.ofNat 119 :: Char.ofNat 115 :: Char.ofNat 46 :: Char.ofNat 70 :: Char.ofNat 110 :: Char.ofNat 68 :: Char.ofNat 101 :: Char.ofNat 114 :: Char.ofNat 105 :: Char.ofNat 118 :: Char.ofNat 101 :: Char.ofNat 115 :: Char.ofNat 32 :: Char.ofNat 108 :: Char.ofNat 111 :: Char.ofNat 111 :: Char.ofNat 112 :: Char.ofNat 46 :: Char.ofNat 101 :: Char.ofNat 120 :: Char.ofNat 97 :: Char.ofNat 109 :: Char.ofNat 112 :: Char.ofNat 108 :: Char.ofNat 101 :: Char.ofNat 47 :: Char.ofNat 103 :: Char.ofNat 48 :: Char.ofNat 48 :: Char.ofNat 55 :: Char.ofNat 53 :: Char.ofNat 56 :: Char.ofNat 47 :: Char.ofNat 108 :: Char.ofNat 97 :: Char.ofNat 119 :: Char.ofNat 115 :: Char.ofNat 46 :: Char.ofNat 70 :: Char.ofNat 110 :: Char.ofNat 70 :: Char.ofNat 105 :: Char.ofNat 114 :: Char.ofNat 115 :: Char.ofNat 116 :: Char.ofNat 115 :: Char.ofNat 32 :: Char.ofNat 108 :: Char.ofNat 111 :: Char.ofNat 111 :: Char.ofNat 112 :: Char.ofNat 46 :: Char.ofNat 101 :: Char.ofNat 120 :: Char.ofNat 97 :: Char.ofNat 109 :: Char.ofNat 112 :: Char.ofNat 108 :: Char.ofNat 101 :: Char.ofNat 47 :: Char.ofNat 103 :: Char.ofNat 48 :: Char.ofNat 48 :: Char.ofNat 55 :: Char.ofNat 53 :: Char.ofNat 56 :: Char.ofNat 47 :: Char.ofNat 108 :: Char.ofNat 97 :: Char.ofNat 119 :: Char.ofNat 115 :: Char.ofNat 46 :: Char.ofNat 70 :: Char.ofNat 110 :: Char.ofNat 66 :: Char.ofNat 101 :: Char.ofNat 115 :: Char.ofNat 105 :: Char.ofNat 100 :: Char.ofNat 101 :: Char.ofNat 32 :: Char.ofNat 108 :: Char.ofNat 111 :: Char.ofNat 111 :: Char.ofNat 112 :: Char.ofNat 46 :: Char.ofNat 101 :: Char.ofNat 120 :: Char.ofNat 97 :: Char.ofNat 109 :: Char.ofNat 112 :: Char.ofNat 108 :: Char.ofNat 101 :: Char.ofNat 47 :: Char.ofNat 103 :: Char.ofNat 48 :: Char.ofNat 48 :: Char.ofNat 55 :: Char.ofNat 53 :: Char.ofNat 56 :: Char.ofNat 47 :: Char.ofNat 108 :: Char.ofNat 97 :: Char.ofNat 119 :: Char.ofNat 115 :: Char.ofNat 46 :: Char.ofNat 70 :: Char.ofNat 110 :: Char.ofNat 82 :: Char.ofNat 101 :: Char.ofNat 119 :: Char.ofNat 114 :: Char.ofNat 105 :: Char.ofNat 116 :: Char.ofNat 101 :: Char.ofNat 115 :: Char.ofNat 32 :: Char.ofNat 108 :: Char.ofNat 111 :: Char.ofNat 111 :: Char.ofNat 112 :: Char.ofNat 46 :: Char.ofNat 101 :: Char.ofNat 120 :: Char.ofNat 97 :: Char.ofNat 109 :: Char.ofNat 112 :: Char.ofNat 108 :: Char.ofNat 101 :: Char.ofNat 47 :: Char.ofNat 103 :: Char.ofNat 48 :: Char.ofNat 48 :: Char.ofNat 55 :: Char.ofNat 53 :: Char.ofNat 56 :: Char.ofNat 47 :: Char.ofNat 108 :: Char.ofNat 97 :: Char.ofNat 119 :: Char.ofNat 115 :: Char.ofNat 46 :: Char.ofNat 70 :: Char.ofNat 110 :: Char.ofNat 70 :: Char.ofNat 105 :: Char.ofNat 110 :: Char.ofNat 105 :: Char.ofNat 116 :: Char.ofNat 101 :: Char.ofNat 32 :: Char.ofNat 108 :: Char.ofNat 111 :: Char.ofNat 111 :: Char.ofNat 112 :: Char.ofNat 46 :: Char.ofNat 101 :: Char.ofNat 120 :: Char.ofNat 97 :: Char.ofNat 109 :: Char.ofNat 112 :: Char.ofNat 108 :: Char.ofNat 101 :: Char.ofNat 47 :: Char.ofNat 103 :: Char.ofNat 48 :: Char.ofNat 48 :: Char.ofNat 55 :: Char.ofNat 53 :: Char.ofNat 56 :: Char.ofNat 47 :: Char.ofNat 108 :: Char.ofNat 97 :: Char.ofNat 119 :: Char.ofNat 115 :: Char.ofNat 46 :: Char.ofNat 70 :: Char.ofNat 110 :: Char.ofNat 85 :: Char.ofNat 115 :: Char.ofNat 101 :: Char.ofNat 102 :: Char.ofNat 117 :: Char.ofNat 108 :: Char.ofNat 32 :: Char.ofNat 108 :: Char.ofNat 111 :: Char.ofNat 111 :: Char.ofNat 112 :: Char.ofNat 46 :: Char.ofNat 101 :: Char.ofNat 120 :: Char.ofNat 97 :: Char.ofNat 109 :: Char.ofNat 112 :: Char.ofNat 108 :: Char.ofNat 101 :: Char.ofNat 47 :: Char.ofNat 103 :: Char.ofNat 48 :: Char.ofNat 48 :: Char.ofNat 55 :: Char.ofNat 53 :: Char.ofNat 56 :: Char.ofNat 47 :: Char.ofNat 108 :: Char.ofNat 97 :: Char.ofNat 119 :: Char.ofNat 115 :: Char.ofNat 46 :: Char.ofNat 70 :: Char.ofNat 110 :: Char.ofNat 85 :: Char.ofNat 110 :: Char.ofNat 108 :: Char.ofNat 105 :: Char.ofNat 107 :: Char.ofNat 101 :: Char.ofNat 32 :: Char.ofNat 108 :: Char.ofNat 111 :: Char.ofNat 111 :: Char.ofNat 112 :: Char.ofNat 46 :: Char.ofNat 101 :: Char.ofNat 120 :: Char.ofNat 97 :: Char.ofNat 109 :: Char.ofNat 112 :: Char.ofNat 108 :: Char.ofNat 101 :: Char.ofNat 47 :: Char.ofNat 103 :: Char.ofNat 48 :: Char.ofNat 48 :: Char.ofNat 55 :: Char.ofNat 53 :: Char.ofNat 56 :: Char.ofNat 47 :: Char.ofNat 108 :: Char.ofNat 97 :: Char.ofNat 119 :: Char.ofNat 115 :: Char.ofNat 46 :: Char.ofNat 70 :: Char.ofNat 110 :: Char.ofNat 67 :: Char.ofNat 101 :: Char.ofNat 108 :: Char.ofNat 108 :: Char.ofNat 115 :: Char.ofNat 32 :: Char.ofNat 108 :: Char.ofNat 111 :: Char.ofNat 111 :: Char.ofNat 112 :: Char.ofNat 46 :: Char.ofNat 101 :: Char.ofNat 120 :: Char.ofNat 97 :: Char.ofNat 109 :: Char.ofNat 112 :: Char.ofNat 108 :: Char.ofNat 101 :: Char.ofNat 47 :: Char.ofNat 103 :: Char.ofNat 48 :: Char.ofNat 48 :: Char.ofNat 55 :: Char.ofNat 53 :: Char.ofNat 56 :: Char.ofNat 47 :: Char.ofNat 108 :: Char.ofNat 97 :: Char.ofNat 119 :: Char.ofNat 115 :: Char.ofNat 46 :: Char.ofNat 70 :: Char.ofNat 110 :: Char.ofNat 77 :: Char.ofNat 101 :: Char.ofNat 110 :: Char.ofNat 100 :: Char.ofNat 32 :: Char.ofNat 108 :: Char.ofNat 111 :: Char.ofNat 111 :: Char.ofNat 112 :: Char.ofNat 46 :: Char.ofNat 101 :: Char.ofNat 120 :: Char.ofNat 97 :: Char.ofNat 109 :: Char.ofNat 112 :: Char.ofNat 108 :: Char.ofNat 101 :: Char.ofNat 47 :: Char.ofNat 103 :: Char.ofNat 48 :: Char.ofNat 48 :: Char.ofNat 55 :: Char.ofNat 53 :: Char.ofNat 56 :: Char.ofNat 47 :: Char.ofNat 108 :: Char.ofNat 97 :: Char.ofNat 119 :: Char.ofNat 115 :: Char.ofNat 46 :: Char.ofNat 70 :: Char.ofNat 110 :: Char.ofNat 80 :: Char.ofNat 117 :: Char.ofNat 109 :: Char.ofNat 112 :: Char.ofNat 32 :: Char.ofNat 108 :: Char.ofNat 111 :: Char.ofNat 111 :: Char.ofNat 112 :: Char.ofNat 46 :: Char.ofNat 101 :: Char.ofNat 120 :: Char.ofNat 97 :: Char.ofNat 109 :: Char.ofNat 112 :: Char.ofNat 108 :: Char.ofNat 101 :: Char.ofNat 47 :: Char.ofNat 103 :: Char.ofNat 48 :: Char.ofNat 48 :: Char.ofNat 55 :: Char.ofNat 53 :: Char.ofNat 56 :: Char.ofNat 47 :: Char.ofNat 108 :: Char.ofNat 97 :: Char.ofNat 119 :: Char.ofNat 115 :: Char.ofNat 46 :: Char.ofNat 70 :: Char.ofNat 110 :: Char.ofNat 76 :: Char.ofNat 111 :: Char.ofNat 110 :: Char.ofNat 103 :: Char.ofNat 69 :: Char.ofNat 110 :: Char.ofNat 111 :: Char.ofNat 117 :: Char.ofNat 103 :: Char.ofNat 104 :: Char.ofNat 32 :: Char.ofNat 108 :: Char.ofNat 111 :: Char.ofNat 111 :: Char.ofNat 112 :: Char.ofNat 46 :: Char.ofNat 101 :: Char.ofNat 120 :: Char.ofNat 97 :: Char.ofNat 109 :: Char.ofNat 112 :: Char.ofNat 108 :: Char.ofNat 101 :: Char.ofNat 47 :: Char.ofNat 103 :: Char.ofNat 48 :: Char.ofNat 48 :: Char.ofNat 55 :: Char.ofNat 53 :: Char.ofNat 56 :: Char.ofNat 47 :: Char.ofNat 108 :: Char.ofNat 97 :: Char.ofNat 119 :: Char.ofNat 115 :: Char.ofNat 46 :: Char.ofNat 70 :: Char.ofNat 110 :: Char.ofNat 84 :: Char.ofNat 117 :: Char.ofNat 114 :: Char.ofNat 110 :: Char.ofNat 101 :: Char.ofNat 100 :: []) := by kernel_rfl
theorem io : Try.prog.initOrder = String.ofList (Char.ofNat 104 :: Char.ofNat 97 :: Char.ofNat 114 :: Char.ofNat 110 :: Char.ofNat 101 :: Char.ofNat 115 :: Char.ofNat 115 :: Char.ofNat 32 :: Char.ofNat 54 :: Char.ofNat 56 :: Char.ofNat 98 :: Char.ofNat 99 :: Char.ofNat 101 :: Char.ofNat 53 :: Char.ofNat 101 :: Char.ofNat 51 :: Char.ofNat 48 :: Char.ofNat 98 :: Char.ofNat 99 :: Char.ofNat 100 :: Char.ofNat 53 :: Char.ofNat 48 :: Char.ofNat 57 :: Char.ofNat 53 :: Char.ofNat 50 :: Char.ofNat 99 :: Char.ofNat 57 :: Char.ofNat 55 :: Char.ofNat 55 :: Char.ofNat 51 :: Char.ofNat 57 :: Char.ofNat 97 :: Char.ofNat 99 :: Char.ofNat 97 :: Char.ofNat 98 :: Char.ofNat 101 :: Char.ofNat 102 :: Char.ofNat 48 :: Char.ofNat 52 :: Char.ofNat 57 :: Char.ofNat 51 :: Char.ofNat 48 :: Char.ofNat 48 :: Char.ofNat 48 :: Char.ofNat 56 :: Char.ofNat 52 :: Char.ofNat 101 :: Char.ofNat 101 :: Char.ofNat 57 :: Char.ofNat 53 :: Char.ofNat 57 :: Char.ofNat 50 :: Char.ofNat 101 :: Char.ofNat 52 :: Char.ofNat 50 :: Char.ofNat 50 :: Char.ofNat 48 :: Char.ofNat 98 :: Char.ofNat 48 :: Char.ofNat 51 :: Char.ofNat 100 :: Char.ofNat 98 :: Char.ofNat 56 :: Char.ofNat 101 :: Char.ofNat 54 :: Char.ofNat 52 :: Char.ofNat 99 :: Char.ofNat 98 :: Char.ofNat 53 :: Char.ofNat 55 :: Char.ofNat 49 :: Char.ofNat 98 :: Char.ofNat 32 :: Char.ofNat 99 :: Char.ofNat 117 :: Char.ofNat 116 :: Char.ofNat 32 :: Char.ofNat 97 :: Char.ofNat 116 :: Char.ofNat 32 :: Char.ofNat 108 :: Char.ofNat 111 :: Char.ofNat 111 :: Char.ofNat 112 :: Char.ofNat 46 :: Char.ofNat 101 :: Char.ofNat 120 :: Char.ofNat 97 :: Char.ofNat 109 :: Char.ofNat 112 :: Char.ofNat 108 :: Char.ofNat 101 :: Char.ofNat 47 :: Char.ofNat 103 :: Char.ofNat 48 :: Char.ofNat 48 :: Char.ofNat 55 :: Char.ofNat 53 :: Char.ofNat 56 :: Char.ofNat 47 :: Char.ofNat 108 :: Char.ofNat 97 :: Char.ofNat 119 :: Char.ofNat 115 :: Char.ofNat 46 :: Char.ofNat 70 :: Char.ofNat 110 :: Char.ofNat 68 :: Char.ofNat 101 :: Char.ofNat 114 :: Char.ofNat 105 :: Char.ofNat 118 :: Char.ofNat 101 :: Char.ofNat 115 :: Char.ofNat 32 :: Char.ofNat 108 :: Char.ofNat 111 :: Char.ofNat 111 :: Char.ofNat 112 :: Char.ofNat 46 :: Char.ofNat 101 :: Char.ofNat 120 :: Char.ofNat 97 :: Char.ofNat 109 :: Char.ofNat 112 :: Char.ofNat 108 :: Char.ofNat 101 :: Char.ofNat 47 :: Char.ofNat 103 :: Char.ofNat 48 :: Char.ofNat 48 :: Char.ofNat 55 :: Char.ofNat 53 :: Char.ofNat 56 :: Char.ofNat 47 :: Char.ofNat 108 :: Char.ofNat 97 :: Char.ofNat 119 :: Char.ofNat 115 :: Char.ofNat 46 :: Char.ofNat 70 :: Char.ofNat 110 :: Char.ofNat 70 :: Char.ofNat 105 :: Char.ofNat 114 :: Char.ofNat 115 :: Char.ofNat 116 :: Char.ofNat 115 :: Char.ofNat 32 :: Char.ofNat 108 :: Char.ofNat 111 :: Char.ofNat 111 :: Char.ofNat 112 :: Char.ofNat 46 :: Char.ofNat 101 :: Char.ofNat 120 :: Char.ofNat 97 :: Char.ofNat 109 :: Char.ofNat 112 :: Char.ofNat 108 :: Char.ofNat 101 :: Char.ofNat 47 :: Char.ofNat 103 :: Char.ofNat 48 :: Char.ofNat 48 :: Char.ofNat 55 :: Char.ofNat 53 :: Char.ofNat 56 :: Char.ofNat 47 :: Char.ofNat 108 :: Char.ofNat 97 :: Char.ofNat 119 :: Char.ofNat 115 :: Char.ofNat 46 :: Char.ofNat 70 :: Char.ofNat 110 :: Char.ofNat 66 :: Char.ofNat 101 :: Char.ofNat 115 :: Char.ofNat 105 :: Char.ofNat 100 :: Char.ofNat 101 :: Char.ofNat 32 :: Char.ofNat 108 :: Char.ofNat 111 :: Char.ofNat 111 :: Char.ofNat 112 :: Char.ofNat 46 :: Char.ofNat 101 :: Char.ofNat 120 :: Char.ofNat 97 :: Char.ofNat 109 :: Char.ofNat 112 :: Char.ofNat 108 :: Char.ofNat 101 :: Char.ofNat 47 :: Char.ofNat 103 :: Char.ofNat 48 :: Char.ofNat 48 :: Char.ofNat 55 :: Char.ofNat 53 :: Char.ofNat 56 :: Char.ofNat 47 :: Char.ofNat 108 :: Char.ofNat 97 :: Char.ofNat 119 :: Char.ofNat 115 :: Char.ofNat 46 :: Char.ofNat 70 :: Char.ofNat 110 :: Char.ofNat 82 :: Char.ofNat 101 :: Char.ofNat 119 :: Char.ofNat 114 :: Char.ofNat 105 :: Char.ofNat 116 :: Char.ofNat 101 :: Char.ofNat 115 :: Char.ofNat 32 :: Char.ofNat 108 :: Char.ofNat 111 :: Char.ofNat 111 :: Char.ofNat 112 :: Char.ofNat 46 :: Char.ofNat 101 :: Char.ofNat 120 :: Char.ofNat 97 :: Char.ofNat 109 :: Char.ofNat 112 :: Char.ofNat 108 :: Char.ofNat 101 :: Char.ofNat 47 :: Char.ofNat 103 :: Char.ofNat 48 :: Char.ofNat 48 :: Char.ofNat 55 :: Char.ofNat 53 :: Char.ofNat 56 :: Char.ofNat 47 :: Char.ofNat 108 :: Char.ofNat 97 :: Char.ofNat 119 :: Char.ofNat 115 :: Char.ofNat 46 :: Char.ofNat 70 :: Char.ofNat 110 :: Char.ofNat 70 :: Char.ofNat 105 :: Char.ofNat 110 :: Char.ofNat 105 :: Char.ofNat 116 :: Char.ofNat 101 :: Char.ofNat 32 :: Char.ofNat 108 :: Char.ofNat 111 :: Char.ofNat 111 :: Char.ofNat 112 :: Char.ofNat 46 :: Char.ofNat 101 :: Char.ofNat 120 :: Char.ofNat 97 :: Char.ofNat 109 :: Char.ofNat 112 :: Char.ofNat 108 :: Char.ofNat 101 :: Char.ofNat 47 :: Char.ofNat 103 :: Char.ofNat 48 :: Char.ofNat 48 :: Char.ofNat 55 :: Char.ofNat 53 :: Char.ofNat 56 :: Char.ofNat 47 :: Char.ofNat 108 :: Char.ofNat 97 :: Char.ofNat 119 :: Char.ofNat 115 :: Char.ofNat 46 :: Char.ofNat 70 :: Char.ofNat 110 :: Char.ofNat 85 :: Char.ofNat 115 :: Char.ofNat 101 :: Char.ofNat 102 :: Char.ofNat 117 :: Char.ofNat 108 :: Char.ofNat 32 :: Char.ofNat 108 :: Char.ofNat 111 :: Char.ofNat 111 :: Char.ofNat 112 :: Char.ofNat 46 :: Char.ofNat 101 :: Char.ofNat 120 :: Char.ofNat 97 :: Char.ofNat 109 :: Char.ofNat 112 :: Char.ofNat 108 :: Char.ofNat 101 :: Char.ofNat 47 :: Char.ofNat 103 :: Char.ofNat 48 :: Char.ofNat 48 :: Char.ofNat 55 :: Char.ofNat 53 :: Char.ofNat 56 :: Char.ofNat 47 :: Char.ofNat 108 :: Char.ofNat 97 :: Char.ofNat 119 :: Char.ofNat 115 :: Char.ofNat 46 :: Char.ofNat 70 :: Char.ofNat 110 :: Char.ofNat 85 :: Char.ofNat 110 :: Char.ofNat 108 :: Char.ofNat 105 :: Char.ofNat 107 :: Char.ofNat 101 :: Char.ofNat 32 :: Char.ofNat 108 :: Char.ofNat 111 :: Char.ofNat 111 :: Char.ofNat 112 :: Char.ofNat 46 :: Char.ofNat 101 :: Char.ofNat 120 :: Char.ofNat 97 :: Char.ofNat 109 :: Char.ofNat 112 :: Char.ofNat 108 :: Char.ofNat 101 :: Char.ofNat 47 :: Char.ofNat 103 :: Char.ofNat 48 :: Char.ofNat 48 :: Char.ofNat 55 :: Char.ofNat 53 :: Char.ofNat 56 :: Char.ofNat 47 :: Char.ofNat 108 :: Char.ofNat 97 :: Char.ofNat 119 :: Char.ofNat 115 :: Char.ofNat 46 :: Char.ofNat 70 :: Char.ofNat 110 :: Char.ofNat 67 :: Char.ofNat 101 :: Char.ofNat 108 :: Char.ofNat 108 :: Char.ofNat 115 :: Char.ofNat 32 :: Char.ofNat 108 :: Char.ofNat 111 :: Char.ofNat 111 :: Char.ofNat 112 :: Char.ofNat 46 :: Char.ofNat 101 :: Char.ofNat 120 :: Char.ofNat 97 :: Char.ofNat 109 :: Char.ofNat 112 :: Char.ofNat 108 :: Char.ofNat 101 :: Char.ofNat 47 :: Char.ofNat 103 :: Char.ofNat 48 :: Char.ofNat 48 :: Char.ofNat 55 :: Char.ofNat 53 :: Char.ofNat 56 :: Char.ofNat 47 :: Char.ofNat 108 :: Char.ofNat 97 :: Char.ofNat 119 :: Char.ofNat 115 :: Char.ofNat 46 :: Char.ofNat 70 :: Char.ofNat 110 :: Char.ofNat 77 :: Char.ofNat 101 :: Char.ofNat 110 :: Char.ofNat 100 :: Char.ofNat 32 :: Char.ofNat 108 :: Char.ofNat 111 :: Char.ofNat 111 :: Char.ofNat 112 :: Char.ofNat 46 :: Char.ofNat 101 :: Char.ofNat 120 :: Char.ofNat 97 :: Char.ofNat 109 :: Char.ofNat 112 :: Char.ofNat 108 :: Char.ofNat 101 :: Char.ofNat 47 :: Char.ofNat 103 :: Char.ofNat 48 :: Char.ofNat 48 :: Char.ofNat 55 :: Char.ofNat 53 :: Char.ofNat 56 :: Char.ofNat 47 :: Char.ofNat 108 :: Char.ofNat 97 :: Char.ofNat 119 :: Char.ofNat 115 :: Char.ofNat 46 :: Char.ofNat 70 :: Char.ofNat 110 :: Char.ofNat 80 :: Char.ofNat 117 :: Char.ofNat 109 :: Char.ofNat 112 :: Char.ofNat 32 :: Char.ofNat 108 :: Char.ofNat 111 :: Char.ofNat 111 :: Char.ofNat 112 :: Char.ofNat 46 :: Char.ofNat 101 :: Char.ofNat 120 :: Char.ofNat 97 :: Char.ofNat 109 :: Char.ofNat 112 :: Char.ofNat 108 :: Char.ofNat 101 :: Char.ofNat 47 :: Char.ofNat 103 :: Char.ofNat 48 :: Char.ofNat 48 :: Char.ofNat 55 :: Char.ofNat 53 :: Char.ofNat 56 :: Char.ofNat 47 :: Char.ofNat 108 :: Char.ofNat 97 :: Char.ofNat 119 :: Char.ofNat 115 :: Char.ofNat 46 :: Char.ofNat 70 :: Char.ofNat 110 :: Char.ofNat 76 :: Char.ofNat 111 :: Char.ofNat 110 :: Char.ofNat 103 :: Char.ofNat 69 :: Char.ofNat 110 :: Char.ofNat 111 :: Char.ofNat 117 :: Char.ofNat 103 :: Char.ofNat 104 :: Char.ofNat 32 :: Char.ofNat 108 :: Char.ofNat 111 :: Char.ofNat 111 :: Char.ofNat 112 :: Char.ofNat 46 :: Char.ofNat 101 :: Char.ofNat 120 :: Char.ofNat 97 :: Char.ofNat 109 :: Char.ofNat 112 :: Char.ofNat 108 :: Char.ofNat 101 :: Char.ofNat 47 :: Char.ofNat 103 :: Char.ofNat 48 :: Char.ofNat 48 :: Char.ofNat 55 :: Char.ofNat 53 :: Char.ofNat 56 :: Char.ofNat 47 :: Char.ofNat 108 :: Char.ofNat 97 :: Char.ofNat 119 :: Char.ofNat 115 :: Char.ofNat 46 :: Char.ofNat 70 :: Char.ofNat 110 :: Char.ofNat 84 :: Char.ofNat 117 :: Char.ofNat 114 :: Char.ofNat 110 :: Char.ofNat 101 :: Char.ofNat 100 :: []) := io0.trans io1
theorem io2 : Try.prog.initOrder.toList = signs := by rw [io, String.toList_ofList]; rfl
def behind : List (List Char) := [[Char.ofNat 99, Char.ofNat 117, Char.ofNat 116], [Char.ofNat 97, Char.ofNat 116], [Char.ofNat 108, Char.ofNat 111, Char.ofNat 111, Char.ofNat 112, Char.ofNat 46, Char.ofNat 101, Char.ofNat 120, Char.ofNat 97, Char.ofNat 109, Char.ofNat 112, Char.ofNat 108, Char.ofNat 101, Char.ofNat 47, Char.ofNat 103, Char.ofNat 48, Char.ofNat 48, Char.ofNat 55, Char.ofNat 53, Char.ofNat 56, Char.ofNat 47, Char.ofNat 108, Char.ofNat 97, Char.ofNat 119, Char.ofNat 115, Char.ofNat 46, Char.ofNat 70, Char.ofNat 110, Char.ofNat 68, Char.ofNat 101, Char.ofNat 114, Char.ofNat 105, Char.ofNat 118, Char.ofNat 101, Char.ofNat 115], [Char.ofNat 108, Char.ofNat 111, Char.ofNat 111, Char.ofNat 112, Char.ofNat 46, Char.ofNat 101, Char.ofNat 120, Char.ofNat 97, Char.ofNat 109, Char.ofNat 112, Char.ofNat 108, Char.ofNat 101, Char.ofNat 47, Char.ofNat 103, Char.ofNat 48, Char.ofNat 48, Char.ofNat 55, Char.ofNat 53, Char.ofNat 56, Char.ofNat 47, Char.ofNat 108, Char.ofNat 97, Char.ofNat 119, Char.ofNat 115, Char.ofNat 46, Char.ofNat 70, Char.ofNat 110, Char.ofNat 70, Char.ofNat 105, Char.ofNat 114, Char.ofNat 115, Char.ofNat 116, Char.ofNat 115], [Char.ofNat 108, Char.ofNat 111, Char.ofNat 111, Char.ofNat 112, Char.ofNat 46, Char.ofNat 101, Char.ofNat 120, Char.ofNat 97, Char.ofNat 109, Char.ofNat 112, Char.ofNat 108, Char.ofNat 101, Char.ofNat 47, Char.ofNat 103, Char.ofNat 48, Char.ofNat 48, Char.ofNat 55, Char.ofNat 53, Char.ofNat 56, Char.ofNat 47, Char.ofNat 108, Char.ofNat 97, Char.ofNat 119, Char.ofNat 115, Char.ofNat 46, Char.ofNat 70, Char.ofNat 110, Char.ofNat 66, Char.ofNat 101, Char.ofNat 115, Char.ofNat 105, Char.ofNat 100, Char.ofNat 101], [Char.ofNat 108, Char.ofNat 111, Char.ofNat 111, Char.ofNat 112, Char.ofNat 46, Char.ofNat 101, Char.ofNat 120, Char.ofNat 97, Char.ofNat 109, Char.ofNat 112, Char.ofNat 108, Char.ofNat 101, Char.ofNat 47, Char.ofNat 103, Char.ofNat 48, Char.ofNat 48, Char.ofNat 55, Char.ofNat 53, Char.ofNat 56, Char.ofNat 47, Char.ofNat 108, Char.ofNat 97, Char.ofNat 119, Char.ofNat 115, Char.ofNat 46, Char.ofNat 70, Char.ofNat 110, Char.ofNat 82, Char.ofNat 101, Char.ofNat 119, Char.ofNat 114, Char.ofNat 105, Char.ofNat 116, Char.ofNat 101, Char.ofNat 115], [Char.ofNat 108, Char.ofNat 111, Char.ofNat 111, Char.ofNat 112, Char.ofNat 46, Char.ofNat 101, Char.ofNat 120, Char.ofNat 97, Char.ofNat 109, Char.ofNat 112, Char.ofNat 108, Char.ofNat 101, Char.ofNat 47, Char.ofNat 103, Char.ofNat 48, Char.ofNat 48, Char.ofNat 55, Char.ofNat 53, Char.ofNat 56, Char.ofNat 47, Char.ofNat 108, Char.ofNat 97, Char.ofNat 119, Char.ofNat 115, Char.ofNat 46, Char.ofNat 70, Char.ofNat 110, Char.ofNat 70, Char.ofNat 105, Char.ofNat 110, Char.ofNat 105, Char.ofNat 116, Char.ofNat 101], [Char.ofNat 108, Char.ofNat 111, Char.ofNat 111, Char.ofNat 112, Char.ofNat 46, Char.ofNat 101, Char.ofNat 120, Char.ofNat 97, Char.ofNat 109, Char.ofNat 112, Char.ofNat 108, Char.ofNat 101, Char.ofNat 47, Char.ofNat 103, Char.ofNat 48, Char.ofNat 48, Char.ofNat 55, Char.ofNat 53, Char.ofNat 56, Char.ofNat 47, Char.ofNat 108, Char.ofNat 97, Char.ofNat 119, Char.ofNat 115, Char.ofNat 46, Char.ofNat 70, Char.ofNat 110, Char.ofNat 85, Char.ofNat 115, Char.ofNat 101, Char.ofNat 102, Char.ofNat 117, Char.ofNat 108], [Char.ofNat 108, Char.ofNat 111, Char.ofNat 111, Char.ofNat 112, Char.ofNat 46, Char.ofNat 101, Char.ofNat 120, Char.ofNat 97, Char.ofNat 109, Char.ofNat 112, Char.ofNat 108, Char.ofNat 101, Char.ofNat 47, Char.ofNat 103, Char.ofNat 48, Char.ofNat 48, Char.ofNat 55, Char.ofNat 53, Char.ofNat 56, Char.ofNat 47, Char.ofNat 108, Char.ofNat 97, Char.ofNat 119, Char.ofNat 115, Char.ofNat 46, Char.ofNat 70, Char.ofNat 110, Char.ofNat 85, Char.ofNat 110, Char.ofNat 108, Char.ofNat 105, Char.ofNat 107, Char.ofNat 101], [Char.ofNat 108, Char.ofNat 111, Char.ofNat 111, Char.ofNat 112, Char.ofNat 46, Char.ofNat 101, Char.ofNat 120, Char.ofNat 97, Char.ofNat 109, Char.ofNat 112, Char.ofNat 108, Char.ofNat 101, Char.ofNat 47, Char.ofNat 103, Char.ofNat 48, Char.ofNat 48, Char.ofNat 55, Char.ofNat 53, Char.ofNat 56, Char.ofNat 47, Char.ofNat 108, Char.ofNat 97, Char.ofNat 119, Char.ofNat 115, Char.ofNat 46, Char.ofNat 70, Char.ofNat 110, Char.ofNat 67, Char.ofNat 101, Char.ofNat 108, Char.ofNat 108, Char.ofNat 115], [Char.ofNat 108, Char.ofNat 111, Char.ofNat 111, Char.ofNat 112, Char.ofNat 46, Char.ofNat 101, Char.ofNat 120, Char.ofNat 97, Char.ofNat 109, Char.ofNat 112, Char.ofNat 108, Char.ofNat 101, Char.ofNat 47, Char.ofNat 103, Char.ofNat 48, Char.ofNat 48, Char.ofNat 55, Char.ofNat 53, Char.ofNat 56, Char.ofNat 47, Char.ofNat 108, Char.ofNat 97, Char.ofNat 119, Char.ofNat 115, Char.ofNat 46, Char.ofNat 70, Char.ofNat 110, Char.ofNat 77, Char.ofNat 101, Char.ofNat 110, Char.ofNat 100], [Char.ofNat 108, Char.ofNat 111, Char.ofNat 111, Char.ofNat 112, Char.ofNat 46, Char.ofNat 101, Char.ofNat 120, Char.ofNat 97, Char.ofNat 109, Char.ofNat 112, Char.ofNat 108, Char.ofNat 101, Char.ofNat 47, Char.ofNat 103, Char.ofNat 48, Char.ofNat 48, Char.ofNat 55, Char.ofNat 53, Char.ofNat 56, Char.ofNat 47, Char.ofNat 108, Char.ofNat 97, Char.ofNat 119, Char.ofNat 115, Char.ofNat 46, Char.ofNat 70, Char.ofNat 110, Char.ofNat 80, Char.ofNat 117, Char.ofNat 109, Char.ofNat 112], [Char.ofNat 108, Char.ofNat 111, Char.ofNat 111, Char.ofNat 112, Char.ofNat 46, Char.ofNat 101, Char.ofNat 120, Char.ofNat 97, Char.ofNat 109, Char.ofNat 112, Char.ofNat 108, Char.ofNat 101, Char.ofNat 47, Char.ofNat 103, Char.ofNat 48, Char.ofNat 48, Char.ofNat 55, Char.ofNat 53, Char.ofNat 56, Char.ofNat 47, Char.ofNat 108, Char.ofNat 97, Char.ofNat 119, Char.ofNat 115, Char.ofNat 46, Char.ofNat 70, Char.ofNat 110, Char.ofNat 76, Char.ofNat 111, Char.ofNat 110, Char.ofNat 103, Char.ofNat 69, Char.ofNat 110, Char.ofNat 111, Char.ofNat 117, Char.ofNat 103, Char.ofNat 104], [Char.ofNat 108, Char.ofNat 111, Char.ofNat 111, Char.ofNat 112, Char.ofNat 46, Char.ofNat 101, Char.ofNat 120, Char.ofNat 97, Char.ofNat 109, Char.ofNat 112, Char.ofNat 108, Char.ofNat 101, Char.ofNat 47, Char.ofNat 103, Char.ofNat 48, Char.ofNat 48, Char.ofNat 55, Char.ofNat 53, Char.ofNat 56, Char.ofNat 47, Char.ofNat 108, Char.ofNat 97, Char.ofNat 119, Char.ofNat 115, Char.ofNat 46, Char.ofNat 70, Char.ofNat 110, Char.ofNat 84, Char.ofNat 117, Char.ofNat 114, Char.ofNat 110, Char.ofNat 101, Char.ofNat 100]]
theorem io4 : behindMainWord (wordsSigns signs) = behind := by kernel_rfl
theorem io3 : behindMainWord (wordsSigns Try.prog.initOrder.toList) = behind := by rw [io2, io4]
theorem may : Try.prog.mayEnter = true := may_of (l := []) io3 (by rfl) (by kernel_rfl) (by kernel_rfl) (by kernel_rfl) (by kernel_rfl) rfl (by kernel_rfl)
theorem fin : Try.prog.liftsFinal = false := lifts_of io3 (by kernel_rfl) (by kernel_rfl)
theorem mk : Try.prog.make = some .cut := make_of io3 (by rfl) (by kernel_rfl) (by kernel_rfl)
theorem own : ownKnob Try.prog.godebug = none := by kernel_rfl
theorem laidOut : laidOutB Try.prog = true := by kernel_rfl
theorem rowed : mapsRowed Try.prog = true := by kernel_rfl
def zki_ (P : Program) (f : FuncId) (fn : Func) (s : ChangeSpec) (c : OpenClaim) : Bool :=
  c.wf (OpenSpec.ofChange s) && fn.params.all (P.readableRec ·) && namedTie P c.named s.vars && (c.stops == []) && (P.stops == []) && (c.knobs == []) && (P.stopKnobs == []) && (c.inPlace == P.inPlace f) && (c.unfollowed == P.unfollowed f) && (c.recurses == P.recurses f) && (c.named == P.varsNamed f) && (c.maps == (fn.params.toList ++ s.plain.varTypes P).any (P.mapsRec ·)) && (c.ifaces == (fn.params.toList ++ s.plain.varTypes P).any (P.ifacesRec ·)) && (c.mapsOut == P.mapsAmong fn.resultTypes.toList) && (c.loops == (fn.params.toList ++ s.plain.varTypes P).any (P.loopsFrom ·)) && (c.wideKeys == (fn.params.toList ++ s.plain.varTypes P ++ fn.resultTypes.toList).any (P.wideKeysFrom ·)) && s.vars.all (P.varReadable ·) && fn.resultTypes.all (fun t => P.readableRec t && decide (t < P.types.size)) && (c.ifacesOut == fn.resultTypes.toList.any (P.ifacesRec ·)) && (c.loopsOut == fn.resultTypes.toList.any (P.loopsFrom ·)) && (c.plainKeys == P.plainKeys) && c.shortTexts.isNone && P.stopsHeard && (c.kinds == (if c.domain.isEmpty then [] else fn.params.toList.map fun t => match P.underlying t with | some (.int k) => some k | _ => none)) && (c.pinned == c.pinnedBy) && (c.veiled == (fn.params.toList ++ s.plain.varTypes P ++ fn.resultTypes.toList).any (P.veiledRec ·)) && c.veiledFits P fn.params.toList (fn.params.toList ++ s.plain.varTypes P ++ fn.resultTypes.toList)
theorem facts_of {f : FuncId} {fn : Func} {s : ChangeSpec} {c : OpenClaim} (hl : c.lifted = false) (hm : c.make = .cut) (h : zki_ Try.prog f fn s c = true) : joinedFacts Try.prog f fn s c = true := by
  unfold zki_ at h
  unfold joinedFacts
  simp only [Bool.and_eq_true] at h ⊢
  obtain ⟨⟨⟨⟨⟨⟨⟨⟨⟨⟨⟨⟨⟨⟨⟨⟨⟨⟨⟨⟨⟨⟨⟨⟨⟨⟨k0, k3⟩, k4⟩, k5⟩, k6⟩, k7⟩, k8⟩, k9⟩, k10⟩, k11⟩, k12⟩, k13⟩, k14⟩, k15⟩, k16⟩, k17⟩, k18⟩, k19⟩, k20⟩, k21⟩, k22⟩, k23⟩, k24⟩, k28⟩, k29⟩, k30⟩, k31⟩ := h
  exact ⟨⟨⟨⟨⟨⟨⟨⟨⟨⟨⟨⟨⟨⟨⟨⟨⟨⟨⟨⟨⟨⟨⟨⟨⟨⟨⟨⟨⟨⟨⟨k0, laidOut⟩, rowed⟩, k3⟩, k4⟩, k5⟩, k6⟩, k7⟩, k8⟩, k9⟩, k10⟩, k11⟩, k12⟩, k13⟩, k14⟩, k15⟩, k16⟩, k17⟩, k18⟩, k19⟩, k20⟩, k21⟩, k22⟩, k23⟩, k24⟩, may⟩, (by rw [hl, fin]; rfl)⟩, (by rw [hm, mk]; rfl)⟩, k28⟩, k29⟩, k30⟩, k31⟩
end Go.Proofs.Ytegcjkhebecgbaa
