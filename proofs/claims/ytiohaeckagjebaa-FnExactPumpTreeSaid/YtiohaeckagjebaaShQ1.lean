/- Contracts: where a tree ends (the reference). -/
import Derived.Test.YtiohaeckagjebaaShP2
import Derived.Test.YtiohaeckagjebaaBe
set_option linter.unusedVariables false
set_option linter.unusedSimpArgs false
set_option maxRecDepth 100000
namespace Go.Sh
open Go
def optI : Option Nat → Int
  | none => -1
  | some e => e
end Go.Sh
namespace Go.Proofs.Ytiohaeckagjebaa
open Go Go.Sh Go.RowKit

theorem l11End_c {gm : Gram} {tree : List Int} {X : Option Addr} {c : Nat} (hg : goodG gm = true) (ht : tree.length ≤ 1000) : ∀ (fu : Nat) {F : Nat → Prop} {w : World} {v : Value} {non : Int} {a : Nat} {k : Value → World → Prop}, GramV F w v gm → Ints w X tree → tree.length - a ≤ fu →
    (∀ w', Gr w w' → k (.int .i64 (optI (endT gm.rules tree fu non a))) w') → CallK Try.prog 177 [v, .int .i64 non, .slice X tree.length c, .int .i64 a] k w := by
  have hr16 := good_len hg
  intro fu
  induction fu with
  | zero =>
    intro F w v non a k hv hx hf hk
    obtain ⟨Y, cy, rfl, hc, hy⟩ := hv
    refine enter177 ?_
    unfold S177
    have H := Apt.nil w
    refine boxH H fun b1 w1 H => ?_
    have H := H.drew
    refine ⟨fun w' => Gr w1.drew w', Gr.refl _, ?_⟩
    simp only [go_sem, Nat.reduceEqDiff]
    simp only [show (tree.length : Int) ≤ a from by omega, decide_true, go_sem, Nat.reduceEqDiff]
    exact ⟨Gr.refl _, hk _ H.gr⟩
  | succ fu ih =>
    intro F w v non a k hv hx hf hk
    obtain ⟨Y, cy, rfl, hc, hy⟩ := hv
    refine enter177 ?_
    unfold S177
    have H := Apt.nil w
    refine boxH H fun b1 w1 H => ?_
    have H := H.drew
    refine ⟨fun w' => Gr w1.drew w', Gr.refl _, ?_⟩
    simp only [go_sem, Nat.reduceEqDiff]
    by_cases hlt : a < tree.length
    case neg =>
      simp only [show (tree.length : Int) ≤ a from by omega, decide_true, go_sem, Nat.reduceEqDiff]
      refine ⟨Gr.refl _, ?_⟩
      have := hk _ H.gr
      rwa [show endT gm.rules tree (fu + 1) non a = none from endT_no (okT_lt hlt)] at this
    simp only [show ¬ ((tree.length : Int) ≤ a) from by omega, decide_false, go_sem, Nat.reduceEqDiff]
    have hx1 := hx.gr H.gr
    have hy1 := hy.gr H.gr
    rw [ixn22 hx.ptr hlt, ldS3 (fun w' hw' => Gr.cell hw' (hx1.cell a hlt)), rdG one35 (H.box 0 rfl) rfl]
    simp only [go_sem, Nat.reduceEqDiff]
    rw [i64_of (by omega) (by omega)]
    refine l1In_c ?_
    refine ⟨Gr.refl _, ?_⟩
    by_cases hin : inB (tree.getD a 0) 0 ((gm.rules.length : Int) - 1) = true
    case neg =>
      have hin := Bool.eq_false_iff.2 hin
      simp only [hin, Bool.not_false, go_sem, Nat.reduceEqDiff]
      have := hk _ H.gr
      rwa [show endT gm.rules tree (fu + 1) non a = none from endT_no (okT_in hin)] at this
    obtain ⟨q, hqe, hq⟩ : ∃ q : Nat, tree.getD a 0 = q ∧ q < gm.rules.length := by
      simp only [inB, Bool.and_eq_true, decide_eq_true_eq] at hin
      exact ⟨(tree.getD a 0).toNat, by omega, by omega⟩
    simp only [hin, Bool.not_true, go_sem, Nat.reduceEqDiff]
    obtain ⟨Z, cz, h1, h2, h3, h4⟩ := hy.row q hq
    rw [rdG one35 (H.box 0 rfl) rfl, ixn22 hx.ptr hlt, ldS3 (fun w' hw' => Gr.cell hw' (hx1.cell a hlt)), hqe, ixn35 hy.ptr hq, fa77_0, add_zero', ldS3 (fun w' hw' => Gr.cell hw' (H.gr.cell h1))]
    simp only [go_sem, Nat.reduceEqDiff]
    by_cases hne : (rul gm.rules q).1 = non
    case neg =>
      simp only [hne, decide_false, Bool.not_false, go_sem, Nat.reduceEqDiff]
      have := hk _ H.gr
      rwa [show endT gm.rules tree (fu + 1) non a = none from endT_no (okT_ne hqe hne)] at this
    simp only [hne, decide_true, Bool.not_true, go_sem, Nat.reduceEqDiff]
    have H := H.drew
    rw [i64_of (by omega) (by omega), ldB35 (H.box 0 rfl) rfl, ixn22 hx.ptr hlt, ld3 ((hx.gr H.gr).cell a hlt), hqe, ixn35 hy.ptr hq, fa77_1, add_add, ld22 (H.gr.cell h2)]
    simp only [go_sem, Nat.reduceEqDiff]
    have hE0 : endT gm.rules tree (fu + 1) non a = endR (endT gm.rules tree fu) (rul gm.rules q).2 (a + 1) := by
      have hok := okT_of hlt hin hqe hne
      simp only [endT, hok, if_true, rgtT, hqe, Int.toNat_natCast]
    rw [hE0] at hk
    clear hE0 h1 h2
    generalize (rul gm.rules q).2 = R at *
    refine loop_to R.length 0 (fun i f w' => i ≤ R.length ∧ f 53 = .int .i64 i ∧ (∃ e : Nat, f 9 = .int .i64 e ∧ a + 1 ≤ e ∧ endR (endT gm.rules tree fu) (R.drop i) e = endR (endT gm.rules tree fu) R (a + 1)) ∧ Apt w w' [bx b1 [.int .i64 gm.nons, .int .i64 gm.toks, .slice Y gm.rules.length cy] 37]) ⟨Nat.zero_le _, rfl, ⟨a + 1, rfl, Nat.le_refl _, rfl⟩, H⟩ ?_
    rintro i f w2 N hag ⟨hi, h53, ⟨e, h9, hle, hE⟩, H⟩ hN
    have f51 : f 51 = .slice Z R.length cz := hag 51 (by decide)
    have f52 : f 52 = .int .i64 R.length := hag 52 (by decide)
    have f4 : f 4 = .pointer (some ⟨b1, 0, none⟩) := hag 4 (by decide)
    have f2 : f 2 = .slice X tree.length c := hag 2 (by decide)
    simp only [f51, f52, f4, f2, h53, h9, go_sem, Nat.reduceEqDiff]
    by_cases hlt2 : i < R.length
    · simp only [show (i : Int) < R.length from by omega, decide_true, go_sem, Nat.reduceEqDiff]
      have hR : R.drop i = R.getD i 0 :: R.drop (i + 1) := by
        rw [List.drop_eq_getElem_cons hlt2]
        simp [List.getD_eq_getElem?_getD, hlt2]
      rw [hR, endR] at hE
      have hRl := h4.is.le
      rw [ixn22 h4.is.ptr hlt2, ld3 ((h4.is.gr H.gr).cell i hlt2)]
      by_cases hneg : R.getD i 0 < 0
      · simp only [hneg, decide_true, go_sem, Nat.reduceEqDiff]
        rw [if_pos hneg] at hE
        rw [i64_of (by omega) (by omega)]
        exact hN _ _ hlt2 ⟨hlt2, rfl, ⟨e, h9, hle, hE⟩, H⟩
      · simp only [hneg, decide_false, go_sem, Nat.reduceEqDiff]
        rw [if_neg hneg] at hE
        rw [ldB_agg agg37 sz37 rfl (H.box 0 rfl)]
        refine ih (non := R.getD i 0) (a := e) ⟨Y, cy, rfl, hc, hy.gr H.gr⟩ (hx.gr H.gr) (by omega) fun w3 g3 => ?_
        have H := H.step g3
        simp only [go_sem, Nat.reduceEqDiff]
        cases hz : endT gm.rules tree fu (R.getD i 0) e with
        | none =>
          rw [hz] at hE
          simp only [optI, show ((-1 : Int) < 0) from by decide, decide_true, go_sem, Nat.reduceEqDiff]
          have := hk _ H.gr
          rwa [← hE] at this
        | some e' =>
          rw [hz] at hE
          have := endT_gt hz
          simp only [optI, show ¬ ((e' : Int) < 0) from by omega, decide_false, go_sem, Nat.reduceEqDiff]
          rw [i64_of (by omega) (by omega)]
          exact hN _ _ hlt2 ⟨hlt2, rfl, ⟨e', rfl, by omega, hE⟩, H⟩
    · simp only [show ¬ (i : Int) < R.length from by omega, decide_false, go_sem, Nat.reduceEqDiff]
      rw [List.drop_eq_nil_of_le (by omega), endR] at hE
      have := hk _ H.gr
      rwa [← hE] at this
end Go.Proofs.Ytiohaeckagjebaa
