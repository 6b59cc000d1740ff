/- Texts of this repository put together: Sh54, Ch, Sh55, Sh1y, Cf, Sh56, Sh57, Sh1z. -/
import Derived.Test.YtegcjkhebecgbaaKFinitee
import Derived.Test.YtegcjkhebecgbaaKFinited
import Derived.Test.YtegcjkhebecgbaaProg
import Derived.Test.YtegcjkhebecgbaaKFinitea
import Derived.Test.YtegcjkhebecgbaaKFinitec

/- Contract: leastLong, LeastLong of the program. -/
set_option linter.unusedVariables false
set_option linter.unusedSimpArgs false
set_option maxRecDepth 100000

namespace Go.Proofs.Ytegcjkhebecgbaa
open Go Go.Sh Go.RowKit
section
variable {w : World} {k : Value → World → Prop} {Y : Option Addr} {cy : Nat} {gm : Gram}
theorem inf160' : Inf Try.prog 160 (.agg #[.int .i64 0, .int .i64 0, .int .i64 0, .int .i64 0, .int .i64 0, .int .i64 0]) 6 48 := inf_of (by kernel_rfl)
set_option maxHeartbeats 12800000 in
theorem leastLong_c (hG : kG Y cy gm.rules w) (hg : goodG gm = true) (hk : ∀ w' L, Gr w w' → L.length = 6 → SndL gm.rules L → FixL gm.rules L → k (.agg (ints L).toArray) w') :
    CallK Try.prog 186 [grv gm Y cy] k w := by
  refine enter186 ?_
  unfold S186
  have H := Apt.nil w
  refine boxH H fun b1 w1 H => ?_
  refine allocH H inf160' fun b3 w2 H => ?_
  refine rdi (rd_buildA u160 sz3 inf160' rfl) ?_
  refine allocH H inf160' fun b6 w3 H => ?_
  refine storeH H 2 rfl sz160 rfl rfl rfl fun w4 H => ?_
  have H : Apt w w4 [bx b1 [.int .i64 gm.nons, .int .i64 gm.toks, .slice Y gm.rules.length cy] 26, bx b3 [.int .i64 0, .int .i64 0, .int .i64 0, .int .i64 0, .int .i64 0, .int .i64 0] 160, bx b6 (ints (List.replicate 6 0)) 160] := H
  have hgr := goodRules hg
  have hn := good_nons hg
  have hr1 : ∀ r ∈ gm.rules, (0 ≤ r.1 ∧ r.1 < ((6 : Nat) : Int)) ∧ r.2.length ≤ 4 ∧ ∀ x ∈ r.2, x < ((6 : Nat) : Int) := fun r hr => by
    have := hgr r hr
    exact ⟨by omega, this.2.1, fun x hx => by have := this.2.2 x hx; omega⟩
  have hm0 : 0 < 6 := by omega
  have hm6 : 6 ≤ 6 := by omega
  refine loop_to 6 0 (fun i f w' => i ≤ 6 ∧ f 12 = .int .i64 (i : Int) ∧ Apt w w' [bx b1 [.int .i64 gm.nons, .int .i64 gm.toks, .slice Y gm.rules.length cy] 26, bx b3 [.int .i64 0, .int .i64 0, .int .i64 0, .int .i64 0, .int .i64 0, .int .i64 0] 160, bx b6 (ints (List.replicate i (-1) ++ List.replicate (6 - i) 0)) 160])
    ⟨Nat.zero_le _, rfl, by rw [List.replicate_zero, List.nil_append, Nat.sub_zero]; exact H⟩ ?_
  clear H
  rintro i f w5 N hag ⟨hi, fII, H⟩ hN
  have fAR : f 3 = ptrv b6 := hag 3 (by decide)
  have f1 : f 1 = ptrv b1 := hag 1 (by decide)
  have f2 : f 2 = ptrv b3 := hag 2 (by decide)
  simp only [f1, fII, fAR, f2, zq18, zq19, zq20, zq21, zq22, zq23, zq24, zq25, zq26, zq27, zq28, zq4, zq3, zq1, zq2, zq0, zq29, zq30, zq14, zq15, zq16, zq17, zq13, zq10, zq12, zq11, zq7, zq5, zq6, zq9, zq8, zq31, zq32, ite_T, ite_F, zq33, zq34, zq35, Nat.reduceEqDiff, len22, len24, fa26_0, fa26_1, fa26_2, len27, fa33_0, fa33_1, len35, fa114_0, fa114_1, fa114_2, fa124_0, fa124_1, len134]
  by_cases hlt : i < 6
  case pos =>
    simp only [show ((i : Int) < 6) from by omega, decide_true, zq18, zq19, zq20, zq21, zq22, zq23, zq24, zq25, zq26, zq27, zq28, zq4, zq3, zq1, zq2, zq0, zq29, zq30, zq14, zq15, zq16, zq17, zq13, zq10, zq12, zq11, zq7, zq5, zq6, zq9, zq8, zq31, zq32, ite_T, ite_F, zq33, zq34, zq35, Nat.reduceEqDiff, len22, len24, fa26_0, fa26_1, fa26_2, len27, fa33_0, fa33_1, len35, fa114_0, fa114_1, fa114_2, fa124_0, fa124_1, len134]
    refine rdi (ixa160 (by omega) (by omega)) ?_
    rw [zq34, Nat.zero_add, Int.toNat_natCast]
    refine storeH H 2 rfl sz3 rfl rfl (Nat.ble_eq_true_of_le (by simp [ints]; omega)) fun w9 H => ?_
    rw [put_ints (by simp; omega)] at H
    simp only [List.set_cons_zero, List.set_cons_succ] at H
    rw [minus_set hlt] at H
    rw [i64_of (by omega) (by omega)]
    exact hN _ _ hlt ⟨by omega, rfl, H⟩
  simp only [show ¬ ((i : Int) < 6) from by omega, decide_false, zq18, zq19, zq20, zq21, zq22, zq23, zq24, zq25, zq26, zq27, zq28, zq4, zq3, zq1, zq2, zq0, zq29, zq30, zq14, zq15, zq16, zq17, zq13, zq10, zq12, zq11, zq7, zq5, zq6, zq9, zq8, zq31, zq32, ite_T, ite_F, zq33, zq34, zq35, Nat.reduceEqDiff, len22, len24, fa26_0, fa26_1, fa26_2, len27, fa33_0, fa33_1, len35, fa114_0, fa114_1, fa114_2, fa124_0, fa124_1, len134]
  have e6 : i = 6 := by omega
  subst e6
  simp only [Nat.sub_self, List.replicate_zero, List.append_nil] at H
  clear hN hag
  refine loop_ghost (σ := List Int × Bool) (fun s f w' => f 5 = .bool s.2 ∧ OkL gm.rules 6 s.1 ∧ (s.2 = false → ∀ r ∈ gm.rules, doneL s.1 r) ∧ Apt w w' [bx b1 [.int .i64 gm.nons, .int .i64 gm.toks, .slice Y gm.rules.length cy] 26, bx b3 [.int .i64 0, .int .i64 0, .int .i64 0, .int .i64 0, .int .i64 0, .int .i64 0] 160, bx b6 (ints s.1) 160])
    (fun s => if s.2 = true then restL s.1 + 1 else 0) (List.replicate 6 (-1), true) ⟨rfl, okL_zero _ _, (fun h => by cases h), H⟩ ?_
  clear H
  rintro ⟨L, more⟩ g w6 N hag ⟨gMO, hok, hcl, H⟩ hN
  dsimp only at gMO hok hcl H hN
  have g1 : g 1 = ptrv b1 := (hag 1 (by decide)).trans f1
  have gAR : g 3 = ptrv b6 := (hag 3 (by decide)).trans fAR
  have g2 : g 2 = ptrv b3 := (hag 2 (by decide)).trans f2
  simp only [g1, gAR, gMO, g2, zq18, zq19, zq20, zq21, zq22, zq23, zq24, zq25, zq26, zq27, zq28, zq4, zq3, zq1, zq2, zq0, zq29, zq30, zq14, zq15, zq16, zq17, zq13, zq10, zq12, zq11, zq7, zq5, zq6, zq9, zq8, zq31, zq32, ite_T, ite_F, zq33, zq34, zq35, Nat.reduceEqDiff, len22, len24, fa26_0, fa26_1, fa26_2, len27, fa33_0, fa33_1, len35, fa114_0, fa114_1, fa114_2, fa124_0, fa124_1, len134]
  cases more
  case false =>
    simp only [gAR, g2, zq18, zq19, zq20, zq21, zq22, zq23, zq24, zq25, zq26, zq27, zq28, zq4, zq3, zq1, zq2, zq0, zq29, zq30, zq14, zq15, zq16, zq17, zq13, zq10, zq12, zq11, zq7, zq5, zq6, zq9, zq8, zq31, zq32, ite_T, ite_F, zq33, zq34, zq35, Nat.reduceEqDiff, len22, len24, fa26_0, fa26_1, fa26_2, len27, fa33_0, fa33_1, len35, fa114_0, fa114_1, fa114_2, fa124_0, fa124_1, len134]
    have hlen := hok.len
    have hcl := fixL_of (hcl rfl)
    obtain ⟨a0, a1, a2, a3, a4, a5, rfl⟩ : ∃ a b c d e f, L = [a, b, c, d, e, f] := by
      match L, hlen with
      | [a, b, c, d, e, f], _ => exact ⟨a, b, c, d, e, f, rfl⟩
    rw [ldB_agg agg160 sz160 rfl (H.box 2 rfl)]
    refine storeH H 1 rfl sz160 rfl rfl rfl fun w6 H => ?_
    have H : Apt w w6 [bx b1 [.int .i64 gm.nons, .int .i64 gm.toks, .slice Y gm.rules.length cy] 26, bx b3 (ints [a0, a1, a2, a3, a4, a5]) 160, bx b6 (ints [a0, a1, a2, a3, a4, a5]) 160] := H
    rw [rd_loadVar, ldB_agg agg160 sz160 rfl (H.box 1 rfl)]
    exact hk w6 _ H.gr rfl hok.snd hcl
  simp only [zq18, zq19, zq20, zq21, zq22, zq23, zq24, zq25, zq26, zq27, zq28, zq4, zq3, zq1, zq2, zq0, zq29, zq30, zq14, zq15, zq16, zq17, zq13, zq10, zq12, zq11, zq7, zq5, zq6, zq9, zq8, zq31, zq32, ite_T, ite_F, zq33, zq34, zq35, Nat.reduceEqDiff, len22, len24, fa26_0, fa26_1, fa26_2, len27, fa33_0, fa33_1, len35, fa114_0, fa114_1, fa114_2, fa124_0, fa124_1, len134]
  rw [ldB24 (H.box 0 rfl) rfl]
  simp only [zq18, zq19, zq20, zq21, zq22, zq23, zq24, zq25, zq26, zq27, zq28, zq4, zq3, zq1, zq2, zq0, zq29, zq30, zq14, zq15, zq16, zq17, zq13, zq10, zq12, zq11, zq7, zq5, zq6, zq9, zq8, zq31, zq32, ite_T, ite_F, zq33, zq34, zq35, Nat.reduceEqDiff, len22, len24, fa26_0, fa26_1, fa26_2, len27, fa33_0, fa33_1, len35, fa114_0, fa114_1, fa114_2, fa124_0, fa124_1, len134]
  refine loop_to gm.rules.length 0 (fun i q w' => i ≤ gm.rules.length ∧ q 22 = .int .i64 (i : Int) ∧ ∃ (L2 : List Int) (m2 : Bool), q 5 = .bool m2 ∧ OkL gm.rules 6 L2 ∧
      (m2 = false → L2 = L ∧ ∀ z, z < i → doneL L (rul gm.rules z)) ∧ (m2 = true → restL L2 < restL L) ∧ Apt w w' [bx b1 [.int .i64 gm.nons, .int .i64 gm.toks, .slice Y gm.rules.length cy] 26, bx b3 [.int .i64 0, .int .i64 0, .int .i64 0, .int .i64 0, .int .i64 0, .int .i64 0] 160, bx b6 (ints L2) 160])
    ⟨Nat.zero_le _, rfl, L, false, rfl, hok, (fun _ => ⟨rfl, fun z hz => by omega⟩), (fun h => by cases h), H⟩ ?_
  clear H
  rintro i q w7 N2 hag2 ⟨hi, qRI, L2, m2, qMO, hok2, hno, hyes, H⟩ hN2
  have qAR : q 3 = ptrv b6 := (hag2 3 (by decide)).trans gAR
  have qRS : q 20 = .slice Y gm.rules.length cy := hag2 20 (by decide)
  have qRL : q 21 = .int .i64 gm.rules.length := hag2 21 (by decide)
  have hRF := hG.2.gr H.gr
  have hle := hRF.le
  simp only [qAR, qRS, qRL, qRI, qMO, zq18, zq19, zq20, zq21, zq22, zq23, zq24, zq25, zq26, zq27, zq28, zq4, zq3, zq1, zq2, zq0, zq29, zq30, zq14, zq15, zq16, zq17, zq13, zq10, zq12, zq11, zq7, zq5, zq6, zq9, zq8, zq31, zq32, ite_T, ite_F, zq33, zq34, zq35, Nat.reduceEqDiff, len22, len24, fa26_0, fa26_1, fa26_2, len27, fa33_0, fa33_1, len35, fa114_0, fa114_1, fa114_2, fa124_0, fa124_1, len134]
  by_cases hlt : i < gm.rules.length
  case neg =>
    simp only [show ¬ ((i : Int) < (gm.rules.length : Int)) from by omega, decide_false, zq18, zq19, zq20, zq21, zq22, zq23, zq24, zq25, zq26, zq27, zq28, zq4, zq3, zq1, zq2, zq0, zq29, zq30, zq14, zq15, zq16, zq17, zq13, zq10, zq12, zq11, zq7, zq5, zq6, zq9, zq8, zq31, zq32, ite_T, ite_F, zq33, zq34, zq35, Nat.reduceEqDiff, len22, len24, fa26_0, fa26_1, fa26_2, len27, fa33_0, fa33_1, len35, fa114_0, fa114_1, fa114_2, fa124_0, fa124_1, len134]
    refine hN (L2, m2) _ _ ⟨qMO, hok2, fun hm r hr' => ?_, H⟩ ?_
    · dsimp only at hm ⊢
      obtain ⟨e, hall⟩ := hno hm
      subst e
      obtain ⟨z, hz, rfl⟩ := List.getElem_of_mem hr'
      have := hall z (by omega)
      rwa [rul_eq hz] at this
    · cases m2
      · simp
      · have h1 := hyes rfl
        simp
        omega
  simp only [show ((i : Int) < (gm.rules.length : Int)) from by omega, decide_true, zq18, zq19, zq20, zq21, zq22, zq23, zq24, zq25, zq26, zq27, zq28, zq4, zq3, zq1, zq2, zq0, zq29, zq30, zq14, zq15, zq16, zq17, zq13, zq10, zq12, zq11, zq7, zq5, zq6, zq9, zq8, zq31, zq32, ite_T, ite_F, zq33, zq34, zq35, Nat.reduceEqDiff, len22, len24, fa26_0, fa26_1, fa26_2, len27, fa33_0, fa33_1, len35, fa114_0, fa114_1, fa114_2, fa124_0, fa124_1, len134]
  have hrm : rul gm.rules i ∈ gm.rules := by rw [rul_eq hlt]; exact List.getElem_mem hlt
  obtain ⟨hb1, hb2, hb3⟩ := hr1 _ hrm
  have hlen2 := hok2.len
  have hL2 : restL L2 ≤ restL L := by
    cases m2
    · rw [(hno rfl).1]
      exact Nat.le_refl _
    · exact Nat.le_of_lt (hyes rfl)
  refine join_as (fun f w' => f 22 = .int .i64 (i : Int) ∧ ∃ (L2 : List Int) (m2 : Bool), f 5 = .bool m2 ∧ OkL gm.rules 6 L2 ∧
      (m2 = false → L2 = L ∧ ∀ z, z < i + 1 → doneL L (rul gm.rules z)) ∧ (m2 = true → restL L2 < restL L) ∧ Apt w w' [bx b1 [.int .i64 gm.nons, .int .i64 gm.toks, .slice Y gm.rules.length cy] 26, bx b3 [.int .i64 0, .int .i64 0, .int .i64 0, .int .i64 0, .int .i64 0, .int .i64 0] 160, bx b6 (ints L2) 160]) (fun K hK => ?_) ?_
  case refine_2 =>
    rintro f w' ⟨f31, h⟩
    simp only [f31, zq18, zq19, zq20, zq21, zq22, zq23, zq24, zq25, zq26, zq27, zq28, zq4, zq3, zq1, zq2, zq0, zq29, zq30, zq14, zq15, zq16, zq17, zq13, zq10, zq12, zq11, zq7, zq5, zq6, zq9, zq8, zq31, zq32, ite_T, ite_F, zq33, zq34, zq35, Nat.reduceEqDiff, len22, len24, fa26_0, fa26_1, fa26_2, len27, fa33_0, fa33_1, len35, fa114_0, fa114_1, fa114_2, fa124_0, fa124_1, len134]
    rw [i64_of (by omega) (by omega)]
    exact hN2 _ _ hlt ⟨by omega, rfl, h⟩
  obtain ⟨a, ha⟩ : ∃ a : Nat, (rul gm.rules i).1 = (a : Int) := ⟨(rul gm.rules i).1.toNat, by omega⟩
  have ha' : (rul gm.rules i).1.toNat = a := by omega
  have hal : a < L2.length := by omega
  refine rdi (ixn24 hRF.ptr hlt) ?_
  refine ld_rule0 agg33 sz33 hG.2 H.gr hlt fun Z cz hcz hZ => ?_
  refine allocH H inf33 fun b9 w8 H => ?_
  refine storeH H 3 rfl sz33 rfl rfl rfl fun w9 H => ?_
  have H : Apt w w9 [bx b1 [.int .i64 gm.nons, .int .i64 gm.toks, .slice Y gm.rules.length cy] 26, bx b3 [.int .i64 0, .int .i64 0, .int .i64 0, .int .i64 0, .int .i64 0, .int .i64 0] 160, bx b6 (ints L2) 160, bx b9 [.int .i64 (a : Int), .slice Z (rul gm.rules i).2.length cz] 33] := by rw [← ha]; exact H
  simp only [zq18, zq19, zq20, zq21, zq22, zq23, zq24, zq25, zq26, zq27, zq28, zq4, zq3, zq1, zq2, zq0, zq29, zq30, zq14, zq15, zq16, zq17, zq13, zq10, zq12, zq11, zq7, zq5, zq6, zq9, zq8, zq31, zq32, ite_T, ite_F, zq33, zq34, zq35, Nat.reduceEqDiff, len22, len24, fa26_0, fa26_1, fa26_2, len27, fa33_0, fa33_1, len35, fa114_0, fa114_1, fa114_2, fa124_0, fa124_1, len134]
  rw [ldB27 (H.box 3 rfl) rfl]
  simp only [zq18, zq19, zq20, zq21, zq22, zq23, zq24, zq25, zq26, zq27, zq28, zq4, zq3, zq1, zq2, zq0, zq29, zq30, zq14, zq15, zq16, zq17, zq13, zq10, zq12, zq11, zq7, zq5, zq6, zq9, zq8, zq31, zq32, ite_T, ite_F, zq33, zq34, zq35, Nat.reduceEqDiff, len22, len24, fa26_0, fa26_1, fa26_2, len27, fa33_0, fa33_1, len35, fa114_0, fa114_1, fa114_2, fa124_0, fa124_1, len134]
  refine loop_to (rul gm.rules i).2.length 0 (fun j f w' => j ≤ (rul gm.rules i).2.length ∧ f 29 = .int .i64 (j : Int) ∧ f 8 = .int .i64 (seqLL L2 ((rul gm.rules i).2.take j)) ∧ Apt w w' [bx b1 [.int .i64 gm.nons, .int .i64 gm.toks, .slice Y gm.rules.length cy] 26, bx b3 [.int .i64 0, .int .i64 0, .int .i64 0, .int .i64 0, .int .i64 0, .int .i64 0] 160, bx b6 (ints L2) 160, bx b9 [.int .i64 (a : Int), .slice Z (rul gm.rules i).2.length cz] 33])
    ⟨Nat.zero_le _, rfl, rfl, H⟩ ?_
  clear H
  rintro j r w10 N3 hag3 ⟨hj, rJI, rN, H⟩ hN3
  have rAR : r 3 = ptrv b6 := (hag3 3 (by decide)).trans qAR
  have rMO : r 5 = .bool m2 := (hag3 5 (by decide)).trans qMO
  have rRU : r 7 = ptrv b9 := hag3 7 (by decide)
  have rRI : r 22 = .int .i64 (i : Int) := (hag3 22 (by decide)).trans qRI
  have rJS : r 27 = .slice Z (rul gm.rules i).2.length cz := hag3 27 (by decide)
  have rJL : r 28 = .int .i64 ((rul gm.rules i).2.length : Int) := hag3 28 (by decide)
  simp only [rAR, rRU, rJS, rJL, rJI, rN, zq18, zq19, zq20, zq21, zq22, zq23, zq24, zq25, zq26, zq27, zq28, zq4, zq3, zq1, zq2, zq0, zq29, zq30, zq14, zq15, zq16, zq17, zq13, zq10, zq12, zq11, zq7, zq5, zq6, zq9, zq8, zq31, zq32, ite_T, ite_F, zq33, zq34, zq35, Nat.reduceEqDiff, len22, len24, fa26_0, fa26_1, fa26_2, len27, fa33_0, fa33_1, len35, fa114_0, fa114_1, fa114_2, fa124_0, fa124_1, len134]
  have hZ' := hZ.gr H.gr
  have hnum := seqLL_num hok2.bd (by omega) (xs := (rul gm.rules i).2.take j) (by simp; omega)
  by_cases hlt2 : j < (rul gm.rules i).2.length
  case pos =>
    simp only [show ((j : Int) < ((rul gm.rules i).2.length : Int)) from by omega, decide_true, zq18, zq19, zq20, zq21, zq22, zq23, zq24, zq25, zq26, zq27, zq28, zq4, zq3, zq1, zq2, zq0, zq29, zq30, zq14, zq15, zq16, zq17, zq13, zq10, zq12, zq11, zq7, zq5, zq6, zq9, zq8, zq31, zq32, ite_T, ite_F, zq33, zq34, zq35, Nat.reduceEqDiff, len22, len24, fa26_0, fa26_1, fa26_2, len27, fa33_0, fa33_1, len35, fa114_0, fa114_1, fa114_2, fa124_0, fa124_1, len134]
    have hst := seqLL_take (L := L2) hlt2
    refine join_as (fun f w' => f 29 = .int .i64 (j : Int) ∧ f 8 = .int .i64 (seqLL L2 ((rul gm.rules i).2.take (j + 1))) ∧ Apt w w' [bx b1 [.int .i64 gm.nons, .int .i64 gm.toks, .slice Y gm.rules.length cy] 26, bx b3 [.int .i64 0, .int .i64 0, .int .i64 0, .int .i64 0, .int .i64 0, .int .i64 0] 160, bx b6 (ints L2) 160, bx b9 [.int .i64 (a : Int), .slice Z (rul gm.rules i).2.length cz] 33]) (fun K3 hK3 => ?_) ?_
    case refine_2 =>
      rintro f w' ⟨e1, e2, h⟩
      simp only [e1, zq18, zq19, zq20, zq21, zq22, zq23, zq24, zq25, zq26, zq27, zq28, zq4, zq3, zq1, zq2, zq0, zq29, zq30, zq14, zq15, zq16, zq17, zq13, zq10, zq12, zq11, zq7, zq5, zq6, zq9, zq8, zq31, zq32, ite_T, ite_F, zq33, zq34, zq35, Nat.reduceEqDiff, len22, len24, fa26_0, fa26_1, fa26_2, len27, fa33_0, fa33_1, len35, fa114_0, fa114_1, fa114_2, fa124_0, fa124_1, len134]
      rw [i64_of (by omega) (by omega)]
      exact hN3 _ _ hlt2 ⟨by omega, rfl, e2, h⟩
    refine rdi (ixn27 hZ'.ptr hlt2) (rdi (ld3 (hZ'.cell j hlt2)) ?_)
    have hxb := hb3 _ (getD_mem hlt2)
    have hnum2 := seqLL_num hok2.bd (by omega) (xs := (rul gm.rules i).2.take (j + 1)) (by simp; omega)
    rw [hst] at hnum2
    rw [hst] at hK3
    generalize (rul gm.rules i).2.getD j 0 = x at *
    generalize seqLL L2 ((rul gm.rules i).2.take j) = n at *
    simp only [rN, zq18, zq19, zq20, zq21, zq22, zq23, zq24, zq25, zq26, zq27, zq28, zq4, zq3, zq1, zq2, zq0, zq29, zq30, zq14, zq15, zq16, zq17, zq13, zq10, zq12, zq11, zq7, zq5, zq6, zq9, zq8, zq31, zq32, ite_T, ite_F, zq33, zq34, zq35, Nat.reduceEqDiff, len22, len24, fa26_0, fa26_1, fa26_2, len27, fa33_0, fa33_1, len35, fa114_0, fa114_1, fa114_2, fa124_0, fa124_1, len134]
    by_cases h0 : n < 0
    · simp only [h0, decide_true, zq18, zq19, zq20, zq21, zq22, zq23, zq24, zq25, zq26, zq27, zq28, zq4, zq3, zq1, zq2, zq0, zq29, zq30, zq14, zq15, zq16, zq17, zq13, zq10, zq12, zq11, zq7, zq5, zq6, zq9, zq8, zq31, zq32, ite_T, ite_F, zq33, zq34, zq35, Nat.reduceEqDiff, len22, len24, fa26_0, fa26_1, fa26_2, len27, fa33_0, fa33_1, len35, fa114_0, fa114_1, fa114_2, fa124_0, fa124_1, len134]
      exact hK3 _ _ ⟨rJI, by rw [show stepLL L2 n x = n from if_pos h0]; exact rN, H⟩
    simp only [h0, decide_false, zq18, zq19, zq20, zq21, zq22, zq23, zq24, zq25, zq26, zq27, zq28, zq4, zq3, zq1, zq2, zq0, zq29, zq30, zq14, zq15, zq16, zq17, zq13, zq10, zq12, zq11, zq7, zq5, zq6, zq9, zq8, zq31, zq32, ite_T, ite_F, zq33, zq34, zq35, Nat.reduceEqDiff, len22, len24, fa26_0, fa26_1, fa26_2, len27, fa33_0, fa33_1, len35, fa114_0, fa114_1, fa114_2, fa124_0, fa124_1, len134]
    by_cases hx : x < 0
    · simp only [hx, decide_true, rN, zq18, zq19, zq20, zq21, zq22, zq23, zq24, zq25, zq26, zq27, zq28, zq4, zq3, zq1, zq2, zq0, zq29, zq30, zq14, zq15, zq16, zq17, zq13, zq10, zq12, zq11, zq7, zq5, zq6, zq9, zq8, zq31, zq32, ite_T, ite_F, zq33, zq34, zq35, Nat.reduceEqDiff, len22, len24, fa26_0, fa26_1, fa26_2, len27, fa33_0, fa33_1, len35, fa114_0, fa114_1, fa114_2, fa124_0, fa124_1, len134]
      rw [i64_of (by omega) (by omega)]
      exact hK3 _ _ ⟨rJI, by rw [show stepLL L2 n x = n + 1 from by unfold stepLL; rw [if_neg h0, if_pos hx]]; rfl, H⟩
    simp only [hx, decide_false, rAR, zq18, zq19, zq20, zq21, zq22, zq23, zq24, zq25, zq26, zq27, zq28, zq4, zq3, zq1, zq2, zq0, zq29, zq30, zq14, zq15, zq16, zq17, zq13, zq10, zq12, zq11, zq7, zq5, zq6, zq9, zq8, zq31, zq32, ite_T, ite_F, zq33, zq34, zq35, Nat.reduceEqDiff, len22, len24, fa26_0, fa26_1, fa26_2, len27, fa33_0, fa33_1, len35, fa114_0, fa114_1, fa114_2, fa124_0, fa124_1, len134]
    obtain ⟨y, rfl⟩ : ∃ y : Nat, x = (y : Int) := ⟨x.toNat, by omega⟩
    have hyl : y < L2.length := by omega
    have hst2 : stepLL L2 n (y : Int) = if lat L2 y < 0 then -1 else n + lat L2 y := by unfold stepLL; rw [if_neg h0, if_neg hx, Int.toNat_natCast]
    rw [hst2] at hK3 hnum2
    refine rdi (ixa160 (by omega) (by omega)) ?_
    rw [zq34, Nat.zero_add, Int.toNat_natCast, ldB3 (H.box 2 rfl) (ints_get hyl)]
    simp only [zq18, zq19, zq20, zq21, zq22, zq23, zq24, zq25, zq26, zq27, zq28, zq4, zq3, zq1, zq2, zq0, zq29, zq30, zq14, zq15, zq16, zq17, zq13, zq10, zq12, zq11, zq7, zq5, zq6, zq9, zq8, zq31, zq32, ite_T, ite_F, zq33, zq34, zq35, Nat.reduceEqDiff, len22, len24, fa26_0, fa26_1, fa26_2, len27, fa33_0, fa33_1, len35, fa114_0, fa114_1, fa114_2, fa124_0, fa124_1, len134]
    by_cases hl : lat L2 y < 0
    · simp only [hl, decide_true, zq18, zq19, zq20, zq21, zq22, zq23, zq24, zq25, zq26, zq27, zq28, zq4, zq3, zq1, zq2, zq0, zq29, zq30, zq14, zq15, zq16, zq17, zq13, zq10, zq12, zq11, zq7, zq5, zq6, zq9, zq8, zq31, zq32, ite_T, ite_F, zq33, zq34, zq35, Nat.reduceEqDiff, len22, len24, fa26_0, fa26_1, fa26_2, len27, fa33_0, fa33_1, len35, fa114_0, fa114_1, fa114_2, fa124_0, fa124_1, len134]
      exact hK3 _ _ ⟨rJI, by rw [if_pos hl]; rfl, H⟩
    simp only [hl, decide_false, rAR, rN, zq18, zq19, zq20, zq21, zq22, zq23, zq24, zq25, zq26, zq27, zq28, zq4, zq3, zq1, zq2, zq0, zq29, zq30, zq14, zq15, zq16, zq17, zq13, zq10, zq12, zq11, zq7, zq5, zq6, zq9, zq8, zq31, zq32, ite_T, ite_F, zq33, zq34, zq35, Nat.reduceEqDiff, len22, len24, fa26_0, fa26_1, fa26_2, len27, fa33_0, fa33_1, len35, fa114_0, fa114_1, fa114_2, fa124_0, fa124_1, len134]
    refine rdi (ixa160 (by omega) (by omega)) ?_
    rw [zq34, Nat.zero_add, Int.toNat_natCast, ldB3 (H.box 2 rfl) (ints_get hyl)]
    simp only [zq18, zq19, zq20, zq21, zq22, zq23, zq24, zq25, zq26, zq27, zq28, zq4, zq3, zq1, zq2, zq0, zq29, zq30, zq14, zq15, zq16, zq17, zq13, zq10, zq12, zq11, zq7, zq5, zq6, zq9, zq8, zq31, zq32, ite_T, ite_F, zq33, zq34, zq35, Nat.reduceEqDiff, len22, len24, fa26_0, fa26_1, fa26_2, len27, fa33_0, fa33_1, len35, fa114_0, fa114_1, fa114_2, fa124_0, fa124_1, len134]
    rw [if_neg hl] at hK3 hnum2
    rw [i64_of (by omega) (by omega)]
    exact hK3 _ _ ⟨rJI, rfl, H⟩
  simp only [show ¬ ((j : Int) < ((rul gm.rules i).2.length : Int)) from by omega, decide_false, rAR, rRU, rN, zq18, zq19, zq20, zq21, zq22, zq23, zq24, zq25, zq26, zq27, zq28, zq4, zq3, zq1, zq2, zq0, zq29, zq30, zq14, zq15, zq16, zq17, zq13, zq10, zq12, zq11, zq7, zq5, zq6, zq9, zq8, zq31, zq32, ite_T, ite_F, zq33, zq34, zq35, Nat.reduceEqDiff, len22, len24, fa26_0, fa26_1, fa26_2, len27, fa33_0, fa33_1, len35, fa114_0, fa114_1, fa114_2, fa124_0, fa124_1, len134]
  rw [List.take_of_length_le (by omega)] at rN hnum ⊢
  have skip : doneL L2 (rul gm.rules i) → ∀ (f' : F), f' 22 = .int .i64 (i : Int) → f' 5 = .bool m2 → K f' w10 := fun hd f' e1 e2 => by
    have H := H.erase 3
    simp only [List.eraseIdx_cons_zero, List.eraseIdx_cons_succ] at H
    refine hK _ _ ⟨e1, L2, m2, e2, hok2, fun hm => ?_, hyes, H⟩
    obtain ⟨e, hall⟩ := hno hm
    subst e
    refine ⟨rfl, fun z hz => ?_⟩
    by_cases ez : z = i
    · subst ez
      exact hd
    · exact hall z (by omega)
  by_cases hs0 : 0 ≤ seqLL L2 (rul gm.rules i).2
  case neg =>
    simp only [hs0, decide_false, zq18, zq19, zq20, zq21, zq22, zq23, zq24, zq25, zq26, zq27, zq28, zq4, zq3, zq1, zq2, zq0, zq29, zq30, zq14, zq15, zq16, zq17, zq13, zq10, zq12, zq11, zq7, zq5, zq6, zq9, zq8, zq31, zq32, ite_T, ite_F, zq33, zq34, zq35, Nat.reduceEqDiff, len22, len24, fa26_0, fa26_1, fa26_2, len27, fa33_0, fa33_1, len35, fa114_0, fa114_1, fa114_2, fa124_0, fa124_1, len134]
    exact skip (fun h => hs0 h.1) _ rRI rMO
  have fire : (lat L2 a < 0 ∨ seqLL L2 (rul gm.rules i).2 < lat L2 a) → ∀ w', Apt w w' [bx b1 [.int .i64 gm.nons, .int .i64 gm.toks, .slice Y gm.rules.length cy] 26, bx b3 [.int .i64 0, .int .i64 0, .int .i64 0, .int .i64 0, .int .i64 0, .int .i64 0] 160, bx b6 (ints (L2.set a (seqLL L2 (rul gm.rules i).2))) 160, bx b9 [.int .i64 (a : Int), .slice Z (rul gm.rules i).2.length cz] 33] → ∀ (f' : F), f' 22 = .int .i64 (i : Int) → f' 5 = .bool true → K f' w' := fun hor w' H f' e1 e2 => by
    have H := H.erase 3
    simp only [List.eraseIdx_cons_zero, List.eraseIdx_cons_succ] at H
    have hset := okL_set hok2 hm6 hrm hb1 hb2 hs0 (by rw [ha']; exact hor)
    rw [ha'] at hset
    exact hK _ _ ⟨e1, _, true, e2, hset.1, (fun h => by cases h), (fun _ => by omega), H⟩
  simp only [hs0, decide_true, zq18, zq19, zq20, zq21, zq22, zq23, zq24, zq25, zq26, zq27, zq28, zq4, zq3, zq1, zq2, zq0, zq29, zq30, zq14, zq15, zq16, zq17, zq13, zq10, zq12, zq11, zq7, zq5, zq6, zq9, zq8, zq31, zq32, ite_T, ite_F, zq33, zq34, zq35, Nat.reduceEqDiff, len22, len24, fa26_0, fa26_1, fa26_2, len27, fa33_0, fa33_1, len35, fa114_0, fa114_1, fa114_2, fa124_0, fa124_1, len134]
  rw [ldB3 (H.box 3 rfl) rfl]
  refine rdi (ixa160 (by omega) (by omega)) ?_
  rw [zq34, Nat.zero_add, Int.toNat_natCast, ldB3 (H.box 2 rfl) (ints_get hal)]
  simp only [zq18, zq19, zq20, zq21, zq22, zq23, zq24, zq25, zq26, zq27, zq28, zq4, zq3, zq1, zq2, zq0, zq29, zq30, zq14, zq15, zq16, zq17, zq13, zq10, zq12, zq11, zq7, zq5, zq6, zq9, zq8, zq31, zq32, ite_T, ite_F, zq33, zq34, zq35, Nat.reduceEqDiff, len22, len24, fa26_0, fa26_1, fa26_2, len27, fa33_0, fa33_1, len35, fa114_0, fa114_1, fa114_2, fa124_0, fa124_1, len134]
  by_cases hneg : lat L2 a < 0
  · simp only [hneg, decide_true, rAR, rRU, rN, zq18, zq19, zq20, zq21, zq22, zq23, zq24, zq25, zq26, zq27, zq28, zq4, zq3, zq1, zq2, zq0, zq29, zq30, zq14, zq15, zq16, zq17, zq13, zq10, zq12, zq11, zq7, zq5, zq6, zq9, zq8, zq31, zq32, ite_T, ite_F, zq33, zq34, zq35, Nat.reduceEqDiff, len22, len24, fa26_0, fa26_1, fa26_2, len27, fa33_0, fa33_1, len35, fa114_0, fa114_1, fa114_2, fa124_0, fa124_1, len134]
    rw [ldB3 (H.box 3 rfl) rfl]
    refine rdi (ixa160 (by omega) (by omega)) ?_
    rw [zq34, Nat.zero_add, Int.toNat_natCast]
    refine storeH H 2 rfl sz3 rfl rfl (Nat.ble_eq_true_of_le (by simp [ints]; omega)) fun w9 H => ?_
    rw [put_ints hal] at H
    simp only [List.set_cons_zero, List.set_cons_succ] at H
    exact fire (.inl hneg) _ H _ rRI rfl
  simp only [hneg, decide_false, rAR, rRU, rN, zq18, zq19, zq20, zq21, zq22, zq23, zq24, zq25, zq26, zq27, zq28, zq4, zq3, zq1, zq2, zq0, zq29, zq30, zq14, zq15, zq16, zq17, zq13, zq10, zq12, zq11, zq7, zq5, zq6, zq9, zq8, zq31, zq32, ite_T, ite_F, zq33, zq34, zq35, Nat.reduceEqDiff, len22, len24, fa26_0, fa26_1, fa26_2, len27, fa33_0, fa33_1, len35, fa114_0, fa114_1, fa114_2, fa124_0, fa124_1, len134]
  rw [ldB3 (H.box 3 rfl) rfl]
  refine rdi (ixa160 (by omega) (by omega)) ?_
  rw [zq34, Nat.zero_add, Int.toNat_natCast, ldB3 (H.box 2 rfl) (ints_get hal)]
  simp only [zq18, zq19, zq20, zq21, zq22, zq23, zq24, zq25, zq26, zq27, zq28, zq4, zq3, zq1, zq2, zq0, zq29, zq30, zq14, zq15, zq16, zq17, zq13, zq10, zq12, zq11, zq7, zq5, zq6, zq9, zq8, zq31, zq32, ite_T, ite_F, zq33, zq34, zq35, Nat.reduceEqDiff, len22, len24, fa26_0, fa26_1, fa26_2, len27, fa33_0, fa33_1, len35, fa114_0, fa114_1, fa114_2, fa124_0, fa124_1, len134]
  by_cases hlt3 : seqLL L2 (rul gm.rules i).2 < lat L2 a
  · simp only [hlt3, decide_true, rAR, rRU, rN, zq18, zq19, zq20, zq21, zq22, zq23, zq24, zq25, zq26, zq27, zq28, zq4, zq3, zq1, zq2, zq0, zq29, zq30, zq14, zq15, zq16, zq17, zq13, zq10, zq12, zq11, zq7, zq5, zq6, zq9, zq8, zq31, zq32, ite_T, ite_F, zq33, zq34, zq35, Nat.reduceEqDiff, len22, len24, fa26_0, fa26_1, fa26_2, len27, fa33_0, fa33_1, len35, fa114_0, fa114_1, fa114_2, fa124_0, fa124_1, len134]
    rw [ldB3 (H.box 3 rfl) rfl]
    refine rdi (ixa160 (by omega) (by omega)) ?_
    rw [zq34, Nat.zero_add, Int.toNat_natCast]
    refine storeH H 2 rfl sz3 rfl rfl (Nat.ble_eq_true_of_le (by simp [ints]; omega)) fun w9 H => ?_
    rw [put_ints hal] at H
    simp only [List.set_cons_zero, List.set_cons_succ] at H
    exact fire (.inr hlt3) _ H _ rRI rfl
  simp only [hlt3, decide_false, zq18, zq19, zq20, zq21, zq22, zq23, zq24, zq25, zq26, zq27, zq28, zq4, zq3, zq1, zq2, zq0, zq29, zq30, zq14, zq15, zq16, zq17, zq13, zq10, zq12, zq11, zq7, zq5, zq6, zq9, zq8, zq31, zq32, ite_T, ite_F, zq33, zq34, zq35, Nat.reduceEqDiff, len22, len24, fa26_0, fa26_1, fa26_2, len27, fa33_0, fa33_1, len35, fa114_0, fa114_1, fa114_2, fa124_0, fa124_1, len134]
  exact skip (fun h => by rw [ha'] at h; omega) _ rRI rMO
theorem implLeastLong_c (hG : kG Y cy gm.rules w) (hk : ∀ w', Gr w w' → k (.tuple #[.int .i64 (llV gm).1, .bool (llV gm).2]) w') :
    CallK Try.prog 58 [grv gm Y cy] k w := by
  refine enter58 ?_
  unfold S58
  have H := Apt.nil w
  refine boxH H fun b1 w1 H => ?_
  rw [ldB_agg agg26 sz26 rfl (H.box 0 rfl)]
  refine isGrammar_c (gm := gm) (gvK ⟨hG.1, hG.2.gr H.gr⟩) fun w2 g => ?_
  have H := H.step g
  cases hg : goodG gm
  · simp only [Bool.not_false, zq18, zq19, zq20, zq21, zq22, zq23, zq24, zq25, zq26, zq27, zq28, zq4, zq3, zq1, zq2, zq0, zq29, zq30, zq14, zq15, zq16, zq17, zq13, zq10, zq12, zq11, zq7, zq5, zq6, zq9, zq8, zq31, zq32, ite_T, ite_F, zq33, zq34, zq35, Nat.reduceEqDiff, len22, len24, fa26_0, fa26_1, fa26_2, len27, fa33_0, fa33_1, len35, fa114_0, fa114_1, fa114_2, fa124_0, fa124_1, len134]
    have := hk w2 H.gr
    rwa [llV_bad hg] at this
  simp only [Bool.not_true, zq18, zq19, zq20, zq21, zq22, zq23, zq24, zq25, zq26, zq27, zq28, zq4, zq3, zq1, zq2, zq0, zq29, zq30, zq14, zq15, zq16, zq17, zq13, zq10, zq12, zq11, zq7, zq5, zq6, zq9, zq8, zq31, zq32, ite_T, ite_F, zq33, zq34, zq35, Nat.reduceEqDiff, len22, len24, fa26_0, fa26_1, fa26_2, len27, fa33_0, fa33_1, len35, fa114_0, fa114_1, fa114_2, fa124_0, fa124_1, len134]
  rw [ldB_agg agg26 sz26 rfl (H.box 0 rfl)]
  refine leastLong_c (gm := gm) ⟨hG.1, hG.2.gr H.gr⟩ hg fun w3 L g hl hs hf => ?_
  have H := H.step g
  obtain ⟨a0, a1, a2, a3, a4, a5, rfl⟩ : ∃ a b c d e f, L = [a, b, c, d, e, f] := by
    match L, hl with
    | [a, b, c, d, e, f], _ => exact ⟨a, b, c, d, e, f, rfl⟩
  have hL := longI_of hs hf
  have e0 : lat [a0, a1, a2, a3, a4, a5] 0 = a0 := rfl
  rw [e0] at hL
  refine allocH H inf160' fun b3 w4 H => ?_
  refine storeH H 1 rfl sz160 rfl rfl rfl fun w5 H => ?_
  have H : Apt w w5 [bx b1 [.int .i64 gm.nons, .int .i64 gm.toks, .slice Y gm.rules.length cy] 26, bx b3 (ints [a0, a1, a2, a3, a4, a5]) 160] := H
  refine rdi (ixa160 (by omega) (by omega)) ?_
  rw [zq34, Nat.zero_add, ldB3 (H.box 1 rfl) rfl]
  simp only [zq18, zq19, zq20, zq21, zq22, zq23, zq24, zq25, zq26, zq27, zq28, zq4, zq3, zq1, zq2, zq0, zq29, zq30, zq14, zq15, zq16, zq17, zq13, zq10, zq12, zq11, zq7, zq5, zq6, zq9, zq8, zq31, zq32, ite_T, ite_F, zq33, zq34, zq35, Nat.reduceEqDiff, len22, len24, fa26_0, fa26_1, fa26_2, len27, fa33_0, fa33_1, len35, fa114_0, fa114_1, fa114_2, fa124_0, fa124_1, len134]
  have := hk _ H.gr
  rw [llV_of hg hL] at this
  by_cases hneg : a0 < 0
  · simp only [hneg, decide_true, zq18, zq19, zq20, zq21, zq22, zq23, zq24, zq25, zq26, zq27, zq28, zq4, zq3, zq1, zq2, zq0, zq29, zq30, zq14, zq15, zq16, zq17, zq13, zq10, zq12, zq11, zq7, zq5, zq6, zq9, zq8, zq31, zq32, ite_T, ite_F, zq33, zq34, zq35, Nat.reduceEqDiff, len22, len24, fa26_0, fa26_1, fa26_2, len27, fa33_0, fa33_1, len35, fa114_0, fa114_1, fa114_2, fa124_0, fa124_1, len134]
    rwa [if_pos hneg] at this
  · simp only [hneg, decide_false, zq18, zq19, zq20, zq21, zq22, zq23, zq24, zq25, zq26, zq27, zq28, zq4, zq3, zq1, zq2, zq0, zq29, zq30, zq14, zq15, zq16, zq17, zq13, zq10, zq12, zq11, zq7, zq5, zq6, zq9, zq8, zq31, zq32, ite_T, ite_F, zq33, zq34, zq35, Nat.reduceEqDiff, len22, len24, fa26_0, fa26_1, fa26_2, len27, fa33_0, fa33_1, len35, fa114_0, fa114_1, fa114_2, fa124_0, fa124_1, len134]
    refine rdi (ixa160 (by omega) (by omega)) ?_
    rw [zq34, Nat.zero_add, ldB3 (H.box 1 rfl) rfl]
    rwa [if_neg hneg] at this
end
end Go.Proofs.Ytegcjkhebecgbaa

/- Ch: bodies of functions as terms of the frame calculus, printed by shgen.py of this repository. -/
set_option linter.unusedVariables false
set_option maxRecDepth 100000
namespace Go.Proofs.Ytegcjkhebecgbaa
open Go Go.Sh

/-! (loop.example/g00758/impl.Grammar).isFinite -/
def pl184 : Plans := fun i => match i with
  | 28 => ⟨false, [23], .step 0 .any (.step 1 .any (.step 2 .any (.step 3 .any (.step 4 .any (.step 5 .any (.step 6 .held (.step 7 .any (.step 8 .any (.step 9 .any (.step 10 .any (.step 11 .any (.step 12 .held (.step 13 .any (.step 14 .any (.step 15 .any (.step 16 .any (.step 17 .any (.step 18 .held (.step 19 .any (.step 20 .any (.step 21 .any (.step 22 .any (.step 23 .last (.nil))))))))))))))))))))))))⟩
  | _ => ⟨false, [], .nil⟩
def S184 (v0 : Value) (k : Value → World → Prop) (w : World) : Prop :=
 Do Try.prog (sBox 26 v0) (fun t1 w2 =>
 Rd Try.prog (WS.at w2) (sLoad 26 t1) fun t3 =>
 CallK Try.prog 194 [t3] (fun t4 w5 =>
 Do Try.prog (sAlloc 163) (fun t6 w7 =>
 Do Try.prog (sStore 163 t6 t4) (fun _ w8 =>
 Rd Try.prog (WS.at w8) (sBuild 224 []) fun t9 =>
 Rd Try.prog (WS.at w8) (sBuild 224 []) fun t10 =>
 Do Try.prog (sAlloc 224) (fun t11 w12 =>
 Do Try.prog (sAlloc 224) (fun t13 w14 =>
 Do Try.prog (sStore 224 t11 t9) (fun _ w15 =>
 Do Try.prog (sStore 224 t13 t10) (fun _ w16 =>
 Rd Try.prog (WS.at w16) (sFieldAddr 26 t1 2) fun t17 =>
 Rd Try.prog (WS.at w16) (sLoad 24 t17) fun t18 =>
 Rd Try.prog (WS.at w16) (sBuiltin .len #[24] 3 [false] [t18]) fun t19 =>
 LoopF [25, 26, 27, 7, 28, 29, 30, 31, 32, 33, 34, 35, 8, 9, 36, 37, 38, 39, 40, 41, 42, 43, 44, 45, 46, 47, 48, 49, 50, 10, 11, 51, 52, 53, 54, 55, 56, 57, 58, 59, 60, 61, 62, 63, 64, 65, 66, 67, 68, 46, 69, 31, 70, 24] (fun Q20 f21 w22 =>
  Rd Try.prog (WS.at w22) (sBin .lss 3 false (f21 24) (f21 23)) fun t23 =>
  CondK t23
   (Rd Try.prog (WS.at w22) (sIndexAddr 24 (f21 22) (f21 24)) fun t24 =>
   Rd Try.prog (WS.at w22) (sLoad 33 t24) fun t25 =>
   Do Try.prog (sAlloc 33) (fun t26 w27 =>
   Do Try.prog (sStore 33 t26 t25) (fun _ w28 =>
   Rd Try.prog (WS.at w28) (sFieldAddr 33 t26 1) fun t29 =>
   Rd Try.prog (WS.at w28) (sLoad 27 t29) fun t30 =>
   Rd Try.prog (WS.at w28) (sBuiltin .len #[27] 3 [false] [t30]) fun t31 =>
   LoopF [32, 33, 34, 35, 8, 9, 36, 37, 38, 39, 40, 41, 42, 43, 44, 45, 46, 47, 48, 49, 50, 10, 11, 51, 52, 53, 54, 55, 56, 57, 58, 59, 60, 61, 62, 63, 64, 65, 66, 67, 68, 46, 69, 31] (fun Q32 f33 w34 =>
    Rd Try.prog (WS.at w34) (sBin .lss 3 false (f33 31) (f33 30)) fun t35 =>
    CondK t35
     (Join (fun K36 =>
     Rd Try.prog (WS.at w34) (sIndexAddr 27 (f33 29) (f33 31)) fun t39 =>
     Rd Try.prog (WS.at w34) (sLoad 3 t39) fun t40 =>
     Rd Try.prog (WS.at w34) (sBin .lss 3 true t40 (.int .i64 0)) fun t41 =>
     CondK t41
      (K36 (F.upd (F.upd (F.upd (F.upd (F.upd (F.upd (F.upd (F.upd f33 32 t35) 33 (f33 31)) 34 t39) 35 t40) 8 (f33 31)) 9 t40) 36 t40) 37 t41) w34)
      (Rd Try.prog (WS.at w34) (sFieldAddr 33 (f33 7) 0) fun t42 =>
      Rd Try.prog (WS.at w34) (sLoad 3 t42) fun t43 =>
      Rd Try.prog (WS.at w34) (sIndexAddr 224 (f33 4) t43) fun t44 =>
      Rd Try.prog (WS.at w34) (sIndexAddr 163 t44 t40) fun t45 =>
      Do Try.prog (sStore 4 t45 (.bool true)) (fun _ w46 =>
      Rd Try.prog (WS.at w46) (sFieldAddr 33 (f33 7) 1) fun t47 =>
      Rd Try.prog (WS.at w46) (sLoad 27 t47) fun t48 =>
      Rd Try.prog (WS.at w46) (sBuiltin .len #[27] 3 [false] [t48]) fun t49 =>
      LoopF [47, 48, 49, 50, 10, 11, 51, 52, 53, 54, 55, 56, 57, 58, 59, 60, 61, 62, 63, 64, 65, 66, 67, 68, 46] (fun Q50 f51 w52 =>
       Rd Try.prog (WS.at w52) (sBin .lss 3 false (f51 46) (f51 45)) fun t53 =>
       CondK t53
        (Join (fun K54 =>
        Rd Try.prog (WS.at w52) (sIndexAddr 27 (f51 44) (f51 46)) fun t57 =>
        Rd Try.prog (WS.at w52) (sLoad 3 t57) fun t58 =>
        Rd Try.prog (WS.at w52) (sBin .neq 3 false (f51 46) (f51 8)) fun t59 =>
        GuardK t59 true (fun k w' => k t58 w') (fun t60 w61 =>
        GuardK t59 true (fun k w' => Rd Try.prog (WS.at w61) (sBin .lss 3 true t60 (.int .i64 0)) fun v => k v w') (fun t62 w63 =>
        GuardK t59 true (fun k w' => k t62 w') (fun t64 w65 =>
        GuardK t64 false (fun k w' => k t58 w') (fun t66 w67 =>
        GuardK t64 false (fun k w' => Rd Try.prog (WS.at w67) (sIndexAddr 163 (f51 3) t66) fun v => k v w') (fun t68 w69 =>
        GuardK t64 false (fun k w' => Rd Try.prog (WS.at w69) (sLoad 4 t68) fun v => k v w') (fun t70 w71 =>
        GuardK t59 true (fun k w' => Rd Try.prog (WS.at w71) (sPick t64 (.bool true) t70) fun v => k v w') (fun t72 w73 =>
        Rd Try.prog (WS.at w73) (sPick t59 t72 (.bool false)) fun t74 =>
        CondK t74
         (Rd Try.prog (WS.at w73) (sFieldAddr 33 (f51 7) 0) fun t75 =>
         Rd Try.prog (WS.at w73) (sLoad 3 t75) fun t76 =>
         Rd Try.prog (WS.at w73) (sIndexAddr 224 (f51 5) t76) fun t77 =>
         Rd Try.prog (WS.at w73) (sIndexAddr 163 t77 (f51 9)) fun t78 =>
         Do Try.prog (sStore 4 t78 (.bool true)) (fun _ w79 =>
         K54 (F.upd (F.upd (F.upd (F.upd (F.upd (F.upd (F.upd (F.upd (F.upd (F.upd (F.upd (F.upd (F.upd (F.upd (F.upd (F.upd (F.upd (F.upd (F.upd (F.upd (F.upd (F.upd (F.upd f51 47 t53) 48 (f51 46)) 49 t57) 50 t58) 10 (f51 46)) 11 t58) 51 (f51 46)) 52 (f51 8)) 53 t59) 54 t59) 55 t60) 56 t62) 57 t64) 58 t66) 59 t68) 60 t70) 61 t72) 62 t74) 63 t75) 64 t76) 65 (f51 9)) 66 t77) 67 t78) w79) w73)
         (K54 (F.upd (F.upd (F.upd (F.upd (F.upd (F.upd (F.upd (F.upd (F.upd (F.upd (F.upd (F.upd (F.upd (F.upd (F.upd (F.upd (F.upd (F.upd f51 47 t53) 48 (f51 46)) 49 t57) 50 t58) 10 (f51 46)) 11 t58) 51 (f51 46)) 52 (f51 8)) 53 t59) 54 t59) 55 t60) 56 t62) 57 t64) 58 t66) 59 t68) 60 t70) 61 t72) 62 t74) w73)) w71) w69) w67) w65) w63) w61) w52) (fun f55 w56 =>
        Rd Try.prog (WS.at w56) (sBin .add 3 true (f55 46) (.int .i64 1)) fun t80 =>
        Q50 .normal (F.upd (F.upd f55 68 t80) 46 t80) w56))
        (Q50 (.exit 4) (F.upd f51 47 t53) w52))
       (blockQ 4 (blockQ 3 (seqQ K36 Q32)))
       (F.upd (F.upd (F.upd (F.upd (F.upd (F.upd (F.upd (F.upd (F.upd (F.upd (F.upd (F.upd (F.upd (F.upd (F.upd (F.upd (F.upd f33 32 t35) 33 (f33 31)) 34 t39) 35 t40) 8 (f33 31)) 9 t40) 36 t40) 37 t41) 38 t42) 39 t43) 40 t40) 41 t44) 42 t45) 43 t47) 44 t48) 45 t49) 46 (.int .i64 0)) w46) w34)) (fun f37 w38 =>
     Rd Try.prog (WS.at w38) (sBin .add 3 true (f37 31) (.int .i64 1)) fun t83 =>
     Q32 .normal (F.upd (F.upd f37 69 t83) 31 t83) w38))
     (Q32 (.exit 2) (F.upd f33 32 t35) w34))
    (blockQ 2 (blockQ 1 (seqQ (fun f84 w85 =>
   Rd Try.prog (WS.at w85) (sBin .add 3 true (f84 24) (.int .i64 1)) fun t86 =>
   Q20 .normal (F.upd (F.upd f84 70 t86) 24 t86) w85) Q20)))
    (F.upd (F.upd (F.upd (F.upd (F.upd (F.upd (F.upd (F.upd f21 25 t23) 26 t24) 27 t25) 7 t26) 28 t29) 29 t30) 30 t31) 31 (.int .i64 0)) w28) w27) w22)
   (Q20 (.exit 0) (F.upd f21 25 t23) w22))
  (blockQ 0 (seqQ (fun f87 w88 =>
 LoopF [72, 73, 12, 74, 75, 76, 13, 77, 78, 79, 14, 80, 81, 82, 83, 84, 85, 86, 87, 88, 89, 90, 91, 92, 93, 94, 95, 96, 97, 98, 99, 100, 101, 102, 103, 77, 104, 74, 105, 71] (fun Q89 f90 w91 =>
  Rd Try.prog (WS.at w91) (sBin .lss 3 true (f90 71) (.int .i64 6)) fun t92 =>
  CondK t92
   (LoopF [75, 76, 13, 77, 78, 79, 14, 80, 81, 82, 83, 84, 85, 86, 87, 88, 89, 90, 91, 92, 93, 94, 95, 96, 97, 98, 99, 100, 101, 102, 103, 77, 104, 74] (fun Q93 f94 w95 =>
    Rd Try.prog (WS.at w95) (sBin .lss 3 true (f94 74) (.int .i64 6)) fun t96 =>
    CondK t96
     (LoopF [78, 79, 14, 80, 81, 82, 83, 84, 85, 86, 87, 88, 89, 90, 91, 92, 93, 94, 95, 96, 97, 98, 99, 100, 101, 102, 103, 77] (fun Q97 f98 w99 =>
      Rd Try.prog (WS.at w99) (sBin .lss 3 true (f98 77) (.int .i64 6)) fun t100 =>
      CondK t100
       (Rd Try.prog WS.any (sIndexAddr 224 (f98 4) (f98 13)) fun t101 =>
       Rd Try.prog WS.any (sIndexAddr 163 t101 (f98 77)) fun t102 =>
       Rd Try.prog (WS.at w99.drew) (sLoad 4 t102) fun t103 =>
       GuardK t103 false (fun k w' => k (f98 13) w') (fun t104 w105 =>
       GuardK t103 false (fun k w' => k (f98 12) w') (fun t106 w107 =>
       GuardK t103 false (fun k w' => Rd Try.prog WS.any (sIndexAddr 224 (f98 4) t104) fun v => k v w') (fun t108 w109 =>
       GuardK t103 false (fun k w' => Rd Try.prog WS.any (sIndexAddr 163 t108 t106) fun v => k v w') (fun t110 w111 =>
       GuardK t103 false (fun k w' => Rd Try.prog (WS.at w99.drew) (sLoad 4 t110) fun v => k v w') (fun t112 w113 =>
       GuardK t103 false (fun k w' => k t112 w') (fun t114 w115 =>
       GuardK t114 true (fun k w' => k (f98 12) w') (fun t116 w117 =>
       GuardK t114 true (fun k w' => k (f98 77) w') (fun t118 w119 =>
       GuardK t114 true (fun k w' => Rd Try.prog WS.any (sIndexAddr 224 (f98 4) t116) fun v => k v w') (fun t120 w121 =>
       GuardK t114 true (fun k w' => Rd Try.prog WS.any (sIndexAddr 163 t120 t118) fun v => k v w') (fun t122 w123 =>
       GuardK t114 true (fun k w' => Rd Try.prog (WS.at w99.drew) (sLoad 4 t122) fun v => k v w') (fun t124 w125 =>
       GuardK t103 false (fun k w' => Rd Try.prog WS.any (sPick t114 t124 (.bool false)) fun v => k v w') (fun t126 w127 =>
       Rd Try.prog WS.any (sPick t103 (.bool true) t126) fun t128 =>
       Rd Try.prog WS.any (sIndexAddr 224 (f98 4) (f98 13)) fun t129 =>
       Rd Try.prog WS.any (sIndexAddr 163 t129 (f98 77)) fun t130 =>
       Do Try.prog (sStore 4 t130 t128) (fun _ w131 =>
       Rd Try.prog (WS.at w131) (sBin .add 3 true (f98 77) (.int .i64 1)) fun t132 =>
       Q97 .normal (F.upd (F.upd (F.upd (F.upd (F.upd (F.upd (F.upd (F.upd (F.upd (F.upd (F.upd (F.upd (F.upd (F.upd (F.upd (F.upd (F.upd (F.upd (F.upd (F.upd (F.upd (F.upd (F.upd (F.upd (F.upd (F.upd (F.upd (F.upd f98 78 t100) 79 (f98 77)) 14 (f98 77)) 80 (f98 13)) 81 (f98 77)) 82 (f98 13)) 83 (f98 77)) 84 t101) 85 t102) 86 t103) 87 t103) 88 t104) 89 t106) 90 t108) 91 t110) 92 t112) 93 t114) 94 t116) 95 t118) 96 t120) 97 t122) 98 t124) 99 t126) 100 t128) 101 t129) 102 t130) 103 t132) 77 t132) w131) w127) w125) w123) w121) w119) w117) w115) w113) w111) w109) w107) w105) w99.drew)
       (Q97 (.exit 10) (F.upd f98 78 t100) w99))
      (blockQ 10 (blockQ 9 (seqQ (fun f133 w134 =>
     Rd Try.prog (WS.at w134) (sBin .add 3 true (f133 74) (.int .i64 1)) fun t135 =>
     Q93 .normal (F.upd (F.upd f133 104 t135) 74 t135) w134) Q93)))
      (F.upd (F.upd (F.upd (F.upd f94 75 t96) 76 (f94 74)) 13 (f94 74)) 77 (.int .i64 0)) w95)
     (Q93 (.exit 8) (F.upd f94 75 t96) w95))
    (blockQ 8 (blockQ 7 (seqQ (fun f136 w137 =>
   Rd Try.prog (WS.at w137) (sBin .add 3 true (f136 71) (.int .i64 1)) fun t138 =>
   Q89 .normal (F.upd (F.upd f136 105 t138) 71 t138) w137) Q89)))
    (F.upd (F.upd (F.upd (F.upd f90 72 t92) 73 (f90 71)) 12 (f90 71)) 74 (.int .i64 0)) w91)
   (Q89 (.exit 6) (F.upd f90 72 t92) w91))
  (blockQ 6 (seqQ (fun f139 w140 =>
 LoopF [107, 108, 15, 109, 110, 111, 16, 112, 113, 114, 115, 116, 117, 118, 119, 120, 121, 122, 123, 124, 125, 126, 127, 128, 2, 129, 109, 130, 106] (fun Q141 f142 w143 =>
  Rd Try.prog (WS.at w143) (sBin .lss 3 true (f142 106) (.int .i64 6)) fun t144 =>
  CondK t144
   (LoopF [110, 111, 16, 112, 113, 114, 115, 116, 117, 118, 119, 120, 121, 122, 123, 124, 125, 126, 127, 128, 2, 129, 109] (fun Q145 f146 w147 =>
    Rd Try.prog (WS.at w147) (sBin .lss 3 true (f146 109) (.int .i64 6)) fun t148 =>
    CondK t148
     (Rd Try.prog (WS.at w147) (sIndexAddr 224 (f146 5) (f146 15)) fun t149 =>
     Rd Try.prog (WS.at w147) (sIndexAddr 163 t149 (f146 109)) fun t150 =>
     Rd Try.prog (WS.at w147) (sLoad 4 t150) fun t151 =>
     GuardK t151 true (fun k w' => k (f146 15) w') (fun t152 w153 =>
     GuardK t151 true (fun k w' => k (f146 109) w') (fun t154 w155 =>
     GuardK t151 true (fun k w' => Rd Try.prog (WS.at w155) (sBin .eql 3 false t152 t154) fun v => k v w') (fun t156 w157 =>
     GuardK t151 true (fun k w' => k t156 w') (fun t158 w159 =>
     GuardK t158 false (fun k w' => k (f146 109) w') (fun t160 w161 =>
     GuardK t158 false (fun k w' => k (f146 15) w') (fun t162 w163 =>
     GuardK t158 false (fun k w' => Rd Try.prog (WS.at w163) (sIndexAddr 224 (f146 4) t160) fun v => k v w') (fun t164 w165 =>
     GuardK t158 false (fun k w' => Rd Try.prog (WS.at w165) (sIndexAddr 163 t164 t162) fun v => k v w') (fun t166 w167 =>
     GuardK t158 false (fun k w' => Rd Try.prog (WS.at w167) (sLoad 4 t166) fun v => k v w') (fun t168 w169 =>
     GuardK t151 true (fun k w' => Rd Try.prog (WS.at w169) (sPick t158 (.bool true) t168) fun v => k v w') (fun t170 w171 =>
     Rd Try.prog (WS.at w171) (sPick t151 t170 (.bool false)) fun t172 =>
     CondK t172
      (Q145 .ret (F.upd (F.upd (F.upd (F.upd (F.upd (F.upd (F.upd (F.upd (F.upd (F.upd (F.upd (F.upd (F.upd (F.upd (F.upd (F.upd (F.upd (F.upd (F.upd (F.upd (F.upd f146 110 t148) 111 (f146 109)) 16 (f146 109)) 112 (f146 15)) 113 (f146 109)) 114 t149) 115 t150) 116 t151) 117 t151) 118 t152) 119 t154) 120 t156) 121 t158) 122 t160) 123 t162) 124 t164) 125 t166) 126 t168) 127 t170) 128 t172) 2 (.bool false)) w171)
      (Rd Try.prog (WS.at w171) (sBin .add 3 true (f146 109) (.int .i64 1)) fun t173 =>
      Q145 .normal (F.upd (F.upd (F.upd (F.upd (F.upd (F.upd (F.upd (F.upd (F.upd (F.upd (F.upd (F.upd (F.upd (F.upd (F.upd (F.upd (F.upd (F.upd (F.upd (F.upd (F.upd (F.upd f146 110 t148) 111 (f146 109)) 16 (f146 109)) 112 (f146 15)) 113 (f146 109)) 114 t149) 115 t150) 116 t151) 117 t151) 118 t152) 119 t154) 120 t156) 121 t158) 122 t160) 123 t162) 124 t164) 125 t166) 126 t168) 127 t170) 128 t172) 129 t173) 109 t173) w171)) w169) w167) w165) w163) w161) w159) w157) w155) w153) w147)
     (Q145 (.exit 14) (F.upd f146 110 t148) w147))
    (blockQ 14 (blockQ 13 (seqQ (fun f174 w175 =>
   Rd Try.prog (WS.at w175) (sBin .add 3 true (f174 106) (.int .i64 1)) fun t176 =>
   Q141 .normal (F.upd (F.upd f174 130 t176) 106 t176) w175) Q141)))
    (F.upd (F.upd (F.upd (F.upd f142 107 t144) 108 (f142 106)) 15 (f142 106)) 109 (.int .i64 0)) w143)
   (Q141 (.exit 12) (F.upd f142 107 t144) w143))
  (blockQ 12 (seqQ (fun f177 w178 =>
 k (.bool true) w178) (bodyQ Try.prog [.tmp 2] k)))
  (F.upd f139 106 (.int .i64 0)) w140) (bodyQ Try.prog [.tmp 2] k)))
  (F.upd f87 71 (.int .i64 0)) w88) (bodyQ Try.prog [.tmp 2] k)))
  (F.upd (F.upd (F.upd (F.upd (F.upd (F.upd (F.upd (F.upd (F.upd (F.upd (F.upd (F.upd (F.upd (initF [v0]) 1 t1) 2 (.bool false)) 17 t3) 18 t4) 3 t6) 19 t9) 20 t10) 4 t11) 5 t13) 21 t17) 22 t18) 23 t19) 24 (.int .i64 0)) w16) w15) w14) w12) w8) w7) w5) w2) w
theorem body184 : Try.f184.body = some (bodyOf Try.f184) := by kernel_rfl
theorem same184 (v0 : Value) (k : Value → World → Prop) (w : World) : wpF Try.prog pl184 (bodyOf Try.f184) (bodyQ Try.prog Try.f184.results.toList k) (initF [v0]) w = S184 v0 k w := by kernel_rfl
theorem enter184 {v0 : Value} {k : Value → World → Prop} {w : World} (h : S184 v0 k w) : CallK Try.prog 184 [v0] k w :=
  call_of_wpF (pl := pl184) mixed Try.func184 body184 (by kernel_rfl) (of_decide_eq_true (by kernel_rfl)) (by kernel_rfl) (by kernel_rfl) (Eq.mpr (same184 v0 k w) h)

/-! loop.example/g00758/impl.IsFinite -/
def pl56 : Plans := fun _ => ⟨false, [], .nil⟩
def S56 (v0 : Value) (k : Value → World → Prop) (w : World) : Prop :=
 Do Try.prog (sBox 26 v0) (fun t1 w2 =>
 Rd Try.prog (WS.at w2) (sLoad 26 t1) fun t3 =>
 CallK Try.prog 148 [t3] (fun t4 w5 =>
 Rd Try.prog (WS.at w5) (sUn .not t4) fun t6 =>
 CondK t6
  (k (.tuple #[(.bool false), (.bool false)]) w5)
  (Rd Try.prog (WS.at w5) (sLoad 26 t1) fun t7 =>
  CallK Try.prog 183 [t7] (fun t8 w9 =>
  CallK Try.prog 184 [t8] (fun t10 w11 =>
  k (.tuple #[t10, (.bool true)]) w11) w9) w5)) w2) w
theorem body56 : Try.f56.body = some (bodyOf Try.f56) := by kernel_rfl
theorem same56 (v0 : Value) (k : Value → World → Prop) (w : World) : wpF Try.prog pl56 (bodyOf Try.f56) (bodyQ Try.prog Try.f56.results.toList k) (initF [v0]) w = S56 v0 k w := by kernel_rfl
theorem enter56 {v0 : Value} {k : Value → World → Prop} {w : World} (h : S56 v0 k w) : CallK Try.prog 56 [v0] k w :=
  call_of_wpF (pl := pl56) mixed Try.func56 body56 (by kernel_rfl) (of_decide_eq_true (by kernel_rfl)) (by kernel_rfl) (by kernel_rfl) (Eq.mpr (same56 v0 k w) h)

end Go.Proofs.Ytegcjkhebecgbaa

/- Contract: isFinite, IsFinite of the program. -/
set_option linter.unusedVariables false
set_option linter.unusedSimpArgs false
set_option maxRecDepth 100000
namespace Go.Sh
open Go
def none2 : Tb2 := fun _ _ => false
def cells36 (A : Tb2) : List Value := (List.range 36).map fun p => .bool (A (p / 6) (p % 6))
theorem cells36_len (A : Tb2) : (cells36 A).length = 36 := by simp [cells36]
theorem cells36_get {A : Tb2} {a b : Nat} (ha : a < 6) (hb : b < 6) : (cells36 A)[a * 6 + b]? = some (.bool (A a b)) := by
  unfold cells36
  rw [List.getElem?_map, List.getElem?_range (by omega)]
  have h1 : (a * 6 + b) / 6 = a := by omega
  have h2 : (a * 6 + b) % 6 = b := by omega
  simp [h1, h2]
theorem cells36_set {A : Tb2} {a b : Nat} {v : Bool} (ha : a < 6) (hb : b < 6) : (cells36 A).take (a * 6 + b) ++ (Value.bool v).cells.toList ++ (cells36 A).drop (a * 6 + b + 1) = cells36 (setT A a b v) := by
  have hl := cells36_len A
  have e : (cells36 A).take (a * 6 + b) ++ (Value.bool v).cells.toList ++ (cells36 A).drop (a * 6 + b + 1) = (cells36 A).set (a * 6 + b) (.bool v) := by
    rw [List.set_eq_take_append_cons_drop, if_pos (by omega), List.append_assoc]
    rfl
  rw [e]
  refine List.ext_getElem? fun p => ?_
  by_cases hp : p < 36
  · have h0 : ∀ B : Tb2, (cells36 B)[p]? = some (.bool (B (p / 6) (p % 6))) := fun B => by
      unfold cells36
      rw [List.getElem?_map, List.getElem?_range hp]
      rfl
    rw [List.getElem?_set, h0, h0]
    unfold setT
    by_cases hq : a * 6 + b = p
    · rw [if_pos hq, if_pos (by rw [hl]; omega), if_pos (by omega)]
    · rw [if_neg hq, if_neg (by omega)]
  · rw [List.getElem?_eq_none (by rw [List.length_set, hl]; omega), List.getElem?_eq_none (by rw [cells36_len]; omega)]
/-- What is told of one place of one rule. -/
def doneE (rs : List RuleL) (A M : Tb2) (r : RuleL) (p : Nat) : Prop := ∀ b : Nat, r.2.getD p 0 = (b : Int) → A r.1.toNat b = true ∧ ∀ m, m < r.2.length → m ≠ p → growX rs (r.2.getD m 0) → M r.1.toNat b = true
theorem doneE_mono {rs : List RuleL} {A B M N : Tb2} {r : RuleL} {p : Nat} (h : doneE rs A M r p) (h1 : leT A B) (h2 : leT M N) : doneE rs B N r p := fun b hb => ⟨h1 _ _ (h b hb).1, fun m hm hne hg => h2 _ _ ((h b hb).2 m hm hne hg)⟩
structure SndE (rs : List RuleL) (A M : Tb2) : Prop where
  all : ∀ a b, A a b = true → EdR rs a b
  more : ∀ a b, M a b = true → EgR rs a b
theorem sndE_none (rs : List RuleL) : SndE rs none2 none2 := ⟨(fun a b h => by simp [none2] at h), (fun a b h => by simp [none2] at h)⟩
theorem done_all {rs : List RuleL} {A M : Tb2} (h : ∀ r ∈ rs, ∀ p, p < r.2.length → doneE rs A M r p) : (∀ a b, EdR rs a b → A a b = true) ∧ ∀ a b, EgR rs a b → M a b = true := by
  constructor
  · rintro a b ⟨r, hr, e, p, hp, hb⟩
    have := (h r hr p hp b hb).1
    rwa [e, Int.toNat_natCast] at this
  · rintro a b ⟨r, hr, e, p, m, hp, hm, hne, hb, hg⟩
    have := (h r hr p hp b hb).2 m hm (fun e => hne e.symm) hg
    rwa [e, Int.toNat_natCast] at this
theorem setT_true_le (A : Tb2) (a b : Nat) : leT A (setT A a b true) := setT_le fun _ => rfl
theorem setT_self (A : Tb2) (a b : Nat) (v : Bool) : setT A a b v a b = v := by simp [setT]
theorem setT_none (a b : Nat) : setT none2 a b false = none2 := by
  funext x y
  unfold setT
  split <;> rfl
theorem edR_lt {rs : List RuleL} {n : Nat} (h : ∀ r ∈ rs, (0 ≤ r.1 ∧ r.1 < n) ∧ ∀ x ∈ r.2, x < n) : ∀ a b, EdR rs a b → a < n ∧ b < n := by
  rintro a b ⟨r, hr, e, p, hp, hb⟩
  have h1 := h r hr
  have h2 := h1.2 _ (getD_mem hp)
  omega
end Go.Sh
namespace Go.Proofs.Ytegcjkhebecgbaa
open Go Go.Sh Go.RowKit
theorem inf224' : Inf Try.prog 224 (.agg (Array.replicate 36 (.bool false))) 36 36 := inf_of (by kernel_rfl)
section
variable {w : World} {k : Value → World → Prop} {Y : Option Addr} {cy : Nat} {gm : Gram}
open Classical in
set_option maxHeartbeats 12800000 in
theorem isFinite_c (hG : kG Y cy gm.rules w) (h6 : SixR gm.rules) (hr4 : ∀ r ∈ gm.rules, r.2.length ≤ 1000) (hk : ∀ w', Gr w w' → k (.bool (!decide (CycB (EdR gm.rules) (EgR gm.rules) 6))) w') :
    CallK Try.prog 184 [grv gm Y cy] k w := by
  refine enter184 ?_
  unfold S184
  have H := Apt.nil w
  refine boxH H fun b1 w1 H => ?_
  rw [ldB_agg agg26 sz26 rfl (H.box 0 rfl)]
  refine growing_c (gm := gm) ⟨hG.1, hG.2.gr H.gr⟩ h6 fun w2 C g hC hP => ?_
  have H := H.step g
  refine allocH H inf163' fun b6 w3 H => ?_
  obtain ⟨c0, c1, c2, c3, c4, c5, rfl⟩ := six_of hC
  refine storeH H 1 rfl sz163 rfl rfl rfl fun w4 H => ?_
  have H : Apt w w4 [bx b1 [.int .i64 gm.nons, .int .i64 gm.toks, .slice Y gm.rules.length cy] 26, bx b6 ([c0, c1, c2, c3, c4, c5].map Value.bool) 163] := H
  generalize [c0, c1, c2, c3, c4, c5] = C at *
  have hgx : ∀ y, growX gm.rules y ↔ barG C y = true := fun y => by
    unfold growX barG
    rw [Bool.or_eq_true, decide_eq_true_eq, hP]
  refine rdi (rd_buildA u224 sz163 inf224' rfl) ?_
  refine rdi (rd_buildA u224 sz163 inf224' rfl) ?_
  refine allocH H inf224' fun b11 w5 H => ?_
  refine allocH H inf224' fun b13 w6 H => ?_
  refine storeH H 2 rfl sz224 rfl rfl rfl fun w7 H => ?_
  refine storeH H 3 rfl sz224 rfl rfl rfl fun w8 H => ?_
  have H : Apt w w8 [bx b1 [.int .i64 gm.nons, .int .i64 gm.toks, .slice Y gm.rules.length cy] 26, bx b6 (C.map Value.bool) 163, bx b11 (cells36 none2) 224, bx b13 (cells36 none2) 224] := H
  have hl0 : ∀ r ∈ gm.rules, 0 ≤ r.1 ∧ r.1 < 6 := fun r hr => (h6 r hr).1
  simp only [zq18, zq19, zq20, zq21, zq22, zq23, zq24, zq25, zq26, zq27, zq28, zq4, zq3, zq1, zq2, zq0, zq29, zq30, zq14, zq15, zq16, zq17, zq13, zq10, zq12, zq11, zq7, zq5, zq6, zq9, zq8, zq31, zq32, ite_T, ite_F, zq33, zq34, zq35, Nat.reduceEqDiff, len22, len24, fa26_0, fa26_1, fa26_2, len27, fa33_0, fa33_1, len35, fa114_0, fa114_1, fa114_2, fa124_0, fa124_1, len134]
  rw [ldB24 (H.box 0 rfl) rfl]
  simp only [zq18, zq19, zq20, zq21, zq22, zq23, zq24, zq25, zq26, zq27, zq28, zq4, zq3, zq1, zq2, zq0, zq29, zq30, zq14, zq15, zq16, zq17, zq13, zq10, zq12, zq11, zq7, zq5, zq6, zq9, zq8, zq31, zq32, ite_T, ite_F, zq33, zq34, zq35, Nat.reduceEqDiff, len22, len24, fa26_0, fa26_1, fa26_2, len27, fa33_0, fa33_1, len35, fa114_0, fa114_1, fa114_2, fa124_0, fa124_1, len134]
  refine loop_to gm.rules.length 0 (fun i f w' => i ≤ gm.rules.length ∧ f 24 = .int .i64 (i : Int) ∧ ∃ A M, SndE gm.rules A M ∧ (∀ z, z < i → ∀ p, p < (rul gm.rules z).2.length → doneE gm.rules A M (rul gm.rules z) p) ∧ Apt w w' [bx b1 [.int .i64 gm.nons, .int .i64 gm.toks, .slice Y gm.rules.length cy] 26, bx b6 (C.map Value.bool) 163, bx b11 (cells36 A) 224, bx b13 (cells36 M) 224])
    ⟨Nat.zero_le _, rfl, none2, none2, sndE_none _, (fun z hz => by omega), H⟩ ?_
  clear H
  rintro i f w9 N hag ⟨hi, f24, A, M, hsn, hold, H⟩ hN
  have f1 : f 1 = ptrv b1 := hag 1 (by decide)
  have f3 : f 3 = ptrv b6 := hag 3 (by decide)
  have f4 : f 4 = ptrv b11 := hag 4 (by decide)
  have f5 : f 5 = ptrv b13 := hag 5 (by decide)
  have f22 : f 22 = .slice Y gm.rules.length cy := hag 22 (by decide)
  have f23 : f 23 = .int .i64 gm.rules.length := hag 23 (by decide)
  have hRF := hG.2.gr H.gr
  have hle := hRF.le
  simp only [f22, f23, f24, zq18, zq19, zq20, zq21, zq22, zq23, zq24, zq25, zq26, zq27, zq28, zq4, zq3, zq1, zq2, zq0, zq29, zq30, zq14, zq15, zq16, zq17, zq13, zq10, zq12, zq11, zq7, zq5, zq6, zq9, zq8, zq31, zq32, ite_T, ite_F, zq33, zq34, zq35, Nat.reduceEqDiff, len22, len24, fa26_0, fa26_1, fa26_2, len27, fa33_0, fa33_1, len35, fa114_0, fa114_1, fa114_2, fa124_0, fa124_1, len134]
  by_cases hlt : i < gm.rules.length
  case pos =>
    simp only [show ((i : Int) < (gm.rules.length : Int)) from by omega, decide_true, zq18, zq19, zq20, zq21, zq22, zq23, zq24, zq25, zq26, zq27, zq28, zq4, zq3, zq1, zq2, zq0, zq29, zq30, zq14, zq15, zq16, zq17, zq13, zq10, zq12, zq11, zq7, zq5, zq6, zq9, zq8, zq31, zq32, ite_T, ite_F, zq33, zq34, zq35, Nat.reduceEqDiff, len22, len24, fa26_0, fa26_1, fa26_2, len27, fa33_0, fa33_1, len35, fa114_0, fa114_1, fa114_2, fa124_0, fa124_1, len134]
    have hrm : rul gm.rules i ∈ gm.rules := by rw [rul_eq hlt]; exact List.getElem_mem hlt
    have hb := h6 _ hrm
    obtain ⟨a, ha⟩ : ∃ a : Nat, (rul gm.rules i).1 = (a : Int) := ⟨(rul gm.rules i).1.toNat, by omega⟩
    have ha' : (rul gm.rules i).1.toNat = a := by omega
    have ha6 : a < 6 := by omega
    have hr1k := hr4 _ hrm
    refine rdi (ixn24 hRF.ptr hlt) ?_
    refine ld_rule0 agg33 sz33 hG.2 H.gr hlt fun Z cz hcz hZ => ?_
    refine allocH H inf33 fun b9 w10 H => ?_
    refine storeH H 4 rfl sz33 rfl rfl rfl fun w11 H => ?_
    have H : Apt w w11 [bx b1 [.int .i64 gm.nons, .int .i64 gm.toks, .slice Y gm.rules.length cy] 26, bx b6 (C.map Value.bool) 163, bx b11 (cells36 A) 224, bx b13 (cells36 M) 224, bx b9 [.int .i64 (a : Int), .slice Z (rul gm.rules i).2.length cz] 33] := by rw [← ha]; exact H
    simp only [zq18, zq19, zq20, zq21, zq22, zq23, zq24, zq25, zq26, zq27, zq28, zq4, zq3, zq1, zq2, zq0, zq29, zq30, zq14, zq15, zq16, zq17, zq13, zq10, zq12, zq11, zq7, zq5, zq6, zq9, zq8, zq31, zq32, ite_T, ite_F, zq33, zq34, zq35, Nat.reduceEqDiff, len22, len24, fa26_0, fa26_1, fa26_2, len27, fa33_0, fa33_1, len35, fa114_0, fa114_1, fa114_2, fa124_0, fa124_1, len134]
    rw [ldB27 (H.box 4 rfl) rfl]
    simp only [zq18, zq19, zq20, zq21, zq22, zq23, zq24, zq25, zq26, zq27, zq28, zq4, zq3, zq1, zq2, zq0, zq29, zq30, zq14, zq15, zq16, zq17, zq13, zq10, zq12, zq11, zq7, zq5, zq6, zq9, zq8, zq31, zq32, ite_T, ite_F, zq33, zq34, zq35, Nat.reduceEqDiff, len22, len24, fa26_0, fa26_1, fa26_2, len27, fa33_0, fa33_1, len35, fa114_0, fa114_1, fa114_2, fa124_0, fa124_1, len134]
    refine loop_to (rul gm.rules i).2.length 0 (fun j q w' => j ≤ (rul gm.rules i).2.length ∧ q 31 = .int .i64 (j : Int) ∧ ∃ A M, SndE gm.rules A M ∧ (∀ z, z < i → ∀ p, p < (rul gm.rules z).2.length → doneE gm.rules A M (rul gm.rules z) p) ∧ (∀ p, p < j → doneE gm.rules A M (rul gm.rules i) p) ∧ Apt w w' [bx b1 [.int .i64 gm.nons, .int .i64 gm.toks, .slice Y gm.rules.length cy] 26, bx b6 (C.map Value.bool) 163, bx b11 (cells36 A) 224, bx b13 (cells36 M) 224, bx b9 [.int .i64 (a : Int), .slice Z (rul gm.rules i).2.length cz] 33])
      ⟨Nat.zero_le _, rfl, A, M, hsn, hold, (fun p hp => by omega), H⟩ ?_
    clear H hsn hold
    rintro j q w12 N2 hag2 ⟨hj, q31, A, M, hsn, hold, hcur, H⟩ hN2
    have q3 : q 3 = ptrv b6 := (hag2 3 (by decide)).trans f3
    have q4 : q 4 = ptrv b11 := (hag2 4 (by decide)).trans f4
    have q5 : q 5 = ptrv b13 := (hag2 5 (by decide)).trans f5
    have q7 : q 7 = ptrv b9 := hag2 7 (by decide)
    have q24 : q 24 = .int .i64 (i : Int) := (hag2 24 (by decide)).trans f24
    have q29 : q 29 = .slice Z (rul gm.rules i).2.length cz := hag2 29 (by decide)
    have q30 : q 30 = .int .i64 ((rul gm.rules i).2.length : Int) := hag2 30 (by decide)
    have hZ' := hZ.gr H.gr
    simp only [q29, q30, q31, zq18, zq19, zq20, zq21, zq22, zq23, zq24, zq25, zq26, zq27, zq28, zq4, zq3, zq1, zq2, zq0, zq29, zq30, zq14, zq15, zq16, zq17, zq13, zq10, zq12, zq11, zq7, zq5, zq6, zq9, zq8, zq31, zq32, ite_T, ite_F, zq33, zq34, zq35, Nat.reduceEqDiff, len22, len24, fa26_0, fa26_1, fa26_2, len27, fa33_0, fa33_1, len35, fa114_0, fa114_1, fa114_2, fa124_0, fa124_1, len134]
    by_cases hlt2 : j < (rul gm.rules i).2.length
    case neg =>
      simp only [show ¬ ((j : Int) < ((rul gm.rules i).2.length : Int)) from by omega, decide_false, q24, zq18, zq19, zq20, zq21, zq22, zq23, zq24, zq25, zq26, zq27, zq28, zq4, zq3, zq1, zq2, zq0, zq29, zq30, zq14, zq15, zq16, zq17, zq13, zq10, zq12, zq11, zq7, zq5, zq6, zq9, zq8, zq31, zq32, ite_T, ite_F, zq33, zq34, zq35, Nat.reduceEqDiff, len22, len24, fa26_0, fa26_1, fa26_2, len27, fa33_0, fa33_1, len35, fa114_0, fa114_1, fa114_2, fa124_0, fa124_1, len134]
      rw [i64_of (by omega) (by omega)]
      have H := H.erase 4
      simp only [List.eraseIdx_cons_zero, List.eraseIdx_cons_succ] at H
      refine hN _ _ hlt ⟨by omega, rfl, A, M, hsn, fun z hz p hp => ?_, H⟩
      by_cases ez : z = i
      · subst ez
        exact hcur p (by omega)
      · exact hold z (by omega) p hp
    simp only [show ((j : Int) < ((rul gm.rules i).2.length : Int)) from by omega, decide_true, zq18, zq19, zq20, zq21, zq22, zq23, zq24, zq25, zq26, zq27, zq28, zq4, zq3, zq1, zq2, zq0, zq29, zq30, zq14, zq15, zq16, zq17, zq13, zq10, zq12, zq11, zq7, zq5, zq6, zq9, zq8, zq31, zq32, ite_T, ite_F, zq33, zq34, zq35, Nat.reduceEqDiff, len22, len24, fa26_0, fa26_1, fa26_2, len27, fa33_0, fa33_1, len35, fa114_0, fa114_1, fa114_2, fa124_0, fa124_1, len134]
    refine join_as (fun q w' => q 31 = .int .i64 (j : Int) ∧ ∃ A M, SndE gm.rules A M ∧ (∀ z, z < i → ∀ p, p < (rul gm.rules z).2.length → doneE gm.rules A M (rul gm.rules z) p) ∧ (∀ p, p < j + 1 → doneE gm.rules A M (rul gm.rules i) p) ∧ Apt w w' [bx b1 [.int .i64 gm.nons, .int .i64 gm.toks, .slice Y gm.rules.length cy] 26, bx b6 (C.map Value.bool) 163, bx b11 (cells36 A) 224, bx b13 (cells36 M) 224, bx b9 [.int .i64 (a : Int), .slice Z (rul gm.rules i).2.length cz] 33]) (fun K hK => ?_) ?_
    case refine_2 =>
      rintro f w' ⟨e31, h⟩
      simp only [e31, zq18, zq19, zq20, zq21, zq22, zq23, zq24, zq25, zq26, zq27, zq28, zq4, zq3, zq1, zq2, zq0, zq29, zq30, zq14, zq15, zq16, zq17, zq13, zq10, zq12, zq11, zq7, zq5, zq6, zq9, zq8, zq31, zq32, ite_T, ite_F, zq33, zq34, zq35, Nat.reduceEqDiff, len22, len24, fa26_0, fa26_1, fa26_2, len27, fa33_0, fa33_1, len35, fa114_0, fa114_1, fa114_2, fa124_0, fa124_1, len134]
      rw [i64_of (by omega) (by omega)]
      exact hN2 _ _ hlt2 ⟨by omega, rfl, h⟩
    refine rdi (ixn27 hZ'.ptr hlt2) (rdi (ld3 (hZ'.cell j hlt2)) ?_)
    have hxb := hb.2 _ (getD_mem hlt2)
    generalize hxe : (rul gm.rules i).2.getD j 0 = x at *
    simp only [zq18, zq19, zq20, zq21, zq22, zq23, zq24, zq25, zq26, zq27, zq28, zq4, zq3, zq1, zq2, zq0, zq29, zq30, zq14, zq15, zq16, zq17, zq13, zq10, zq12, zq11, zq7, zq5, zq6, zq9, zq8, zq31, zq32, ite_T, ite_F, zq33, zq34, zq35, Nat.reduceEqDiff, len22, len24, fa26_0, fa26_1, fa26_2, len27, fa33_0, fa33_1, len35, fa114_0, fa114_1, fa114_2, fa124_0, fa124_1, len134]
    by_cases hx : x < 0
    · simp only [hx, decide_true, zq18, zq19, zq20, zq21, zq22, zq23, zq24, zq25, zq26, zq27, zq28, zq4, zq3, zq1, zq2, zq0, zq29, zq30, zq14, zq15, zq16, zq17, zq13, zq10, zq12, zq11, zq7, zq5, zq6, zq9, zq8, zq31, zq32, ite_T, ite_F, zq33, zq34, zq35, Nat.reduceEqDiff, len22, len24, fa26_0, fa26_1, fa26_2, len27, fa33_0, fa33_1, len35, fa114_0, fa114_1, fa114_2, fa124_0, fa124_1, len134]
      refine hK _ _ ⟨q31, A, M, hsn, hold, fun p hp => ?_, H⟩
      by_cases ep : p = j
      · subst ep
        intro b hb'
        rw [hxe] at hb'
        omega
      · exact hcur p (by omega)
    simp only [hx, decide_false, q4, q7, zq18, zq19, zq20, zq21, zq22, zq23, zq24, zq25, zq26, zq27, zq28, zq4, zq3, zq1, zq2, zq0, zq29, zq30, zq14, zq15, zq16, zq17, zq13, zq10, zq12, zq11, zq7, zq5, zq6, zq9, zq8, zq31, zq32, ite_T, ite_F, zq33, zq34, zq35, Nat.reduceEqDiff, len22, len24, fa26_0, fa26_1, fa26_2, len27, fa33_0, fa33_1, len35, fa114_0, fa114_1, fa114_2, fa124_0, fa124_1, len134]
    obtain ⟨b, rfl⟩ : ∃ b : Nat, x = (b : Int) := ⟨x.toNat, by omega⟩
    rw [ldB3 (H.box 4 rfl) rfl]
    refine rdi (ixa224 (by omega) (by omega)) ?_
    refine rdi (ixa163 (by omega) (by omega)) ?_
    rw [zq34, zq34, Nat.zero_add, Int.toNat_natCast, Int.toNat_natCast]
    refine storeH H 2 rfl sz4 rfl rfl (Nat.ble_eq_true_of_le (by rw [cells36_len]; omega)) fun w13 H => ?_
    rw [cells36_set ha6 (by omega)] at H
    simp only [List.set_cons_zero, List.set_cons_succ] at H
    have hb6 : b < 6 := by omega
    have hed : EdR gm.rules a b := ⟨_, hrm, ha, j, hlt2, hxe⟩
    have hle1 := setT_true_le A a b
    have hsn : SndE gm.rules (setT A a b true) M := ⟨fun c d h => by
      unfold setT at h
      split at h
      · rename_i e
        obtain ⟨rfl, rfl⟩ := e
        exact hed
      · exact hsn.all _ _ h, hsn.more⟩
    have hself := setT_self A a b true
    have hold := fun z hz p hp => doneE_mono (hold z hz p hp) hle1 (leT_refl M)
    have hcur := fun p hp => doneE_mono (hcur p hp) hle1 (leT_refl M)
    generalize setT A a b true = A at *
    rw [ldB27 (H.box 4 rfl) rfl]
    simp only [zq18, zq19, zq20, zq21, zq22, zq23, zq24, zq25, zq26, zq27, zq28, zq4, zq3, zq1, zq2, zq0, zq29, zq30, zq14, zq15, zq16, zq17, zq13, zq10, zq12, zq11, zq7, zq5, zq6, zq9, zq8, zq31, zq32, ite_T, ite_F, zq33, zq34, zq35, Nat.reduceEqDiff, len22, len24, fa26_0, fa26_1, fa26_2, len27, fa33_0, fa33_1, len35, fa114_0, fa114_1, fa114_2, fa124_0, fa124_1, len134]
    refine loop_to (rul gm.rules i).2.length 0 (fun m r w' => m ≤ (rul gm.rules i).2.length ∧ r 46 = .int .i64 (m : Int) ∧ ∃ M, SndE gm.rules A M ∧ (∀ z, z < i → ∀ p, p < (rul gm.rules z).2.length → doneE gm.rules A M (rul gm.rules z) p) ∧ (∀ p, p < j → doneE gm.rules A M (rul gm.rules i) p) ∧ (∀ m', m' < m → m' ≠ j → growX gm.rules ((rul gm.rules i).2.getD m' 0) → M a b = true) ∧ Apt w w' [bx b1 [.int .i64 gm.nons, .int .i64 gm.toks, .slice Y gm.rules.length cy] 26, bx b6 (C.map Value.bool) 163, bx b11 (cells36 A) 224, bx b13 (cells36 M) 224, bx b9 [.int .i64 (a : Int), .slice Z (rul gm.rules i).2.length cz] 33])
      ⟨Nat.zero_le _, rfl, M, hsn, hold, hcur, (fun p hp => by omega), H⟩ ?_
    clear H hsn hold hcur
    rintro m r w14 N3 hag3 ⟨hm, r46, M, hsn, hold, hcur, hin, H⟩ hN3
    have r3 : r 3 = ptrv b6 := (hag3 3 (by decide)).trans q3
    have r5 : r 5 = ptrv b13 := (hag3 5 (by decide)).trans q5
    have r7 : r 7 = ptrv b9 := (hag3 7 (by decide)).trans q7
    have r8 : r 8 = .int .i64 (j : Int) := (hag3 8 (by decide))
    have r9 : r 9 = .int .i64 (b : Int) := (hag3 9 (by decide))
    have r31 : r 31 = .int .i64 (j : Int) := (hag3 31 (by decide)).trans q31
    have r44 : r 44 = .slice Z (rul gm.rules i).2.length cz := hag3 44 (by decide)
    have r45 : r 45 = .int .i64 ((rul gm.rules i).2.length : Int) := hag3 45 (by decide)
    have hZ' := hZ.gr H.gr
    simp only [r44, r45, r46, zq18, zq19, zq20, zq21, zq22, zq23, zq24, zq25, zq26, zq27, zq28, zq4, zq3, zq1, zq2, zq0, zq29, zq30, zq14, zq15, zq16, zq17, zq13, zq10, zq12, zq11, zq7, zq5, zq6, zq9, zq8, zq31, zq32, ite_T, ite_F, zq33, zq34, zq35, Nat.reduceEqDiff, len22, len24, fa26_0, fa26_1, fa26_2, len27, fa33_0, fa33_1, len35, fa114_0, fa114_1, fa114_2, fa124_0, fa124_1, len134]
    by_cases hlt3 : m < (rul gm.rules i).2.length
    case neg =>
      simp only [show ¬ ((m : Int) < ((rul gm.rules i).2.length : Int)) from by omega, decide_false, zq18, zq19, zq20, zq21, zq22, zq23, zq24, zq25, zq26, zq27, zq28, zq4, zq3, zq1, zq2, zq0, zq29, zq30, zq14, zq15, zq16, zq17, zq13, zq10, zq12, zq11, zq7, zq5, zq6, zq9, zq8, zq31, zq32, ite_T, ite_F, zq33, zq34, zq35, Nat.reduceEqDiff, len22, len24, fa26_0, fa26_1, fa26_2, len27, fa33_0, fa33_1, len35, fa114_0, fa114_1, fa114_2, fa124_0, fa124_1, len134]
      refine hK _ _ ⟨r31, A, M, hsn, hold, fun p hp => ?_, H⟩
      by_cases ep : p = j
      · subst ep
        intro b' hb'
        rw [hxe] at hb'
        have : b' = b := by omega
        subst this
        rw [ha']
        exact ⟨hself, fun m' h1 h2 h3 => hin m' (by omega) h2 h3⟩
      · exact hcur p (by omega)
    simp only [show ((m : Int) < ((rul gm.rules i).2.length : Int)) from by omega, decide_true, zq18, zq19, zq20, zq21, zq22, zq23, zq24, zq25, zq26, zq27, zq28, zq4, zq3, zq1, zq2, zq0, zq29, zq30, zq14, zq15, zq16, zq17, zq13, zq10, zq12, zq11, zq7, zq5, zq6, zq9, zq8, zq31, zq32, ite_T, ite_F, zq33, zq34, zq35, Nat.reduceEqDiff, len22, len24, fa26_0, fa26_1, fa26_2, len27, fa33_0, fa33_1, len35, fa114_0, fa114_1, fa114_2, fa124_0, fa124_1, len134]
    refine join_as (fun r w' => r 46 = .int .i64 (m : Int) ∧ ∃ M, SndE gm.rules A M ∧ (∀ z, z < i → ∀ p, p < (rul gm.rules z).2.length → doneE gm.rules A M (rul gm.rules z) p) ∧ (∀ p, p < j → doneE gm.rules A M (rul gm.rules i) p) ∧ (∀ m', m' < m + 1 → m' ≠ j → growX gm.rules ((rul gm.rules i).2.getD m' 0) → M a b = true) ∧ Apt w w' [bx b1 [.int .i64 gm.nons, .int .i64 gm.toks, .slice Y gm.rules.length cy] 26, bx b6 (C.map Value.bool) 163, bx b11 (cells36 A) 224, bx b13 (cells36 M) 224, bx b9 [.int .i64 (a : Int), .slice Z (rul gm.rules i).2.length cz] 33]) (fun K3 hK3 => ?_) ?_
    case refine_2 =>
      rintro f w' ⟨e46, h⟩
      simp only [e46, zq18, zq19, zq20, zq21, zq22, zq23, zq24, zq25, zq26, zq27, zq28, zq4, zq3, zq1, zq2, zq0, zq29, zq30, zq14, zq15, zq16, zq17, zq13, zq10, zq12, zq11, zq7, zq5, zq6, zq9, zq8, zq31, zq32, ite_T, ite_F, zq33, zq34, zq35, Nat.reduceEqDiff, len22, len24, fa26_0, fa26_1, fa26_2, len27, fa33_0, fa33_1, len35, fa114_0, fa114_1, fa114_2, fa124_0, fa124_1, len134]
      rw [i64_of (by omega) (by omega)]
      exact hN3 _ _ hlt3 ⟨by omega, rfl, h⟩
    refine rdi (ixn27 hZ'.ptr hlt3) (rdi (ld3 (hZ'.cell m hlt3)) ?_)
    have hyb := hb.2 _ (getD_mem hlt3)
    have skip : (m = j ∨ ¬ growX gm.rules ((rul gm.rules i).2.getD m 0)) → ∀ f' : F, f' 46 = .int .i64 (m : Int) → K3 f' w14 := fun ho f' e => by
      refine hK3 _ _ ⟨e, M, hsn, hold, hcur, fun m' h1 h2 h3 => ?_, H⟩
      by_cases em : m' = m
      · subst em
        rcases ho with ho | ho
        · exact absurd ho h2
        · exact absurd h3 ho
      · exact hin m' (by omega) h2 h3
    have fire : m ≠ j → growX gm.rules ((rul gm.rules i).2.getD m 0) → ∀ w', Apt w w' [bx b1 [.int .i64 gm.nons, .int .i64 gm.toks, .slice Y gm.rules.length cy] 26, bx b6 (C.map Value.bool) 163, bx b11 (cells36 A) 224, bx b13 (cells36 (setT M a b true)) 224, bx b9 [.int .i64 (a : Int), .slice Z (rul gm.rules i).2.length cz] 33] → ∀ f' : F, f' 46 = .int .i64 (m : Int) → K3 f' w' := fun hmj hgr w' H f' e => by
      have hle2 := setT_true_le M a b
      refine hK3 _ _ ⟨e, _, ⟨hsn.all, fun c d h => ?_⟩, fun z hz p hp => doneE_mono (hold z hz p hp) (leT_refl A) hle2, fun p hp => doneE_mono (hcur p hp) (leT_refl A) hle2, fun m' _ _ _ => setT_self M a b true, H⟩
      unfold setT at h
      split at h
      · rename_i e
        obtain ⟨rfl, rfl⟩ := e
        exact ⟨_, hrm, ha, j, m, hlt2, hlt3, fun e => hmj e.symm, hxe, hgr⟩
      · exact hsn.more _ _ h
    rw [hgx] at skip fire
    generalize (rul gm.rules i).2.getD m 0 = y at *
    simp only [r8, r46, zq18, zq19, zq20, zq21, zq22, zq23, zq24, zq25, zq26, zq27, zq28, zq4, zq3, zq1, zq2, zq0, zq29, zq30, zq14, zq15, zq16, zq17, zq13, zq10, zq12, zq11, zq7, zq5, zq6, zq9, zq8, zq31, zq32, ite_T, ite_F, zq33, zq34, zq35, Nat.reduceEqDiff, len22, len24, fa26_0, fa26_1, fa26_2, len27, fa33_0, fa33_1, len35, fa114_0, fa114_1, fa114_2, fa124_0, fa124_1, len134]
    by_cases hmj : m = j
    · simp only [show ((m : Int) = (j : Int)) from by omega, decide_true, Bool.not_true, zq18, zq19, zq20, zq21, zq22, zq23, zq24, zq25, zq26, zq27, zq28, zq4, zq3, zq1, zq2, zq0, zq29, zq30, zq14, zq15, zq16, zq17, zq13, zq10, zq12, zq11, zq7, zq5, zq6, zq9, zq8, zq31, zq32, ite_T, ite_F, zq33, zq34, zq35, Nat.reduceEqDiff, len22, len24, fa26_0, fa26_1, fa26_2, len27, fa33_0, fa33_1, len35, fa114_0, fa114_1, fa114_2, fa124_0, fa124_1, len134]
      exact skip (.inl hmj) _ r46
    simp only [show ¬ ((m : Int) = (j : Int)) from by omega, decide_false, Bool.not_false, r3, r5, r7, r9, zq18, zq19, zq20, zq21, zq22, zq23, zq24, zq25, zq26, zq27, zq28, zq4, zq3, zq1, zq2, zq0, zq29, zq30, zq14, zq15, zq16, zq17, zq13, zq10, zq12, zq11, zq7, zq5, zq6, zq9, zq8, zq31, zq32, ite_T, ite_F, zq33, zq34, zq35, Nat.reduceEqDiff, len22, len24, fa26_0, fa26_1, fa26_2, len27, fa33_0, fa33_1, len35, fa114_0, fa114_1, fa114_2, fa124_0, fa124_1, len134]
    by_cases hy : y < 0
    · simp only [hy, decide_true, r5, r7, r9, zq18, zq19, zq20, zq21, zq22, zq23, zq24, zq25, zq26, zq27, zq28, zq4, zq3, zq1, zq2, zq0, zq29, zq30, zq14, zq15, zq16, zq17, zq13, zq10, zq12, zq11, zq7, zq5, zq6, zq9, zq8, zq31, zq32, ite_T, ite_F, zq33, zq34, zq35, Nat.reduceEqDiff, len22, len24, fa26_0, fa26_1, fa26_2, len27, fa33_0, fa33_1, len35, fa114_0, fa114_1, fa114_2, fa124_0, fa124_1, len134]
      rw [ldB3 (H.box 4 rfl) rfl]
      refine rdi (ixa224 (by omega) (by omega)) ?_
      refine rdi (ixa163 (by omega) (by omega)) ?_
      rw [zq34, zq34, Nat.zero_add, Int.toNat_natCast, Int.toNat_natCast]
      refine storeH H 3 rfl sz4 rfl rfl (Nat.ble_eq_true_of_le (by rw [cells36_len]; omega)) fun w15 H => ?_
      rw [cells36_set ha6 hb6] at H
      simp only [List.set_cons_zero, List.set_cons_succ] at H
      exact fire hmj (by simp [barG, hy]) _ H _ r46
    simp only [hy, decide_false, r3, zq18, zq19, zq20, zq21, zq22, zq23, zq24, zq25, zq26, zq27, zq28, zq4, zq3, zq1, zq2, zq0, zq29, zq30, zq14, zq15, zq16, zq17, zq13, zq10, zq12, zq11, zq7, zq5, zq6, zq9, zq8, zq31, zq32, ite_T, ite_F, zq33, zq34, zq35, Nat.reduceEqDiff, len22, len24, fa26_0, fa26_1, fa26_2, len27, fa33_0, fa33_1, len35, fa114_0, fa114_1, fa114_2, fa124_0, fa124_1, len134]
    refine rdi (ixa163 (by omega) (by omega)) ?_
    rw [zq34, Nat.zero_add, ldB4 (H.box 1 rfl) (atB_get (by omega))]
    cases hat : atB C y.toNat
    · simp only [zq18, zq19, zq20, zq21, zq22, zq23, zq24, zq25, zq26, zq27, zq28, zq4, zq3, zq1, zq2, zq0, zq29, zq30, zq14, zq15, zq16, zq17, zq13, zq10, zq12, zq11, zq7, zq5, zq6, zq9, zq8, zq31, zq32, ite_T, ite_F, zq33, zq34, zq35, Nat.reduceEqDiff, len22, len24, fa26_0, fa26_1, fa26_2, len27, fa33_0, fa33_1, len35, fa114_0, fa114_1, fa114_2, fa124_0, fa124_1, len134]
      exact skip (.inr (by simp [barG, hy, hat])) _ r46
    · simp only [r5, r7, r9, zq18, zq19, zq20, zq21, zq22, zq23, zq24, zq25, zq26, zq27, zq28, zq4, zq3, zq1, zq2, zq0, zq29, zq30, zq14, zq15, zq16, zq17, zq13, zq10, zq12, zq11, zq7, zq5, zq6, zq9, zq8, zq31, zq32, ite_T, ite_F, zq33, zq34, zq35, Nat.reduceEqDiff, len22, len24, fa26_0, fa26_1, fa26_2, len27, fa33_0, fa33_1, len35, fa114_0, fa114_1, fa114_2, fa124_0, fa124_1, len134]
      rw [ldB3 (H.box 4 rfl) rfl]
      refine rdi (ixa224 (by omega) (by omega)) ?_
      refine rdi (ixa163 (by omega) (by omega)) ?_
      rw [zq34, zq34, Nat.zero_add, Int.toNat_natCast, Int.toNat_natCast]
      refine storeH H 3 rfl sz4 rfl rfl (Nat.ble_eq_true_of_le (by rw [cells36_len]; omega)) fun w15 H => ?_
      rw [cells36_set ha6 hb6] at H
      simp only [List.set_cons_zero, List.set_cons_succ] at H
      exact fire hmj (by simp [barG, hat]) _ H _ r46
  simp only [show ¬ ((i : Int) < (gm.rules.length : Int)) from by omega, decide_false, zq18, zq19, zq20, zq21, zq22, zq23, zq24, zq25, zq26, zq27, zq28, zq4, zq3, zq1, zq2, zq0, zq29, zq30, zq14, zq15, zq16, zq17, zq13, zq10, zq12, zq11, zq7, zq5, zq6, zq9, zq8, zq31, zq32, ite_T, ite_F, zq33, zq34, zq35, Nat.reduceEqDiff, len22, len24, fa26_0, fa26_1, fa26_2, len27, fa33_0, fa33_1, len35, fa114_0, fa114_1, fa114_2, fa124_0, fa124_1, len134]
  have hall : (∀ a b, EdR gm.rules a b → A a b = true) ∧ ∀ a b, EgR gm.rules a b → M a b = true := done_all fun r hr p hp => by
    obtain ⟨z, hz, rfl⟩ := List.getElem_of_mem hr
    have := hold z (by omega) p (by rw [rul_eq hz]; exact hp)
    rwa [rul_eq hz] at this
  have hE : ∀ a b, EdR gm.rules a b → a < 6 ∧ b < 6 := edR_lt fun r hr => by have := h6 r hr; exact ⟨by omega, fun x hx => by have := this.2 x hx; omega⟩
  have hF : ∀ a b, (fun _ _ => False : Nat → Nat → Prop) a b → EdR gm.rules a b := fun _ _ h => h.elim
  have hcm := CmpT.zero (n := 6) (G := fun _ _ => False) (A := A) (M := none2) hall.1 (fun _ _ h => h.elim)
  have hst : SndT (EdR gm.rules) (fun _ _ => False) 6 A none2 := ⟨(fun a b h => .one (hsn.all a b h)), (fun a b h => by simp [none2] at h)⟩
  have hM : ∀ a b, M a b = true ↔ EgR gm.rules a b := fun a b => ⟨hsn.more a b, hall.2 a b⟩
  clear hN hag hold hsn hall
  refine loop_to 6 0 (fun kk g w' => kk ≤ 6 ∧ g 71 = .int .i64 (kk : Int) ∧ ∃ A, SndT (EdR gm.rules) (fun _ _ => False) 6 A none2 ∧ CmpT (EdR gm.rules) (fun _ _ => False) 6 kk A none2 ∧ Apt w w' [bx b1 [.int .i64 gm.nons, .int .i64 gm.toks, .slice Y gm.rules.length cy] 26, bx b6 (C.map Value.bool) 163, bx b11 (cells36 A) 224, bx b13 (cells36 M) 224])
    ⟨by omega, rfl, A, hst, hcm, H⟩ ?_
  clear H hst hcm
  rintro kk g w15 N hag ⟨hkk, g71, A0, hst, hcm, H⟩ hN
  have g4 : g 4 = ptrv b11 := (hag 4 (by decide)).trans f4
  have g5 : g 5 = ptrv b13 := (hag 5 (by decide)).trans f5
  simp only [g71, zq18, zq19, zq20, zq21, zq22, zq23, zq24, zq25, zq26, zq27, zq28, zq4, zq3, zq1, zq2, zq0, zq29, zq30, zq14, zq15, zq16, zq17, zq13, zq10, zq12, zq11, zq7, zq5, zq6, zq9, zq8, zq31, zq32, ite_T, ite_F, zq33, zq34, zq35, Nat.reduceEqDiff, len22, len24, fa26_0, fa26_1, fa26_2, len27, fa33_0, fa33_1, len35, fa114_0, fa114_1, fa114_2, fa124_0, fa124_1, len134]
  by_cases hk6 : kk < 6
  case pos =>
    simp only [show ((kk : Int) < 6) from by omega, decide_true, zq18, zq19, zq20, zq21, zq22, zq23, zq24, zq25, zq26, zq27, zq28, zq4, zq3, zq1, zq2, zq0, zq29, zq30, zq14, zq15, zq16, zq17, zq13, zq10, zq12, zq11, zq7, zq5, zq6, zq9, zq8, zq31, zq32, ite_T, ite_F, zq33, zq34, zq35, Nat.reduceEqDiff, len22, len24, fa26_0, fa26_1, fa26_2, len27, fa33_0, fa33_1, len35, fa114_0, fa114_1, fa114_2, fa124_0, fa124_1, len134]
    refine loop_to 6 0 (fun aa g w' => aa ≤ 6 ∧ g 74 = .int .i64 (aa : Int) ∧ ∃ A, MidT (EdR gm.rules) (fun _ _ => False) 6 kk aa 0 A0 none2 A none2 ∧ Apt w w' [bx b1 [.int .i64 gm.nons, .int .i64 gm.toks, .slice Y gm.rules.length cy] 26, bx b6 (C.map Value.bool) 163, bx b11 (cells36 A) 224, bx b13 (cells36 M) 224])
      ⟨by omega, rfl, A0, MidT.start hst, H⟩ ?_
    clear H
    rintro aa g2 w16 N2 hag2 ⟨haa, g274, A, hmid, H⟩ hN2
    have g24 : g2 4 = ptrv b11 := (hag2 4 (by decide)).trans g4
    have g212 : g2 12 = .int .i64 (kk : Int) := hag2 12 (by decide)
    have g271 : g2 71 = .int .i64 (kk : Int) := (hag2 71 (by decide)).trans g71
    simp only [g274, zq18, zq19, zq20, zq21, zq22, zq23, zq24, zq25, zq26, zq27, zq28, zq4, zq3, zq1, zq2, zq0, zq29, zq30, zq14, zq15, zq16, zq17, zq13, zq10, zq12, zq11, zq7, zq5, zq6, zq9, zq8, zq31, zq32, ite_T, ite_F, zq33, zq34, zq35, Nat.reduceEqDiff, len22, len24, fa26_0, fa26_1, fa26_2, len27, fa33_0, fa33_1, len35, fa114_0, fa114_1, fa114_2, fa124_0, fa124_1, len134]
    by_cases ha6 : aa < 6
    case neg =>
      simp only [show ¬ ((aa : Int) < 6) from by omega, decide_false, g271, zq18, zq19, zq20, zq21, zq22, zq23, zq24, zq25, zq26, zq27, zq28, zq4, zq3, zq1, zq2, zq0, zq29, zq30, zq14, zq15, zq16, zq17, zq13, zq10, zq12, zq11, zq7, zq5, zq6, zq9, zq8, zq31, zq32, ite_T, ite_F, zq33, zq34, zq35, Nat.reduceEqDiff, len22, len24, fa26_0, fa26_1, fa26_2, len27, fa33_0, fa33_1, len35, fa114_0, fa114_1, fa114_2, fa124_0, fa124_1, len134]
      rw [i64_of (by omega) (by omega)]
      have e6 : aa = 6 := by omega
      subst e6
      exact hN _ _ hk6 ⟨by omega, rfl, A, hmid.snd, hmid.done hE hF hk6 hcm, H⟩
    simp only [show ((aa : Int) < 6) from by omega, decide_true, zq18, zq19, zq20, zq21, zq22, zq23, zq24, zq25, zq26, zq27, zq28, zq4, zq3, zq1, zq2, zq0, zq29, zq30, zq14, zq15, zq16, zq17, zq13, zq10, zq12, zq11, zq7, zq5, zq6, zq9, zq8, zq31, zq32, ite_T, ite_F, zq33, zq34, zq35, Nat.reduceEqDiff, len22, len24, fa26_0, fa26_1, fa26_2, len27, fa33_0, fa33_1, len35, fa114_0, fa114_1, fa114_2, fa124_0, fa124_1, len134]
    refine loop_to 6 0 (fun bb g w' => bb ≤ 6 ∧ g 77 = .int .i64 (bb : Int) ∧ ∃ A, MidT (EdR gm.rules) (fun _ _ => False) 6 kk aa bb A0 none2 A none2 ∧ Apt w w' [bx b1 [.int .i64 gm.nons, .int .i64 gm.toks, .slice Y gm.rules.length cy] 26, bx b6 (C.map Value.bool) 163, bx b11 (cells36 A) 224, bx b13 (cells36 M) 224])
      ⟨by omega, rfl, A, hmid, H⟩ ?_
    clear H hmid
    rintro bb g3 w17 N3 hag3 ⟨hbb, g377, A, hmid, H⟩ hN3
    have g34 : g3 4 = ptrv b11 := (hag3 4 (by decide)).trans g24
    have g312 : g3 12 = .int .i64 (kk : Int) := (hag3 12 (by decide)).trans g212
    have g313 : g3 13 = .int .i64 (aa : Int) := hag3 13 (by decide)
    have g374 : g3 74 = .int .i64 (aa : Int) := (hag3 74 (by decide)).trans g274
    simp only [g34, g312, g313, g377, zq18, zq19, zq20, zq21, zq22, zq23, zq24, zq25, zq26, zq27, zq28, zq4, zq3, zq1, zq2, zq0, zq29, zq30, zq14, zq15, zq16, zq17, zq13, zq10, zq12, zq11, zq7, zq5, zq6, zq9, zq8, zq31, zq32, ite_T, ite_F, zq33, zq34, zq35, Nat.reduceEqDiff, len22, len24, fa26_0, fa26_1, fa26_2, len27, fa33_0, fa33_1, len35, fa114_0, fa114_1, fa114_2, fa124_0, fa124_1, len134]
    by_cases hb6 : bb < 6
    case neg =>
      simp only [show ¬ ((bb : Int) < 6) from by omega, decide_false, g374, zq18, zq19, zq20, zq21, zq22, zq23, zq24, zq25, zq26, zq27, zq28, zq4, zq3, zq1, zq2, zq0, zq29, zq30, zq14, zq15, zq16, zq17, zq13, zq10, zq12, zq11, zq7, zq5, zq6, zq9, zq8, zq31, zq32, ite_T, ite_F, zq33, zq34, zq35, Nat.reduceEqDiff, len22, len24, fa26_0, fa26_1, fa26_2, len27, fa33_0, fa33_1, len35, fa114_0, fa114_1, fa114_2, fa124_0, fa124_1, len134]
      rw [i64_of (by omega) (by omega)]
      have e6 : bb = 6 := by omega
      subst e6
      exact hN2 _ _ ha6 ⟨by omega, rfl, A, hmid.row, H⟩
    simp only [show ((bb : Int) < 6) from by omega, decide_true, zq18, zq19, zq20, zq21, zq22, zq23, zq24, zq25, zq26, zq27, zq28, zq4, zq3, zq1, zq2, zq0, zq29, zq30, zq14, zq15, zq16, zq17, zq13, zq10, zq12, zq11, zq7, zq5, zq6, zq9, zq8, zq31, zq32, ite_T, ite_F, zq33, zq34, zq35, Nat.reduceEqDiff, len22, len24, fa26_0, fa26_1, fa26_2, len27, fa33_0, fa33_1, len35, fa114_0, fa114_1, fa114_2, fa124_0, fa124_1, len134]
    have H := H.drew
    have hstep := hmid.step hk6
    rw [show ((none2 aa bb || (A aa kk && none2 kk bb)) || (none2 aa kk && A kk bb)) = false from by simp [none2], setT_none] at hstep
    have put : ∀ v, v = (A aa bb || (A aa kk && A kk bb)) → ∀ w', Apt w w' [bx b1 [.int .i64 gm.nons, .int .i64 gm.toks, .slice Y gm.rules.length cy] 26, bx b6 (C.map Value.bool) 163, bx b11 (cells36 (setT A aa bb v)) 224, bx b13 (cells36 M) 224] → ∀ f' : F, f' 77 = .int .i64 (((bb + 1 : Nat)) : Int) → N3 f' w' := fun v hv w' H f' e => by
      subst hv
      exact hN3 _ _ hb6 ⟨by omega, e, _, hstep, H⟩
    clear hstep
    refine rdi (ixa224 (by omega) (by omega)) ?_
    refine rdi (ixa163 (by omega) (by omega)) ?_
    rw [zq34, zq34, Nat.zero_add, Int.toNat_natCast, Int.toNat_natCast]
    rw [ldB4 (H.box 2 rfl) (cells36_get ha6 hb6)]
    cases h1 : A aa bb
    case true =>
      simp only [g34, g313, g377, zq18, zq19, zq20, zq21, zq22, zq23, zq24, zq25, zq26, zq27, zq28, zq4, zq3, zq1, zq2, zq0, zq29, zq30, zq14, zq15, zq16, zq17, zq13, zq10, zq12, zq11, zq7, zq5, zq6, zq9, zq8, zq31, zq32, ite_T, ite_F, zq33, zq34, zq35, Nat.reduceEqDiff, len22, len24, fa26_0, fa26_1, fa26_2, len27, fa33_0, fa33_1, len35, fa114_0, fa114_1, fa114_2, fa124_0, fa124_1, len134]
      refine rdi (ixa224 (by omega) (by omega)) ?_
      refine rdi (ixa163 (by omega) (by omega)) ?_
      rw [zq34, zq34, Nat.zero_add, Int.toNat_natCast, Int.toNat_natCast]
      refine storeH H 2 rfl sz4 rfl rfl (Nat.ble_eq_true_of_le (by rw [cells36_len]; omega)) fun w18 H => ?_
      rw [cells36_set ha6 hb6] at H
      simp only [List.set_cons_zero, List.set_cons_succ] at H
      rw [i64_of (by omega) (by omega)]
      exact put _ (by rw [h1]; rfl) _ H _ rfl
    simp only [zq18, zq19, zq20, zq21, zq22, zq23, zq24, zq25, zq26, zq27, zq28, zq4, zq3, zq1, zq2, zq0, zq29, zq30, zq14, zq15, zq16, zq17, zq13, zq10, zq12, zq11, zq7, zq5, zq6, zq9, zq8, zq31, zq32, ite_T, ite_F, zq33, zq34, zq35, Nat.reduceEqDiff, len22, len24, fa26_0, fa26_1, fa26_2, len27, fa33_0, fa33_1, len35, fa114_0, fa114_1, fa114_2, fa124_0, fa124_1, len134]
    refine rdi (ixa224 (by omega) (by omega)) ?_
    refine rdi (ixa163 (by omega) (by omega)) ?_
    rw [zq34, zq34, Nat.zero_add, Int.toNat_natCast, Int.toNat_natCast]
    rw [ldB4 (H.box 2 rfl) (cells36_get ha6 hk6)]
    cases h2 : A aa kk
    case false =>
      simp only [g34, g313, g377, zq18, zq19, zq20, zq21, zq22, zq23, zq24, zq25, zq26, zq27, zq28, zq4, zq3, zq1, zq2, zq0, zq29, zq30, zq14, zq15, zq16, zq17, zq13, zq10, zq12, zq11, zq7, zq5, zq6, zq9, zq8, zq31, zq32, ite_T, ite_F, zq33, zq34, zq35, Nat.reduceEqDiff, len22, len24, fa26_0, fa26_1, fa26_2, len27, fa33_0, fa33_1, len35, fa114_0, fa114_1, fa114_2, fa124_0, fa124_1, len134]
      refine rdi (ixa224 (by omega) (by omega)) ?_
      refine rdi (ixa163 (by omega) (by omega)) ?_
      rw [zq34, zq34, Nat.zero_add, Int.toNat_natCast, Int.toNat_natCast]
      refine storeH H 2 rfl sz4 rfl rfl (Nat.ble_eq_true_of_le (by rw [cells36_len]; omega)) fun w18 H => ?_
      rw [cells36_set ha6 hb6] at H
      simp only [List.set_cons_zero, List.set_cons_succ] at H
      rw [i64_of (by omega) (by omega)]
      exact put _ (by rw [h1, h2]; rfl) _ H _ rfl
    simp only [g34, g312, g377, zq18, zq19, zq20, zq21, zq22, zq23, zq24, zq25, zq26, zq27, zq28, zq4, zq3, zq1, zq2, zq0, zq29, zq30, zq14, zq15, zq16, zq17, zq13, zq10, zq12, zq11, zq7, zq5, zq6, zq9, zq8, zq31, zq32, ite_T, ite_F, zq33, zq34, zq35, Nat.reduceEqDiff, len22, len24, fa26_0, fa26_1, fa26_2, len27, fa33_0, fa33_1, len35, fa114_0, fa114_1, fa114_2, fa124_0, fa124_1, len134]
    refine rdi (ixa224 (by omega) (by omega)) ?_
    refine rdi (ixa163 (by omega) (by omega)) ?_
    rw [zq34, zq34, Nat.zero_add, Int.toNat_natCast, Int.toNat_natCast]
    rw [ldB4 (H.box 2 rfl) (cells36_get hk6 hb6)]
    refine rdi (ixa224 (by omega) (by omega)) ?_
    refine rdi (ixa163 (by omega) (by omega)) ?_
    rw [zq34, zq34, Nat.zero_add, Int.toNat_natCast, Int.toNat_natCast]
    refine storeH H 2 rfl sz4 rfl rfl (Nat.ble_eq_true_of_le (by rw [cells36_len]; omega)) fun w18 H => ?_
    rw [cells36_set ha6 hb6] at H
    simp only [List.set_cons_zero, List.set_cons_succ] at H
    rw [i64_of (by omega) (by omega)]
    exact put _ (by rw [h1, h2]; simp) _ H _ rfl
  simp only [show ¬ ((kk : Int) < 6) from by omega, decide_false, zq18, zq19, zq20, zq21, zq22, zq23, zq24, zq25, zq26, zq27, zq28, zq4, zq3, zq1, zq2, zq0, zq29, zq30, zq14, zq15, zq16, zq17, zq13, zq10, zq12, zq11, zq7, zq5, zq6, zq9, zq8, zq31, zq32, ite_T, ite_F, zq33, zq34, zq35, Nat.reduceEqDiff, len22, len24, fa26_0, fa26_1, fa26_2, len27, fa33_0, fa33_1, len35, fa114_0, fa114_1, fa114_2, fa124_0, fa124_1, len134]
  have e6 : kk = 6 := by omega
  subst e6
  clear hN hag
  have hA : ∀ a b, A0 a b = true ↔ Pk (EdR gm.rules) 6 a b := fun a b => ⟨hst.all a b, hcm.all a b⟩
  refine loop_to 6 0 (fun aa g w' => aa ≤ 6 ∧ g 106 = .int .i64 (aa : Int) ∧ (∀ a b, a < aa → b < 6 → M a b = true → ¬ (a = b ∨ A0 b a = true)) ∧ Apt w w' [bx b1 [.int .i64 gm.nons, .int .i64 gm.toks, .slice Y gm.rules.length cy] 26, bx b6 (C.map Value.bool) 163, bx b11 (cells36 A0) 224, bx b13 (cells36 M) 224])
    ⟨by omega, rfl, (fun a b h => by omega), H⟩ ?_
  clear H
  rintro aa g2 w16 N hag ⟨haa, g106, hno, H⟩ hN
  have g24 : g2 4 = ptrv b11 := (hag 4 (by decide)).trans g4
  have g25 : g2 5 = ptrv b13 := (hag 5 (by decide)).trans g5
  simp only [g106, zq18, zq19, zq20, zq21, zq22, zq23, zq24, zq25, zq26, zq27, zq28, zq4, zq3, zq1, zq2, zq0, zq29, zq30, zq14, zq15, zq16, zq17, zq13, zq10, zq12, zq11, zq7, zq5, zq6, zq9, zq8, zq31, zq32, ite_T, ite_F, zq33, zq34, zq35, Nat.reduceEqDiff, len22, len24, fa26_0, fa26_1, fa26_2, len27, fa33_0, fa33_1, len35, fa114_0, fa114_1, fa114_2, fa124_0, fa124_1, len134]
  by_cases ha6 : aa < 6
  case neg =>
    simp only [show ¬ ((aa : Int) < 6) from by omega, decide_false, zq18, zq19, zq20, zq21, zq22, zq23, zq24, zq25, zq26, zq27, zq28, zq4, zq3, zq1, zq2, zq0, zq29, zq30, zq14, zq15, zq16, zq17, zq13, zq10, zq12, zq11, zq7, zq5, zq6, zq9, zq8, zq31, zq32, ite_T, ite_F, zq33, zq34, zq35, Nat.reduceEqDiff, len22, len24, fa26_0, fa26_1, fa26_2, len27, fa33_0, fa33_1, len35, fa114_0, fa114_1, fa114_2, fa124_0, fa124_1, len134]
    have := hk w16 H.gr
    rw [decide_eq_false] at this
    · exact this
    · rintro ⟨a, b, hab, h⟩
      have he := hE a b (egR_edR hab)
      exact hno a b (by omega) he.2 ((hM a b).2 hab) (h.imp id fun h => (hA b a).2 h)
  simp only [show ((aa : Int) < 6) from by omega, decide_true, zq18, zq19, zq20, zq21, zq22, zq23, zq24, zq25, zq26, zq27, zq28, zq4, zq3, zq1, zq2, zq0, zq29, zq30, zq14, zq15, zq16, zq17, zq13, zq10, zq12, zq11, zq7, zq5, zq6, zq9, zq8, zq31, zq32, ite_T, ite_F, zq33, zq34, zq35, Nat.reduceEqDiff, len22, len24, fa26_0, fa26_1, fa26_2, len27, fa33_0, fa33_1, len35, fa114_0, fa114_1, fa114_2, fa124_0, fa124_1, len134]
  refine loop_to 6 0 (fun bb g w' => bb ≤ 6 ∧ g 109 = .int .i64 (bb : Int) ∧ (∀ b, b < bb → M aa b = true → ¬ (aa = b ∨ A0 b aa = true)) ∧ Apt w w' [bx b1 [.int .i64 gm.nons, .int .i64 gm.toks, .slice Y gm.rules.length cy] 26, bx b6 (C.map Value.bool) 163, bx b11 (cells36 A0) 224, bx b13 (cells36 M) 224])
    ⟨by omega, rfl, (fun b h => by omega), H⟩ ?_
  clear H
  rintro bb g3 w17 N2 hag2 ⟨hbb, g109, hno2, H⟩ hN2
  have g34 : g3 4 = ptrv b11 := (hag2 4 (by decide)).trans g24
  have g35 : g3 5 = ptrv b13 := (hag2 5 (by decide)).trans g25
  have g315 : g3 15 = .int .i64 (aa : Int) := hag2 15 (by decide)
  have g3106 : g3 106 = .int .i64 (aa : Int) := (hag2 106 (by decide)).trans g106
  simp only [g34, g35, g315, g109, zq18, zq19, zq20, zq21, zq22, zq23, zq24, zq25, zq26, zq27, zq28, zq4, zq3, zq1, zq2, zq0, zq29, zq30, zq14, zq15, zq16, zq17, zq13, zq10, zq12, zq11, zq7, zq5, zq6, zq9, zq8, zq31, zq32, ite_T, ite_F, zq33, zq34, zq35, Nat.reduceEqDiff, len22, len24, fa26_0, fa26_1, fa26_2, len27, fa33_0, fa33_1, len35, fa114_0, fa114_1, fa114_2, fa124_0, fa124_1, len134]
  by_cases hb6 : bb < 6
  case neg =>
    simp only [show ¬ ((bb : Int) < 6) from by omega, decide_false, g3106, zq18, zq19, zq20, zq21, zq22, zq23, zq24, zq25, zq26, zq27, zq28, zq4, zq3, zq1, zq2, zq0, zq29, zq30, zq14, zq15, zq16, zq17, zq13, zq10, zq12, zq11, zq7, zq5, zq6, zq9, zq8, zq31, zq32, ite_T, ite_F, zq33, zq34, zq35, Nat.reduceEqDiff, len22, len24, fa26_0, fa26_1, fa26_2, len27, fa33_0, fa33_1, len35, fa114_0, fa114_1, fa114_2, fa124_0, fa124_1, len134]
    rw [i64_of (by omega) (by omega)]
    refine hN _ _ ha6 ⟨by omega, rfl, fun a b ha hb => ?_, H⟩
    by_cases ea : a = aa
    · subst ea
      exact hno2 b (by omega)
    · exact hno a b (by omega) hb
  simp only [show ((bb : Int) < 6) from by omega, decide_true, zq18, zq19, zq20, zq21, zq22, zq23, zq24, zq25, zq26, zq27, zq28, zq4, zq3, zq1, zq2, zq0, zq29, zq30, zq14, zq15, zq16, zq17, zq13, zq10, zq12, zq11, zq7, zq5, zq6, zq9, zq8, zq31, zq32, ite_T, ite_F, zq33, zq34, zq35, Nat.reduceEqDiff, len22, len24, fa26_0, fa26_1, fa26_2, len27, fa33_0, fa33_1, len35, fa114_0, fa114_1, fa114_2, fa124_0, fa124_1, len134]
  have next : (M aa bb = true → ¬ (aa = bb ∨ A0 bb aa = true)) → ∀ f' : F, f' 109 = .int .i64 (((bb + 1 : Nat)) : Int) → N2 f' w17 := fun hh f' e => by
    refine hN2 _ _ hb6 ⟨by omega, e, fun b hb => ?_, H⟩
    by_cases eb : b = bb
    · subst eb
      exact hh
    · exact hno2 b (by omega)
  have stop : M aa bb = true → (aa = bb ∨ A0 bb aa = true) → k (.bool false) w17 := fun h1 h2 => by
    have := hk w17 H.gr
    rw [decide_eq_true] at this
    · exact this
    · exact ⟨aa, bb, (hM _ _).1 h1, h2.imp id fun h => (hA _ _).1 h⟩
  refine rdi (ixa224 (by omega) (by omega)) ?_
  refine rdi (ixa163 (by omega) (by omega)) ?_
  rw [zq34, zq34, Nat.zero_add, Int.toNat_natCast, Int.toNat_natCast]
  rw [ldB4 (H.box 3 rfl) (cells36_get ha6 hb6)]
  cases h1 : M aa bb
  · simp only [g109, zq18, zq19, zq20, zq21, zq22, zq23, zq24, zq25, zq26, zq27, zq28, zq4, zq3, zq1, zq2, zq0, zq29, zq30, zq14, zq15, zq16, zq17, zq13, zq10, zq12, zq11, zq7, zq5, zq6, zq9, zq8, zq31, zq32, ite_T, ite_F, zq33, zq34, zq35, Nat.reduceEqDiff, len22, len24, fa26_0, fa26_1, fa26_2, len27, fa33_0, fa33_1, len35, fa114_0, fa114_1, fa114_2, fa124_0, fa124_1, len134]
    rw [i64_of (by omega) (by omega)]
    exact next (by rw [h1]; exact fun h => by cases h) _ rfl
  simp only [g315, g109, zq18, zq19, zq20, zq21, zq22, zq23, zq24, zq25, zq26, zq27, zq28, zq4, zq3, zq1, zq2, zq0, zq29, zq30, zq14, zq15, zq16, zq17, zq13, zq10, zq12, zq11, zq7, zq5, zq6, zq9, zq8, zq31, zq32, ite_T, ite_F, zq33, zq34, zq35, Nat.reduceEqDiff, len22, len24, fa26_0, fa26_1, fa26_2, len27, fa33_0, fa33_1, len35, fa114_0, fa114_1, fa114_2, fa124_0, fa124_1, len134]
  by_cases hab : aa = bb
  · simp only [show ((aa : Int) = (bb : Int)) from by omega, decide_true, zq18, zq19, zq20, zq21, zq22, zq23, zq24, zq25, zq26, zq27, zq28, zq4, zq3, zq1, zq2, zq0, zq29, zq30, zq14, zq15, zq16, zq17, zq13, zq10, zq12, zq11, zq7, zq5, zq6, zq9, zq8, zq31, zq32, ite_T, ite_F, zq33, zq34, zq35, Nat.reduceEqDiff, len22, len24, fa26_0, fa26_1, fa26_2, len27, fa33_0, fa33_1, len35, fa114_0, fa114_1, fa114_2, fa124_0, fa124_1, len134]
    exact stop h1 (.inl hab)
  simp only [show ¬ ((aa : Int) = (bb : Int)) from by omega, decide_false, g34, g315, g109, zq18, zq19, zq20, zq21, zq22, zq23, zq24, zq25, zq26, zq27, zq28, zq4, zq3, zq1, zq2, zq0, zq29, zq30, zq14, zq15, zq16, zq17, zq13, zq10, zq12, zq11, zq7, zq5, zq6, zq9, zq8, zq31, zq32, ite_T, ite_F, zq33, zq34, zq35, Nat.reduceEqDiff, len22, len24, fa26_0, fa26_1, fa26_2, len27, fa33_0, fa33_1, len35, fa114_0, fa114_1, fa114_2, fa124_0, fa124_1, len134]
  refine rdi (ixa224 (by omega) (by omega)) ?_
  refine rdi (ixa163 (by omega) (by omega)) ?_
  rw [zq34, zq34, Nat.zero_add, Int.toNat_natCast, Int.toNat_natCast]
  rw [ldB4 (H.box 2 rfl) (cells36_get hb6 ha6)]
  cases h2 : A0 bb aa
  · simp only [g109, zq18, zq19, zq20, zq21, zq22, zq23, zq24, zq25, zq26, zq27, zq28, zq4, zq3, zq1, zq2, zq0, zq29, zq30, zq14, zq15, zq16, zq17, zq13, zq10, zq12, zq11, zq7, zq5, zq6, zq9, zq8, zq31, zq32, ite_T, ite_F, zq33, zq34, zq35, Nat.reduceEqDiff, len22, len24, fa26_0, fa26_1, fa26_2, len27, fa33_0, fa33_1, len35, fa114_0, fa114_1, fa114_2, fa124_0, fa124_1, len134]
    rw [i64_of (by omega) (by omega)]
    exact next (fun _ h => by rcases h with h | h; exact hab h; rw [h2] at h; cases h) _ rfl
  · simp only [zq18, zq19, zq20, zq21, zq22, zq23, zq24, zq25, zq26, zq27, zq28, zq4, zq3, zq1, zq2, zq0, zq29, zq30, zq14, zq15, zq16, zq17, zq13, zq10, zq12, zq11, zq7, zq5, zq6, zq9, zq8, zq31, zq32, ite_T, ite_F, zq33, zq34, zq35, Nat.reduceEqDiff, len22, len24, fa26_0, fa26_1, fa26_2, len27, fa33_0, fa33_1, len35, fa114_0, fa114_1, fa114_2, fa124_0, fa124_1, len134]
    exact stop h1 (.inr h2)
open Classical in
theorem implIsFinite_c (hG : kG Y cy gm.rules w) (hk : ∀ w', Gr w w' → k (.tuple #[.bool (finiteV gm).1, .bool (finiteV gm).2]) w') :
    CallK Try.prog 56 [grv gm Y cy] k w := by
  refine enter56 ?_
  unfold S56
  have H := Apt.nil w
  refine boxH H fun b1 w1 H => ?_
  rw [ldB_agg agg26 sz26 rfl (H.box 0 rfl)]
  refine isGrammar_c (gm := gm) (gvK ⟨hG.1, hG.2.gr H.gr⟩) fun w2 g => ?_
  have H := H.step g
  cases hg : goodG gm
  · simp only [Bool.not_false, zq18, zq19, zq20, zq21, zq22, zq23, zq24, zq25, zq26, zq27, zq28, zq4, zq3, zq1, zq2, zq0, zq29, zq30, zq14, zq15, zq16, zq17, zq13, zq10, zq12, zq11, zq7, zq5, zq6, zq9, zq8, zq31, zq32, ite_T, ite_F, zq33, zq34, zq35, Nat.reduceEqDiff, len22, len24, fa26_0, fa26_1, fa26_2, len27, fa33_0, fa33_1, len35, fa114_0, fa114_1, fa114_2, fa124_0, fa124_1, len134]
    have := hk w2 H.gr
    unfold finiteV at this
    rwa [hg, if_neg Bool.false_ne_true] at this
  simp only [Bool.not_true, zq18, zq19, zq20, zq21, zq22, zq23, zq24, zq25, zq26, zq27, zq28, zq4, zq3, zq1, zq2, zq0, zq29, zq30, zq14, zq15, zq16, zq17, zq13, zq10, zq12, zq11, zq7, zq5, zq6, zq9, zq8, zq31, zq32, ite_T, ite_F, zq33, zq34, zq35, Nat.reduceEqDiff, len22, len24, fa26_0, fa26_1, fa26_2, len27, fa33_0, fa33_1, len35, fa114_0, fa114_1, fa114_2, fa124_0, fa124_1, len134]
  rw [ldB_agg agg26 sz26 rfl (H.box 0 rfl)]
  have h6 := sixR hg
  have hr4 : ∀ r ∈ gm.rules, r.2.length ≤ 1000 := fun r hr => by have := (goodRules hg r hr).2.1; omega
  refine useful_c (gm := gm) ⟨hG.1, hG.2.gr H.gr⟩ hg fun w3 X c g hc hR => ?_
  have H := H.step g
  refine isFinite_c (gm := ⟨gm.nons, gm.toks, usefulR gm.rules⟩) ⟨hc, hR.mono fun _ _ => trivial⟩ (fun r hr => h6 r (usefulR_sub hr)) (fun r hr => hr4 r (usefulR_sub hr)) fun w4 g => ?_
  have H := H.step g
  have := hk w4 H.gr
  unfold finiteV at this
  rwa [hg, if_pos rfl] at this
end
end Go.Proofs.Ytegcjkhebecgbaa

/- Great regions: their plans are held against them step by step. -/
set_option linter.unusedVariables false
namespace Go.Sh
open Go Go.Proofs.YtegcjkhebecgbaaW.PrintLast
def regsOf : Code → List (Nat × Array Oper)
  | .region id ops true => [(id, ops)]
  | .seq a b => regsOf a ++ regsOf b
  | .cond _ a b => regsOf a ++ regsOf b
  | .block _ b => regsOf b
  | .loop b => regsOf b
  | _ => []
def regAt (c : Code) (i : Nat) : Nat × Array Oper := (regsOf c).getD i (0, #[])
theorem plansOK_regs (pl : Plans) : ∀ c : Code, plansOK pl c = (regsOf c).all fun x => planOK x.2 (pl x.1) := by
  intro c
  induction c with
  | region id ops b => cases b <;> simp [plansOK, regsOf]
  | seq a b iha ihb => simp [plansOK, regsOf, iha, ihb]
  | cond v a b iha ihb => simp [plansOK, regsOf, iha, ihb]
  | block i b ih => simp [plansOK, regsOf, ih]
  | loop b ih => simp [plansOK, regsOf, ih]
  | _ => rfl
theorem plansOK_at {pl : Plans} {c : Code} {n : Nat} (hn : (regsOf c).length = n) (h : ∀ i, i < n → planOK (regAt c i).2 (pl (regAt c i).1) = true) : plansOK pl c = true := by
  rw [plansOK_regs, List.all_eq_true]
  intro x hx
  obtain ⟨i, hi, rfl⟩ := List.getElem_of_mem hx
  have := h i (hn ▸ hi)
  unfold regAt at this
  rw [List.getD_eq_getElem?_getD, List.getElem?_eq_getElem hi] at this
  exact this
section
variable {ops : Array Oper} {ds : List Nat} {i n : Nat} {r : Steps} {l l' : Array Bool} {s : Bool}
theorem ok_nil (h : (Region.ready .any ops l == []) = true) : stepsOK ops ds .nil 0 l s = true := by
  rw [stepsOK, h]
  rfl
theorem ok_any (e : l.setIfInBounds i true = l') (h : (quietAt ops i && anyB .any ops l l' i) = true) (hr : stepsOK ops ds r n l' s = true) : stepsOK ops ds (.step i .any r) (n + 1) l s = true := by
  subst e
  rw [stepsOK, h, hr]
  rfl
theorem ok_held (e : l.setIfInBounds i true = l') (h : (quietAt ops i && takeB .any ops ds l l' i) = true) (hr : stepsOK ops ds r n l' true = true) : stepsOK ops ds (.step i .held r) (n + 1) l true = true := by
  subst e
  rw [stepsOK, Bool.true_and, h, hr]
  rfl
/-- A way along the edges. -/
def edgeB (md : Region.Mode) (ops : Array Oper) (d x : Nat) : Bool := match ops[d]? with
  | some o => o.after.any fun e => Region.binds md e && e.on == x
  | none => false
def pathB (md : Region.Mode) (ops : Array Oper) (i : Nat) : Nat → List Nat → Bool
  | d, [] => edgeB md ops d i
  | d, p :: ps => edgeB md ops d p && pathB md ops i p ps
theorem path_reach {md : Region.Mode} : ∀ (ps : List Nat) (d fuel : Nat), pathB md ops i d ps = true → ps.length < fuel → Region.reachB md ops i fuel d = true := by
  intro ps
  induction ps with
  | nil =>
    intro d fuel h hf
    obtain ⟨f, rfl⟩ : ∃ f, fuel = f + 1 := ⟨fuel - 1, by omega⟩
    rw [pathB, edgeB] at h
    rw [Region.reachB]
    split at h
    · rename_i o ho
      obtain ⟨e, he, h2⟩ := Array.any_eq_true'.1 h
      rw [ho]
      refine Array.any_eq_true'.2 ⟨e, he, ?_⟩
      rw [Bool.and_eq_true] at h2 ⊢
      exact ⟨h2.1, by rw [h2.2, Bool.true_or]⟩
    · cases h
  | cons p ps ih =>
    intro d fuel h hf
    rw [List.length_cons] at hf
    obtain ⟨f, rfl⟩ : ∃ f, fuel = f + 1 := ⟨fuel - 1, by omega⟩
    rw [pathB, edgeB, Bool.and_eq_true] at h
    have h3 := ih p f h.2 (by omega)
    have h := h.1
    rw [Region.reachB]
    split at h
    · rename_i o ho
      obtain ⟨e, he, h2⟩ := Array.any_eq_true'.1 h
      rw [ho]
      refine Array.any_eq_true'.2 ⟨e, he, ?_⟩
      rw [Bool.and_eq_true] at h2 ⊢
      rw [beq_iff_eq] at h2
      exact ⟨h2.1, by rw [h2.2, h3, Bool.or_true]⟩
    · cases h
def lastL (md : Region.Mode) (ops : Array Oper) (l : Array Bool) (i : Nat) : List Nat → List (List Nat) → Bool
  | [], _ => true
  | d :: ds, p :: pp => (l.getD d true || (pathB md ops i d p && Nat.blt p.length ops.size)) && lastL md ops l i ds pp
  | _ :: _, [] => false
theorem lastL_spec {md : Region.Mode} : ∀ (ds : List Nat) (pp : List (List Nat)), lastL md ops l i ds pp = true → Region.lastB md ops l ds i = true := by
  intro ds
  induction ds with
  | nil => intro pp _; rfl
  | cons d ds ih =>
    intro pp h
    cases pp with
    | nil => cases h
    | cons p pp =>
      rw [lastL, Bool.and_eq_true] at h
      have h2 := ih pp h.2
      unfold Region.lastB at h2 ⊢
      rw [List.all_cons, h2, Bool.and_true]
      have h1 := h.1
      rw [Bool.or_eq_true, Bool.and_eq_true] at h1
      rw [Bool.or_eq_true]
      rcases h1 with h1 | ⟨h1, h3⟩
      · exact .inl h1
      · exact .inr (path_reach p d ops.size h1 (Nat.blt_eq.mp h3))
theorem ok_heldP (pp : List (List Nat)) (e : l.setIfInBounds i true = l') (h : (quietAt ops i && (Region.noSelect ops && Region.free .any ops l i && (Region.ready .any ops l).contains i && Region.closedB .any ops l)) = true) (hl : lastL .any ops l i ds pp = true)
    (hr : stepsOK ops ds r n l' true = true) : stepsOK ops ds (.step i .held r) (n + 1) l true = true := by
  refine ok_held e ?_ hr
  rw [Bool.and_eq_true] at h ⊢
  refine ⟨h.1, ?_⟩
  unfold takeB
  rw [h.2, lastL_spec ds pp hl, e]
  simp
theorem ok_last (e : l.setIfInBounds i true = l') (h : (!quietAt ops i && ds.contains i && (Region.ready .any ops l == [i])) = true) (hr : stepsOK ops ds r n l' false = true) : stepsOK ops ds (.step i .last r) (n + 1) l s = true := by
  subst e
  rw [stepsOK, h, hr]
  rfl
end
end Go.Sh

/- Cf: bodies of functions as terms of the frame calculus, printed by shgen.py of this repository. -/
set_option linter.unusedVariables false
set_option maxRecDepth 100000
namespace Go.Proofs.Ytegcjkhebecgbaa
open Go Go.Sh

/-! loop.example/g00758/spec.l3Leads -/
def pl268 : Plans := fun i => match i with
  | 21 => ⟨true, [29], .step 0 .any (.step 1 .any (.step 2 .held (.step 3 .any (.step 4 .held (.step 5 .any (.step 6 .any (.step 7 .any (.step 8 .held (.step 9 .any (.step 10 .held (.step 11 .any (.step 12 .any (.step 13 .held (.step 14 .any (.step 15 .any (.step 16 .any (.step 17 .any (.step 18 .any (.step 19 .any (.step 20 .any (.step 21 .any (.step 22 .any (.step 23 .any (.step 24 .one (.step 25 .any (.step 26 .any (.step 27 .any (.step 28 .any (.step 29 .last (.nil))))))))))))))))))))))))))))))⟩
  | 34 => ⟨false, [49], .step 0 .any (.step 1 .any (.step 2 .any (.step 3 .held (.step 4 .any (.step 5 .any (.step 6 .any (.step 7 .any (.step 8 .held (.step 9 .any (.step 10 .any (.step 11 .held (.step 12 .any (.step 13 .any (.step 14 .any (.step 15 .any (.step 16 .held (.step 17 .any (.step 18 .any (.step 19 .held (.step 20 .any (.step 21 .any (.step 22 .any (.step 23 .any (.step 24 .held (.step 25 .any (.step 26 .any (.step 27 .held (.step 28 .any (.step 29 .any (.step 30 .any (.step 31 .any (.step 32 .any (.step 33 .any (.step 34 .held (.step 35 .any (.step 36 .any (.step 37 .held (.step 38 .any (.step 39 .any (.step 40 .any (.step 41 .any (.step 42 .held (.step 43 .any (.step 44 .any (.step 45 .held (.step 46 .any (.step 47 .any (.step 48 .any (.step 49 .last (.nil))))))))))))))))))))))))))))))))))))))))))))))))))⟩
  | 35 => ⟨false, [31], .step 0 .any (.step 1 .any (.step 2 .any (.step 3 .held (.step 4 .any (.step 5 .any (.step 6 .any (.step 7 .any (.step 8 .held (.step 9 .any (.step 10 .any (.step 11 .held (.step 12 .any (.step 13 .any (.step 14 .any (.step 15 .any (.step 16 .held (.step 17 .any (.step 18 .any (.step 19 .held (.step 20 .any (.step 21 .any (.step 22 .any (.step 23 .any (.step 24 .held (.step 25 .any (.step 26 .any (.step 27 .held (.step 28 .any (.step 29 .any (.step 30 .any (.step 31 .last (.nil))))))))))))))))))))))))))))))))⟩
  | _ => ⟨false, [], .nil⟩
def S268 (v0 : Value) (k : Value → World → Prop) (w : World) : Prop :=
 Do Try.prog (sBox 26 v0) (fun t1 w2 =>
 Rd Try.prog (WS.at w2) (sLoad 26 t1) fun t3 =>
 CallK Try.prog 195 [t3] (fun t4 w5 =>
 Rd Try.prog (WS.at w5) (sFieldAddr 26 t1 0) fun t6 =>
 Rd Try.prog (WS.at w5) (sLoad 3 t6) fun t7 =>
 Do Try.prog (sMakeSlice 134 t7 t7) (fun t8 w9 =>
 Rd Try.prog (WS.at w9) (sFieldAddr 26 t1 0) fun t10 =>
 Rd Try.prog (WS.at w9) (sLoad 3 t10) fun t11 =>
 Do Try.prog (sMakeSlice 134 t11 t11) (fun t12 w13 =>
 Rd Try.prog (WS.at w13) (sBuiltin .len #[134] 3 [false] [t8]) fun t14 =>
 LoopF [28, 29, 7, 30, 31, 32, 33, 34, 35, 36, 37, 38, 39, 40, 41, 42, 27] (fun Q15 f16 w17 =>
  Rd Try.prog (WS.at w17) (sBin .lss 3 false (f16 27) (f16 26)) fun t18 =>
  CondK t18
   (Rd Try.prog (WS.at w17) (sFieldAddr 26 (f16 1) 0) fun t19 =>
   Rd Try.prog (WS.at w17) (sLoad 3 t19) fun t20 =>
   Do Try.prog (sMakeSlice 136 t20 t20) (fun t21 w22 =>
   Rd Try.prog (WS.at w22) (sIndexAddr 134 (f16 5) (f16 27)) fun t23 =>
   Do Try.prog (sStore 136 t23 t21) (fun _ w24 =>
   Rd Try.prog (WS.at w24) (sFieldAddr 26 (f16 1) 0) fun t25 =>
   Rd Try.prog (WS.at w24) (sLoad 3 t25) fun t26 =>
   Do Try.prog (sMakeSlice 136 t26 t26) (fun t27 w28 =>
   Rd Try.prog (WS.at w28) (sIndexAddr 134 (f16 6) (f16 27)) fun t29 =>
   Do Try.prog (sStore 136 t29 t27) (fun _ w30 =>
   Rd Try.prog (WS.at w30) (sBin .add 3 true (f16 27) (.int .i64 1)) fun t31 =>
   Q15 .normal (F.upd (F.upd (F.upd (F.upd (F.upd (F.upd (F.upd (F.upd (F.upd (F.upd (F.upd (F.upd (F.upd (F.upd (F.upd (F.upd (F.upd f16 28 t18) 29 (f16 27)) 7 (f16 27)) 30 (f16 5)) 31 (f16 27)) 32 t19) 33 t20) 34 t21) 35 t23) 36 (f16 6)) 37 (f16 27)) 38 t25) 39 t26) 40 t27) 41 t29) 42 t31) 27 t31) w30) w28) w24) w22) w17)
   (Q15 (.exit 0) (F.upd f16 28 t18) w17))
  (blockQ 0 (seqQ (fun f32 w33 =>
 Rd Try.prog (WS.at w33) (sFieldAddr 26 (f32 1) 2) fun t34 =>
 Rd Try.prog (WS.at w33) (sLoad 24 t34) fun t35 =>
 Rd Try.prog (WS.at w33) (sBuiltin .len #[24] 3 [false] [t35]) fun t36 =>
 LoopF [47, 48, 49, 9, 50, 51, 52, 53, 54, 55, 56, 57, 10, 11, 58, 59, 60, 61, 62, 63, 64, 65, 66, 67, 68, 69, 70, 71, 72, 73, 74, 12, 13, 75, 76, 77, 78, 79, 80, 81, 82, 83, 84, 85, 86, 87, 88, 89, 90, 91, 92, 93, 94, 95, 96, 97, 98, 99, 100, 101, 102, 103, 104, 70, 105, 53, 106, 46] (fun Q37 f38 w39 =>
  Rd Try.prog (WS.at w39) (sBin .lss 3 false (f38 46) (f38 45)) fun t40 =>
  CondK t40
   (Rd Try.prog (WS.at w39) (sIndexAddr 24 (f38 44) (f38 46)) fun t41 =>
   Rd Try.prog (WS.at w39) (sLoad 33 t41) fun t42 =>
   Do Try.prog (sAlloc 33) (fun t43 w44 =>
   Do Try.prog (sStore 33 t43 t42) (fun _ w45 =>
   Rd Try.prog (WS.at w45) (sFieldAddr 33 t43 1) fun t46 =>
   Rd Try.prog (WS.at w45) (sLoad 27 t46) fun t47 =>
   Rd Try.prog (WS.at w45) (sBuiltin .len #[27] 3 [false] [t47]) fun t48 =>
   LoopF [54, 55, 56, 57, 10, 11, 58, 59, 60, 61, 62, 63, 64, 65, 66, 67, 68, 69, 70, 71, 72, 73, 74, 12, 13, 75, 76, 77, 78, 79, 80, 81, 82, 83, 84, 85, 86, 87, 88, 89, 90, 91, 92, 93, 94, 95, 96, 97, 98, 99, 100, 101, 102, 103, 104, 70, 105, 53] (fun Q49 f50 w51 =>
    Rd Try.prog (WS.at w51) (sBin .lss 3 false (f50 53) (f50 52)) fun t52 =>
    CondK t52
     (Join (fun K53 =>
     Rd Try.prog (WS.at w51) (sIndexAddr 27 (f50 51) (f50 53)) fun t56 =>
     Rd Try.prog (WS.at w51) (sLoad 3 t56) fun t57 =>
     Rd Try.prog (WS.at w51) (sBin .lss 3 true t57 (.int .i64 0)) fun t58 =>
     CondK t58
      (K53 (F.upd (F.upd (F.upd (F.upd (F.upd (F.upd (F.upd (F.upd f50 54 t52) 55 (f50 53)) 56 t56) 57 t57) 10 (f50 53)) 11 t57) 58 t57) 59 t58) w51)
      (Rd Try.prog (WS.at w51) (sFieldAddr 33 (f50 9) 0) fun t59 =>
      Rd Try.prog (WS.at w51) (sLoad 3 t59) fun t60 =>
      Rd Try.prog (WS.at w51) (sIndexAddr 134 (f50 5) t60) fun t61 =>
      Rd Try.prog (WS.at w51) (sLoad 136 t61) fun t62 =>
      Rd Try.prog (WS.at w51) (sIndexAddr 136 t62 t57) fun t63 =>
      Do Try.prog (sStore 4 t63 (.bool true)) (fun _ w64 =>
      Rd Try.prog (WS.at w64) (sFieldAddr 33 (f50 9) 1) fun t65 =>
      Rd Try.prog (WS.at w64) (sLoad 27 t65) fun t66 =>
      Rd Try.prog (WS.at w64) (sBuiltin .len #[27] 3 [false] [t66]) fun t67 =>
      LoopF [71, 72, 73, 74, 12, 13, 75, 76, 77, 78, 79, 80, 81, 82, 83, 84, 85, 86, 87, 88, 89, 90, 91, 92, 93, 94, 95, 96, 97, 98, 99, 100, 101, 102, 103, 104, 70] (fun Q68 f69 w70 =>
       Rd Try.prog (WS.at w70) (sBin .lss 3 false (f69 70) (f69 69)) fun t71 =>
       CondK t71
        (Rd Try.prog (WS.at w70) (sIndexAddr 27 (f69 68) (f69 70)) fun t72 =>
        Rd Try.prog (WS.at w70) (sLoad 3 t72) fun t73 =>
        ∃ S74 : World → Prop, ∃ h75 : S74 w70.drew,
        Rd Try.prog WS.any (sFieldAddr 33 (f69 9) 0) fun t76 =>
        Rd Try.prog ⟨S74, w70.drew, h75⟩ (sLoad 3 t76) fun t77 =>
        Rd Try.prog WS.any (sIndexAddr 134 (f69 6) t77) fun t78 =>
        Rd Try.prog ⟨S74, w70.drew, h75⟩ (sLoad 136 t78) fun t79 =>
        Rd Try.prog WS.any (sFieldAddr 33 (f69 9) 0) fun t80 =>
        Rd Try.prog ⟨S74, w70.drew, h75⟩ (sLoad 3 t80) fun t81 =>
        Rd Try.prog WS.any (sIndexAddr 134 (f69 6) t81) fun t82 =>
        Rd Try.prog ⟨S74, w70.drew, h75⟩ (sLoad 136 t82) fun t83 =>
        Rd Try.prog WS.any (sIndexAddr 136 t83 (f69 11)) fun t84 =>
        Rd Try.prog ⟨S74, w70.drew, h75⟩ (sLoad 4 t84) fun t85 =>
        GuardK t85 false (fun k w' => k (f69 10) w') (fun t86 w87 =>
        GuardK t85 false (fun k w' => k (f69 70) w') (fun t88 w89 =>
        GuardK t85 false (fun k w' => Rd Try.prog WS.any (sBin .neq 3 false t86 t88) fun v => k v w') (fun t90 w91 =>
        GuardK t85 false (fun k w' => k t90 w') (fun t92 w93 =>
        GuardK t92 true (fun k w' => k t73 w') (fun t94 w95 =>
        GuardK t92 true (fun k w' => Rd Try.prog WS.any (sBin .lss 3 true t94 (.int .i64 0)) fun v => k v w') (fun t96 w97 =>
        GuardK t92 true (fun k w' => k t96 w') (fun t98 w99 =>
        GuardK t98 false (fun k w' => k (f69 4) w') (fun t100 w101 =>
        GuardK t98 false (fun k w' => k t73 w') (fun t102 w103 =>
        GuardK t98 false (fun k w' => CallK Try.prog 244 [t100, t102] k w') (fun t104 w105 =>
        S74 w105 ∧ GuardK t92 true (fun k w' => Rd Try.prog WS.any (sPick t98 (.bool true) t104) fun v => k v w') (fun t106 w107 =>
        GuardK t85 false (fun k w' => Rd Try.prog WS.any (sPick t92 t106 (.bool false)) fun v => k v w') (fun t108 w109 =>
        Rd Try.prog WS.any (sPick t85 (.bool true) t108) fun t110 =>
        Rd Try.prog WS.any (sIndexAddr 136 t79 (f69 11)) fun t111 =>
        Do Try.prog (sStore 4 t111 t110) (fun _ w112 =>
        Rd Try.prog (WS.at w112) (sBin .add 3 true (f69 70) (.int .i64 1)) fun t113 =>
        Q68 .normal (F.upd (F.upd (F.upd (F.upd (F.upd (F.upd (F.upd (F.upd (F.upd (F.upd (F.upd (F.upd (F.upd (F.upd (F.upd (F.upd (F.upd (F.upd (F.upd (F.upd (F.upd (F.upd (F.upd (F.upd (F.upd (F.upd (F.upd (F.upd (F.upd (F.upd (F.upd (F.upd (F.upd (F.upd (F.upd (F.upd (F.upd f69 71 t71) 72 (f69 70)) 73 t72) 74 t73) 12 (f69 70)) 13 t73) 75 (f69 6)) 76 t76) 77 t77) 78 t78) 79 t79) 80 (f69 11)) 81 (f69 6)) 82 t80) 83 t81) 84 t82) 85 t83) 86 (f69 11)) 87 t84) 88 t85) 89 t85) 90 t86) 91 t88) 92 t90) 93 t92) 94 t94) 95 t96) 96 t98) 97 t100) 98 t102) 99 t104) 100 t106) 101 t108) 102 t110) 103 t111) 104 t113) 70 t113) w112) w109) w107) w105) w103) w101) w99) w97) w95) w93) w91) w89) w87) w70.drew)
        (Q68 (.exit 6) (F.upd f69 71 t71) w70))
       (blockQ 6 (blockQ 5 (seqQ K53 Q49)))
       (F.upd (F.upd (F.upd (F.upd (F.upd (F.upd (F.upd (F.upd (F.upd (F.upd (F.upd (F.upd (F.upd (F.upd (F.upd (F.upd (F.upd (F.upd (F.upd f50 54 t52) 55 (f50 53)) 56 t56) 57 t57) 10 (f50 53)) 11 t57) 58 t57) 59 t58) 60 (f50 5)) 61 t59) 62 t60) 63 t61) 64 t62) 65 t57) 66 t63) 67 t65) 68 t66) 69 t67) 70 (.int .i64 0)) w64) w51)) (fun f54 w55 =>
     Rd Try.prog (WS.at w55) (sBin .add 3 true (f54 53) (.int .i64 1)) fun t116 =>
     Q49 .normal (F.upd (F.upd f54 105 t116) 53 t116) w55))
     (Q49 (.exit 4) (F.upd f50 54 t52) w51))
    (blockQ 4 (blockQ 3 (seqQ (fun f117 w118 =>
   Rd Try.prog (WS.at w118) (sBin .add 3 true (f117 46) (.int .i64 1)) fun t119 =>
   Q37 .normal (F.upd (F.upd f117 106 t119) 46 t119) w118) Q37)))
    (F.upd (F.upd (F.upd (F.upd (F.upd (F.upd (F.upd (F.upd f38 47 t40) 48 t41) 49 t42) 9 t43) 50 t46) 51 t47) 52 t48) 53 (.int .i64 0)) w45) w44) w39)
   (Q37 (.exit 2) (F.upd f38 47 t40) w39))
  (blockQ 2 (seqQ (fun f120 w121 =>
 LoopF [107, 108, 109, 110, 15, 113, 114, 115, 116, 16, 119, 120, 121, 122, 125, 126, 127, 128, 129, 130, 131, 132, 133, 134, 135, 136, 137, 138, 139, 140, 141, 142, 143, 144, 145, 146, 147, 148, 149, 150, 151, 152, 153, 154, 155, 156, 157, 158, 159, 160, 161, 162, 163, 164, 165, 166, 167, 168, 169, 170, 171, 172, 173, 174, 175, 176, 177, 178, 179, 180, 181, 182, 183, 184, 185, 186, 187, 188, 189, 190, 191, 192, 193, 194, 195, 196, 197, 198, 199, 200, 201, 202, 203, 204, 123, 124, 16, 117, 118, 15, 111, 112, 14] (fun Q122 f123 w124 =>
  Rd Try.prog (WS.at w124) (sFieldAddr 26 (f123 1) 0) fun t125 =>
  Rd Try.prog (WS.at w124) (sLoad 3 t125) fun t126 =>
  Rd Try.prog (WS.at w124) (sBin .lss 3 false (f123 14) t126) fun t127 =>
  CondK t127
   (LoopF [113, 114, 115, 116, 16, 119, 120, 121, 122, 125, 126, 127, 128, 129, 130, 131, 132, 133, 134, 135, 136, 137, 138, 139, 140, 141, 142, 143, 144, 145, 146, 147, 148, 149, 150, 151, 152, 153, 154, 155, 156, 157, 158, 159, 160, 161, 162, 163, 164, 165, 166, 167, 168, 169, 170, 171, 172, 173, 174, 175, 176, 177, 178, 179, 180, 181, 182, 183, 184, 185, 186, 187, 188, 189, 190, 191, 192, 193, 194, 195, 196, 197, 198, 199, 200, 201, 202, 203, 204, 123, 124, 16, 117, 118, 15] (fun Q128 f129 w130 =>
    Rd Try.prog (WS.at w130) (sFieldAddr 26 (f129 1) 0) fun t131 =>
    Rd Try.prog (WS.at w130) (sLoad 3 t131) fun t132 =>
    Rd Try.prog (WS.at w130) (sBin .lss 3 false (f129 15) t132) fun t133 =>
    CondK t133
     (LoopF [119, 120, 121, 122, 125, 126, 127, 128, 129, 130, 131, 132, 133, 134, 135, 136, 137, 138, 139, 140, 141, 142, 143, 144, 145, 146, 147, 148, 149, 150, 151, 152, 153, 154, 155, 156, 157, 158, 159, 160, 161, 162, 163, 164, 165, 166, 167, 168, 169, 170, 171, 172, 173, 174, 175, 176, 177, 178, 179, 180, 181, 182, 183, 184, 185, 186, 187, 188, 189, 190, 191, 192, 193, 194, 195, 196, 197, 198, 199, 200, 201, 202, 203, 204, 123, 124, 16] (fun Q134 f135 w136 =>
      Rd Try.prog (WS.at w136) (sFieldAddr 26 (f135 1) 0) fun t137 =>
      Rd Try.prog (WS.at w136) (sLoad 3 t137) fun t138 =>
      Rd Try.prog (WS.at w136) (sBin .lss 3 false (f135 16) t138) fun t139 =>
      CondK t139
       (Rd Try.prog WS.any (sIndexAddr 134 (f135 6) (f135 15)) fun t140 =>
       Rd Try.prog (WS.at w136.drew) (sLoad 136 t140) fun t141 =>
       Rd Try.prog WS.any (sIndexAddr 134 (f135 6) (f135 15)) fun t142 =>
       Rd Try.prog (WS.at w136.drew) (sLoad 136 t142) fun t143 =>
       Rd Try.prog WS.any (sIndexAddr 136 t143 (f135 16)) fun t144 =>
       Rd Try.prog (WS.at w136.drew) (sLoad 4 t144) fun t145 =>
       GuardK t145 false (fun k w' => k (f135 5) w') (fun t146 w147 =>
       GuardK t145 false (fun k w' => k (f135 15) w') (fun t148 w149 =>
       GuardK t145 false (fun k w' => Rd Try.prog WS.any (sIndexAddr 134 t146 t148) fun v => k v w') (fun t150 w151 =>
       GuardK t145 false (fun k w' => Rd Try.prog (WS.at w136.drew) (sLoad 136 t150) fun v => k v w') (fun t152 w153 =>
       GuardK t145 false (fun k w' => k (f135 14) w') (fun t154 w155 =>
       GuardK t145 false (fun k w' => Rd Try.prog WS.any (sIndexAddr 136 t152 t154) fun v => k v w') (fun t156 w157 =>
       GuardK t145 false (fun k w' => Rd Try.prog (WS.at w136.drew) (sLoad 4 t156) fun v => k v w') (fun t158 w159 =>
       GuardK t145 false (fun k w' => k t158 w') (fun t160 w161 =>
       GuardK t160 true (fun k w' => k (f135 6) w') (fun t162 w163 =>
       GuardK t160 true (fun k w' => k (f135 14) w') (fun t164 w165 =>
       GuardK t160 true (fun k w' => Rd Try.prog WS.any (sIndexAddr 134 t162 t164) fun v => k v w') (fun t166 w167 =>
       GuardK t160 true (fun k w' => Rd Try.prog (WS.at w136.drew) (sLoad 136 t166) fun v => k v w') (fun t168 w169 =>
       GuardK t160 true (fun k w' => k (f135 16) w') (fun t170 w171 =>
       GuardK t160 true (fun k w' => Rd Try.prog WS.any (sIndexAddr 136 t168 t170) fun v => k v w') (fun t172 w173 =>
       GuardK t160 true (fun k w' => Rd Try.prog (WS.at w136.drew) (sLoad 4 t172) fun v => k v w') (fun t174 w175 =>
       GuardK t145 false (fun k w' => Rd Try.prog WS.any (sPick t160 t174 (.bool false)) fun v => k v w') (fun t176 w177 =>
       Rd Try.prog WS.any (sPick t145 (.bool true) t176) fun t178 =>
       GuardK t178 false (fun k w' => k (f135 6) w') (fun t179 w180 =>
       GuardK t178 false (fun k w' => k (f135 15) w') (fun t181 w182 =>
       GuardK t178 false (fun k w' => Rd Try.prog WS.any (sIndexAddr 134 t179 t181) fun v => k v w') (fun t183 w184 =>
       GuardK t178 false (fun k w' => Rd Try.prog (WS.at w136.drew) (sLoad 136 t183) fun v => k v w') (fun t185 w186 =>
       GuardK t178 false (fun k w' => k (f135 14) w') (fun t187 w188 =>
       GuardK t178 false (fun k w' => Rd Try.prog WS.any (sIndexAddr 136 t185 t187) fun v => k v w') (fun t189 w190 =>
       GuardK t178 false (fun k w' => Rd Try.prog (WS.at w136.drew) (sLoad 4 t189) fun v => k v w') (fun t191 w192 =>
       GuardK t178 false (fun k w' => k t191 w') (fun t193 w194 =>
       GuardK t193 true (fun k w' => k (f135 5) w') (fun t195 w196 =>
       GuardK t193 true (fun k w' => k (f135 14) w') (fun t197 w198 =>
       GuardK t193 true (fun k w' => Rd Try.prog WS.any (sIndexAddr 134 t195 t197) fun v => k v w') (fun t199 w200 =>
       GuardK t193 true (fun k w' => Rd Try.prog (WS.at w136.drew) (sLoad 136 t199) fun v => k v w') (fun t201 w202 =>
       GuardK t193 true (fun k w' => k (f135 16) w') (fun t203 w204 =>
       GuardK t193 true (fun k w' => Rd Try.prog WS.any (sIndexAddr 136 t201 t203) fun v => k v w') (fun t205 w206 =>
       GuardK t193 true (fun k w' => Rd Try.prog (WS.at w136.drew) (sLoad 4 t205) fun v => k v w') (fun t207 w208 =>
       GuardK t178 false (fun k w' => Rd Try.prog WS.any (sPick t193 t207 (.bool false)) fun v => k v w') (fun t209 w210 =>
       Rd Try.prog WS.any (sPick t178 (.bool true) t209) fun t211 =>
       Rd Try.prog WS.any (sIndexAddr 136 t141 (f135 16)) fun t212 =>
       Do Try.prog (sStore 4 t212 t211) (fun _ w213 =>
       Rd Try.prog WS.any (sIndexAddr 134 (f135 5) (f135 15)) fun t214 =>
       Rd Try.prog (WS.at w213.drew) (sLoad 136 t214) fun t215 =>
       Rd Try.prog WS.any (sIndexAddr 134 (f135 5) (f135 15)) fun t216 =>
       Rd Try.prog (WS.at w213.drew) (sLoad 136 t216) fun t217 =>
       Rd Try.prog WS.any (sIndexAddr 136 t217 (f135 16)) fun t218 =>
       Rd Try.prog (WS.at w213.drew) (sLoad 4 t218) fun t219 =>
       GuardK t219 false (fun k w' => k (f135 5) w') (fun t220 w221 =>
       GuardK t219 false (fun k w' => k (f135 15) w') (fun t222 w223 =>
       GuardK t219 false (fun k w' => Rd Try.prog WS.any (sIndexAddr 134 t220 t222) fun v => k v w') (fun t224 w225 =>
       GuardK t219 false (fun k w' => Rd Try.prog (WS.at w213.drew) (sLoad 136 t224) fun v => k v w') (fun t226 w227 =>
       GuardK t219 false (fun k w' => k (f135 14) w') (fun t228 w229 =>
       GuardK t219 false (fun k w' => Rd Try.prog WS.any (sIndexAddr 136 t226 t228) fun v => k v w') (fun t230 w231 =>
       GuardK t219 false (fun k w' => Rd Try.prog (WS.at w213.drew) (sLoad 4 t230) fun v => k v w') (fun t232 w233 =>
       GuardK t219 false (fun k w' => k t232 w') (fun t234 w235 =>
       GuardK t234 true (fun k w' => k (f135 5) w') (fun t236 w237 =>
       GuardK t234 true (fun k w' => k (f135 14) w') (fun t238 w239 =>
       GuardK t234 true (fun k w' => Rd Try.prog WS.any (sIndexAddr 134 t236 t238) fun v => k v w') (fun t240 w241 =>
       GuardK t234 true (fun k w' => Rd Try.prog (WS.at w213.drew) (sLoad 136 t240) fun v => k v w') (fun t242 w243 =>
       GuardK t234 true (fun k w' => k (f135 16) w') (fun t244 w245 =>
       GuardK t234 true (fun k w' => Rd Try.prog WS.any (sIndexAddr 136 t242 t244) fun v => k v w') (fun t246 w247 =>
       GuardK t234 true (fun k w' => Rd Try.prog (WS.at w213.drew) (sLoad 4 t246) fun v => k v w') (fun t248 w249 =>
       GuardK t219 false (fun k w' => Rd Try.prog WS.any (sPick t234 t248 (.bool false)) fun v => k v w') (fun t250 w251 =>
       Rd Try.prog WS.any (sPick t219 (.bool true) t250) fun t252 =>
       Rd Try.prog WS.any (sIndexAddr 136 t215 (f135 16)) fun t253 =>
       Do Try.prog (sStore 4 t253 t252) (fun _ w254 =>
       Rd Try.prog (WS.at w254) (sBin .add 3 true (f135 16) (.int .i64 1)) fun t255 =>
       Q134 .normal (F.upd (F.upd (F.upd (F.upd (F.upd (F.upd (F.upd (F.upd (F.upd (F.upd (F.upd (F.upd (F.upd (F.upd (F.upd (F.upd (F.upd (F.upd (F.upd (F.upd (F.upd (F.upd (F.upd (F.upd (F.upd (F.upd (F.upd (F.upd (F.upd (F.upd (F.upd (F.upd (F.upd (F.upd (F.upd (F.upd (F.upd (F.upd (F.upd (F.upd (F.upd (F.upd (F.upd (F.upd (F.upd (F.upd (F.upd (F.upd (F.upd (F.upd (F.upd (F.upd (F.upd (F.upd (F.upd (F.upd (F.upd (F.upd (F.upd (F.upd (F.upd (F.upd (F.upd (F.upd (F.upd (F.upd (F.upd (F.upd (F.upd (F.upd (F.upd (F.upd (F.upd (F.upd (F.upd (F.upd (F.upd (F.upd (F.upd (F.upd (F.upd (F.upd (F.upd (F.upd (F.upd (F.upd (F.upd f135 119 (f135 16)) 120 t137) 121 t138) 122 t139) 125 (f135 6)) 126 (f135 15)) 127 t140) 128 t141) 129 (f135 16)) 130 (f135 6)) 131 (f135 15)) 132 t142) 133 t143) 134 (f135 16)) 135 t144) 136 t145) 137 t145) 138 t146) 139 t148) 140 t150) 141 t152) 142 t154) 143 t156) 144 t158) 145 t160) 146 t162) 147 t164) 148 t166) 149 t168) 150 t170) 151 t172) 152 t174) 153 t176) 154 t178) 155 t178) 156 t179) 157 t181) 158 t183) 159 t185) 160 t187) 161 t189) 162 t191) 163 t193) 164 t195) 165 t197) 166 t199) 167 t201) 168 t203) 169 t205) 170 t207) 171 t209) 172 t211) 173 t212) 174 (f135 5)) 175 (f135 15)) 176 t214) 177 t215) 178 (f135 16)) 179 (f135 5)) 180 (f135 15)) 181 t216) 182 t217) 183 (f135 16)) 184 t218) 185 t219) 186 t219) 187 t220) 188 t222) 189 t224) 190 t226) 191 t228) 192 t230) 193 t232) 194 t234) 195 t236) 196 t238) 197 t240) 198 t242) 199 t244) 200 t246) 201 t248) 202 t250) 203 t252) 204 t253) 123 (f135 16)) 124 t255) 16 t255) w254) w251) w249) w247) w245) w243) w241) w239) w237) w235) w233) w231) w229) w227) w225) w223) w221) w213.drew) w210) w208) w206) w204) w202) w200) w198) w196) w194) w192) w190) w188) w186) w184) w182) w180) w177) w175) w173) w171) w169) w167) w165) w163) w161) w159) w157) w155) w153) w151) w149) w147) w136.drew)
       (Q134 (.exit 12) (F.upd (F.upd (F.upd (F.upd f135 119 (f135 16)) 120 t137) 121 t138) 122 t139) w136))
      (blockQ 12 (blockQ 11 (seqQ (fun f256 w257 =>
     Rd Try.prog (WS.at w257) (sBin .add 3 true (f256 15) (.int .i64 1)) fun t258 =>
     Q128 .normal (F.upd (F.upd (F.upd f256 117 (f256 15)) 118 t258) 15 t258) w257) Q128)))
      (F.upd (F.upd (F.upd (F.upd (F.upd f129 113 (f129 15)) 114 t131) 115 t132) 116 t133) 16 (.int .i64 0)) w130)
     (Q128 (.exit 10) (F.upd (F.upd (F.upd (F.upd f129 113 (f129 15)) 114 t131) 115 t132) 116 t133) w130))
    (blockQ 10 (blockQ 9 (seqQ (fun f259 w260 =>
   Rd Try.prog (WS.at w260) (sBin .add 3 true (f259 14) (.int .i64 1)) fun t261 =>
   Q122 .normal (F.upd (F.upd (F.upd f259 111 (f259 14)) 112 t261) 14 t261) w260) Q122)))
    (F.upd (F.upd (F.upd (F.upd (F.upd f123 107 (f123 14)) 108 t125) 109 t126) 110 t127) 15 (.int .i64 0)) w124)
   (Q122 (.exit 8) (F.upd (F.upd (F.upd (F.upd f123 107 (f123 14)) 108 t125) 109 t126) 110 t127) w124))
  (blockQ 8 (seqQ (fun f262 w263 =>
 k (.tuple #[(f262 5), (f262 6)]) w263) (bodyQ Try.prog [.tmp 2, .tmp 3] k)))
  (F.upd f120 14 (.int .i64 0)) w121) (bodyQ Try.prog [.tmp 2, .tmp 3] k)))
  (F.upd (F.upd (F.upd (F.upd f32 43 t34) 44 t35) 45 t36) 46 (.int .i64 0)) w33) (bodyQ Try.prog [.tmp 2, .tmp 3] k)))
  (F.upd (F.upd (F.upd (F.upd (F.upd (F.upd (F.upd (F.upd (F.upd (F.upd (F.upd (F.upd (F.upd (F.upd (F.upd (F.upd (F.upd (initF [v0]) 1 t1) 2 (.slice none 0 0)) 3 (.slice none 0 0)) 17 t3) 18 t4) 4 t4) 19 t6) 20 t7) 21 t8) 5 t8) 22 t10) 23 t11) 24 t12) 6 t12) 25 t8) 26 t14) 27 (.int .i64 0)) w13) w9) w5) w2) w
theorem body268 : Try.f268.body = some (bodyOf Try.f268) := by kernel_rfl
theorem same268 (v0 : Value) (k : Value → World → Prop) (w : World) : wpF Try.prog pl268 (bodyOf Try.f268) (bodyQ Try.prog Try.f268.results.toList k) (initF [v0]) w = S268 v0 k w := by kernel_rfl
noncomputable def o268_1 : Array Oper := (regAt (bodyOf Try.f268) 1).2
noncomputable def q268_1_50 : Go.Sh.Steps := .nil
noncomputable def q268_1_49 : Go.Sh.Steps := .step 49 .last q268_1_50
noncomputable def q268_1_48 : Go.Sh.Steps := .step 48 .any q268_1_49
noncomputable def q268_1_47 : Go.Sh.Steps := .step 47 .any q268_1_48
noncomputable def q268_1_46 : Go.Sh.Steps := .step 46 .any q268_1_47
noncomputable def q268_1_45 : Go.Sh.Steps := .step 45 .held q268_1_46
noncomputable def q268_1_44 : Go.Sh.Steps := .step 44 .any q268_1_45
noncomputable def q268_1_43 : Go.Sh.Steps := .step 43 .any q268_1_44
noncomputable def q268_1_42 : Go.Sh.Steps := .step 42 .held q268_1_43
noncomputable def q268_1_41 : Go.Sh.Steps := .step 41 .any q268_1_42
noncomputable def q268_1_40 : Go.Sh.Steps := .step 40 .any q268_1_41
noncomputable def q268_1_39 : Go.Sh.Steps := .step 39 .any q268_1_40
noncomputable def q268_1_38 : Go.Sh.Steps := .step 38 .any q268_1_39
noncomputable def q268_1_37 : Go.Sh.Steps := .step 37 .held q268_1_38
noncomputable def q268_1_36 : Go.Sh.Steps := .step 36 .any q268_1_37
noncomputable def q268_1_35 : Go.Sh.Steps := .step 35 .any q268_1_36
noncomputable def q268_1_34 : Go.Sh.Steps := .step 34 .held q268_1_35
noncomputable def q268_1_33 : Go.Sh.Steps := .step 33 .any q268_1_34
noncomputable def q268_1_32 : Go.Sh.Steps := .step 32 .any q268_1_33
noncomputable def q268_1_31 : Go.Sh.Steps := .step 31 .any q268_1_32
noncomputable def q268_1_30 : Go.Sh.Steps := .step 30 .any q268_1_31
noncomputable def q268_1_29 : Go.Sh.Steps := .step 29 .any q268_1_30
noncomputable def q268_1_28 : Go.Sh.Steps := .step 28 .any q268_1_29
noncomputable def q268_1_27 : Go.Sh.Steps := .step 27 .held q268_1_28
noncomputable def q268_1_26 : Go.Sh.Steps := .step 26 .any q268_1_27
noncomputable def q268_1_25 : Go.Sh.Steps := .step 25 .any q268_1_26
noncomputable def q268_1_24 : Go.Sh.Steps := .step 24 .held q268_1_25
noncomputable def q268_1_23 : Go.Sh.Steps := .step 23 .any q268_1_24
noncomputable def q268_1_22 : Go.Sh.Steps := .step 22 .any q268_1_23
noncomputable def q268_1_21 : Go.Sh.Steps := .step 21 .any q268_1_22
noncomputable def q268_1_20 : Go.Sh.Steps := .step 20 .any q268_1_21
noncomputable def q268_1_19 : Go.Sh.Steps := .step 19 .held q268_1_20
noncomputable def q268_1_18 : Go.Sh.Steps := .step 18 .any q268_1_19
noncomputable def q268_1_17 : Go.Sh.Steps := .step 17 .any q268_1_18
noncomputable def q268_1_16 : Go.Sh.Steps := .step 16 .held q268_1_17
noncomputable def q268_1_15 : Go.Sh.Steps := .step 15 .any q268_1_16
noncomputable def q268_1_14 : Go.Sh.Steps := .step 14 .any q268_1_15
noncomputable def q268_1_13 : Go.Sh.Steps := .step 13 .any q268_1_14
noncomputable def q268_1_12 : Go.Sh.Steps := .step 12 .any q268_1_13
noncomputable def q268_1_11 : Go.Sh.Steps := .step 11 .held q268_1_12
noncomputable def q268_1_10 : Go.Sh.Steps := .step 10 .any q268_1_11
noncomputable def q268_1_9 : Go.Sh.Steps := .step 9 .any q268_1_10
noncomputable def q268_1_8 : Go.Sh.Steps := .step 8 .held q268_1_9
noncomputable def q268_1_7 : Go.Sh.Steps := .step 7 .any q268_1_8
noncomputable def q268_1_6 : Go.Sh.Steps := .step 6 .any q268_1_7
noncomputable def q268_1_5 : Go.Sh.Steps := .step 5 .any q268_1_6
noncomputable def q268_1_4 : Go.Sh.Steps := .step 4 .any q268_1_5
noncomputable def q268_1_3 : Go.Sh.Steps := .step 3 .held q268_1_4
noncomputable def q268_1_2 : Go.Sh.Steps := .step 2 .any q268_1_3
noncomputable def q268_1_1 : Go.Sh.Steps := .step 1 .any q268_1_2
noncomputable def q268_1_0 : Go.Sh.Steps := .step 0 .any q268_1_1
theorem z268_1_50 : stepsOK o268_1 [49] q268_1_50 0 #[true, true, true, true, true, true, true, true, true, true, true, true, true, true, true, true, true, true, true, true, true, true, true, true, true, true, true, true, true, true, true, true, true, true, true, true, true, true, true, true, true, true, true, true, true, true, true, true, true, true] false = true := ok_nil (by kernel_rfl)
theorem z268_1_49 : stepsOK o268_1 [49] q268_1_49 1 #[true, true, true, true, true, true, true, true, true, true, true, true, true, true, true, true, true, true, true, true, true, true, true, true, true, true, true, true, true, true, true, true, true, true, true, true, true, true, true, true, true, true, true, true, true, true, true, true, true, false] true = true := ok_last (by kernel_rfl) (by kernel_rfl) z268_1_50
theorem z268_1_48 : stepsOK o268_1 [49] q268_1_48 2 #[true, true, true, true, true, true, true, true, true, true, true, true, true, true, true, true, true, true, true, true, true, true, true, true, true, true, true, true, true, true, true, true, true, true, true, true, true, true, true, true, true, true, true, true, true, true, true, true, false, false] true = true := ok_any (by kernel_rfl) (by kernel_rfl) z268_1_49
theorem z268_1_47 : stepsOK o268_1 [49] q268_1_47 3 #[true, true, true, true, true, true, true, true, true, true, true, true, true, true, true, true, true, true, true, true, true, true, true, true, true, true, true, true, true, true, true, true, true, true, true, true, true, true, true, true, true, true, true, true, true, true, true, false, false, false] true = true := ok_any (by kernel_rfl) (by kernel_rfl) z268_1_48
theorem z268_1_46 : stepsOK o268_1 [49] q268_1_46 4 #[true, true, true, true, true, true, true, true, true, true, true, true, true, true, true, true, true, true, true, true, true, true, true, true, true, true, true, true, true, true, true, true, true, true, true, true, true, true, true, true, true, true, true, true, true, true, false, false, false, false] true = true := ok_any (by kernel_rfl) (by kernel_rfl) z268_1_47
theorem z268_1_45 : stepsOK o268_1 [49] q268_1_45 5 #[true, true, true, true, true, true, true, true, true, true, true, true, true, true, true, true, true, true, true, true, true, true, true, true, true, true, true, true, true, true, true, true, true, true, true, true, true, true, true, true, true, true, true, true, true, false, false, false, false, false] true = true := ok_heldP [[]] (by kernel_rfl) (by kernel_rfl) (by kernel_rfl) z268_1_46
theorem z268_1_44 : stepsOK o268_1 [49] q268_1_44 6 #[true, true, true, true, true, true, true, true, true, true, true, true, true, true, true, true, true, true, true, true, true, true, true, true, true, true, true, true, true, true, true, true, true, true, true, true, true, true, true, true, true, true, true, true, false, false, false, false, false, false] true = true := ok_any (by kernel_rfl) (by kernel_rfl) z268_1_45
theorem z268_1_43 : stepsOK o268_1 [49] q268_1_43 7 #[true, true, true, true, true, true, true, true, true, true, true, true, true, true, true, true, true, true, true, true, true, true, true, true, true, true, true, true, true, true, true, true, true, true, true, true, true, true, true, true, true, true, true, false, false, false, false, false, false, false] true = true := ok_any (by kernel_rfl) (by kernel_rfl) z268_1_44
theorem z268_1_42 : stepsOK o268_1 [49] q268_1_42 8 #[true, true, true, true, true, true, true, true, true, true, true, true, true, true, true, true, true, true, true, true, true, true, true, true, true, true, true, true, true, true, true, true, true, true, true, true, true, true, true, true, true, true, false, false, false, false, false, false, false, false] true = true := ok_heldP [[]] (by kernel_rfl) (by kernel_rfl) (by kernel_rfl) z268_1_43
theorem z268_1_41 : stepsOK o268_1 [49] q268_1_41 9 #[true, true, true, true, true, true, true, true, true, true, true, true, true, true, true, true, true, true, true, true, true, true, true, true, true, true, true, true, true, true, true, true, true, true, true, true, true, true, true, true, true, false, false, false, false, false, false, false, false, false] true = true := ok_any (by kernel_rfl) (by kernel_rfl) z268_1_42
theorem z268_1_40 : stepsOK o268_1 [49] q268_1_40 10 #[true, true, true, true, true, true, true, true, true, true, true, true, true, true, true, true, true, true, true, true, true, true, true, true, true, true, true, true, true, true, true, true, true, true, true, true, true, true, true, true, false, false, false, false, false, false, false, false, false, false] true = true := ok_any (by kernel_rfl) (by kernel_rfl) z268_1_41
theorem z268_1_39 : stepsOK o268_1 [49] q268_1_39 11 #[true, true, true, true, true, true, true, true, true, true, true, true, true, true, true, true, true, true, true, true, true, true, true, true, true, true, true, true, true, true, true, true, true, true, true, true, true, true, true, false, false, false, false, false, false, false, false, false, false, false] true = true := ok_any (by kernel_rfl) (by kernel_rfl) z268_1_40
theorem z268_1_38 : stepsOK o268_1 [49] q268_1_38 12 #[true, true, true, true, true, true, true, true, true, true, true, true, true, true, true, true, true, true, true, true, true, true, true, true, true, true, true, true, true, true, true, true, true, true, true, true, true, true, false, false, false, false, false, false, false, false, false, false, false, false] true = true := ok_any (by kernel_rfl) (by kernel_rfl) z268_1_39
theorem z268_1_37 : stepsOK o268_1 [49] q268_1_37 13 #[true, true, true, true, true, true, true, true, true, true, true, true, true, true, true, true, true, true, true, true, true, true, true, true, true, true, true, true, true, true, true, true, true, true, true, true, true, false, false, false, false, false, false, false, false, false, false, false, false, false] true = true := ok_heldP [[]] (by kernel_rfl) (by kernel_rfl) (by kernel_rfl) z268_1_38
theorem z268_1_36 : stepsOK o268_1 [49] q268_1_36 14 #[true, true, true, true, true, true, true, true, true, true, true, true, true, true, true, true, true, true, true, true, true, true, true, true, true, true, true, true, true, true, true, true, true, true, true, true, false, false, false, false, false, false, false, false, false, false, false, false, false, false] true = true := ok_any (by kernel_rfl) (by kernel_rfl) z268_1_37
theorem z268_1_35 : stepsOK o268_1 [49] q268_1_35 15 #[true, true, true, true, true, true, true, true, true, true, true, true, true, true, true, true, true, true, true, true, true, true, true, true, true, true, true, true, true, true, true, true, true, true, true, false, false, false, false, false, false, false, false, false, false, false, false, false, false, false] true = true := ok_any (by kernel_rfl) (by kernel_rfl) z268_1_36
theorem z268_1_34 : stepsOK o268_1 [49] q268_1_34 16 #[true, true, true, true, true, true, true, true, true, true, true, true, true, true, true, true, true, true, true, true, true, true, true, true, true, true, true, true, true, true, true, true, true, true, false, false, false, false, false, false, false, false, false, false, false, false, false, false, false, false] true = true := ok_heldP [[]] (by kernel_rfl) (by kernel_rfl) (by kernel_rfl) z268_1_35
theorem z268_1_33 : stepsOK o268_1 [49] q268_1_33 17 #[true, true, true, true, true, true, true, true, true, true, true, true, true, true, true, true, true, true, true, true, true, true, true, true, true, true, true, true, true, true, true, true, true, false, false, false, false, false, false, false, false, false, false, false, false, false, false, false, false, false] true = true := ok_any (by kernel_rfl) (by kernel_rfl) z268_1_34
theorem z268_1_32 : stepsOK o268_1 [49] q268_1_32 18 #[true, true, true, true, true, true, true, true, true, true, true, true, true, true, true, true, true, true, true, true, true, true, true, true, true, true, true, true, true, true, true, true, false, false, false, false, false, false, false, false, false, false, false, false, false, false, false, false, false, false] true = true := ok_any (by kernel_rfl) (by kernel_rfl) z268_1_33
theorem z268_1_31 : stepsOK o268_1 [49] q268_1_31 19 #[true, true, true, true, true, true, true, true, true, true, true, true, true, true, true, true, true, true, true, true, true, true, true, true, true, true, true, true, true, true, true, false, false, false, false, false, false, false, false, false, false, false, false, false, false, false, false, false, false, false] true = true := ok_any (by kernel_rfl) (by kernel_rfl) z268_1_32
theorem z268_1_30 : stepsOK o268_1 [49] q268_1_30 20 #[true, true, true, true, true, true, true, true, true, true, true, true, true, true, true, true, true, true, true, true, true, true, true, true, true, true, true, true, true, true, false, false, false, false, false, false, false, false, false, false, false, false, false, false, false, false, false, false, false, false] true = true := ok_any (by kernel_rfl) (by kernel_rfl) z268_1_31
theorem z268_1_29 : stepsOK o268_1 [49] q268_1_29 21 #[true, true, true, true, true, true, true, true, true, true, true, true, true, true, true, true, true, true, true, true, true, true, true, true, true, true, true, true, true, false, false, false, false, false, false, false, false, false, false, false, false, false, false, false, false, false, false, false, false, false] true = true := ok_any (by kernel_rfl) (by kernel_rfl) z268_1_30
theorem z268_1_28 : stepsOK o268_1 [49] q268_1_28 22 #[true, true, true, true, true, true, true, true, true, true, true, true, true, true, true, true, true, true, true, true, true, true, true, true, true, true, true, true, false, false, false, false, false, false, false, false, false, false, false, false, false, false, false, false, false, false, false, false, false, false] true = true := ok_any (by kernel_rfl) (by kernel_rfl) z268_1_29
theorem z268_1_27 : stepsOK o268_1 [49] q268_1_27 23 #[true, true, true, true, true, true, true, true, true, true, true, true, true, true, true, true, true, true, true, true, true, true, true, true, true, true, true, false, false, false, false, false, false, false, false, false, false, false, false, false, false, false, false, false, false, false, false, false, false, false] true = true := ok_heldP [[]] (by kernel_rfl) (by kernel_rfl) (by kernel_rfl) z268_1_28
theorem z268_1_26 : stepsOK o268_1 [49] q268_1_26 24 #[true, true, true, true, true, true, true, true, true, true, true, true, true, true, true, true, true, true, true, true, true, true, true, true, true, true, false, false, false, false, false, false, false, false, false, false, false, false, false, false, false, false, false, false, false, false, false, false, false, false] true = true := ok_any (by kernel_rfl) (by kernel_rfl) z268_1_27
theorem z268_1_25 : stepsOK o268_1 [49] q268_1_25 25 #[true, true, true, true, true, true, true, true, true, true, true, true, true, true, true, true, true, true, true, true, true, true, true, true, true, false, false, false, false, false, false, false, false, false, false, false, false, false, false, false, false, false, false, false, false, false, false, false, false, false] true = true := ok_any (by kernel_rfl) (by kernel_rfl) z268_1_26
theorem z268_1_24 : stepsOK o268_1 [49] q268_1_24 26 #[true, true, true, true, true, true, true, true, true, true, true, true, true, true, true, true, true, true, true, true, true, true, true, true, false, false, false, false, false, false, false, false, false, false, false, false, false, false, false, false, false, false, false, false, false, false, false, false, false, false] true = true := ok_heldP [[]] (by kernel_rfl) (by kernel_rfl) (by kernel_rfl) z268_1_25
theorem z268_1_23 : stepsOK o268_1 [49] q268_1_23 27 #[true, true, true, true, true, true, true, true, true, true, true, true, true, true, true, true, true, true, true, true, true, true, true, false, false, false, false, false, false, false, false, false, false, false, false, false, false, false, false, false, false, false, false, false, false, false, false, false, false, false] true = true := ok_any (by kernel_rfl) (by kernel_rfl) z268_1_24
theorem z268_1_22 : stepsOK o268_1 [49] q268_1_22 28 #[true, true, true, true, true, true, true, true, true, true, true, true, true, true, true, true, true, true, true, true, true, true, false, false, false, false, false, false, false, false, false, false, false, false, false, false, false, false, false, false, false, false, false, false, false, false, false, false, false, false] true = true := ok_any (by kernel_rfl) (by kernel_rfl) z268_1_23
theorem z268_1_21 : stepsOK o268_1 [49] q268_1_21 29 #[true, true, true, true, true, true, true, true, true, true, true, true, true, true, true, true, true, true, true, true, true, false, false, false, false, false, false, false, false, false, false, false, false, false, false, false, false, false, false, false, false, false, false, false, false, false, false, false, false, false] true = true := ok_any (by kernel_rfl) (by kernel_rfl) z268_1_22
theorem z268_1_20 : stepsOK o268_1 [49] q268_1_20 30 #[true, true, true, true, true, true, true, true, true, true, true, true, true, true, true, true, true, true, true, true, false, false, false, false, false, false, false, false, false, false, false, false, false, false, false, false, false, false, false, false, false, false, false, false, false, false, false, false, false, false] true = true := ok_any (by kernel_rfl) (by kernel_rfl) z268_1_21
theorem z268_1_19 : stepsOK o268_1 [49] q268_1_19 31 #[true, true, true, true, true, true, true, true, true, true, true, true, true, true, true, true, true, true, true, false, false, false, false, false, false, false, false, false, false, false, false, false, false, false, false, false, false, false, false, false, false, false, false, false, false, false, false, false, false, false] true = true := ok_heldP [[]] (by kernel_rfl) (by kernel_rfl) (by kernel_rfl) z268_1_20
theorem z268_1_18 : stepsOK o268_1 [49] q268_1_18 32 #[true, true, true, true, true, true, true, true, true, true, true, true, true, true, true, true, true, true, false, false, false, false, false, false, false, false, false, false, false, false, false, false, false, false, false, false, false, false, false, false, false, false, false, false, false, false, false, false, false, false] true = true := ok_any (by kernel_rfl) (by kernel_rfl) z268_1_19
theorem z268_1_17 : stepsOK o268_1 [49] q268_1_17 33 #[true, true, true, true, true, true, true, true, true, true, true, true, true, true, true, true, true, false, false, false, false, false, false, false, false, false, false, false, false, false, false, false, false, false, false, false, false, false, false, false, false, false, false, false, false, false, false, false, false, false] true = true := ok_any (by kernel_rfl) (by kernel_rfl) z268_1_18
theorem z268_1_16 : stepsOK o268_1 [49] q268_1_16 34 #[true, true, true, true, true, true, true, true, true, true, true, true, true, true, true, true, false, false, false, false, false, false, false, false, false, false, false, false, false, false, false, false, false, false, false, false, false, false, false, false, false, false, false, false, false, false, false, false, false, false] true = true := ok_heldP [[]] (by kernel_rfl) (by kernel_rfl) (by kernel_rfl) z268_1_17
theorem z268_1_15 : stepsOK o268_1 [49] q268_1_15 35 #[true, true, true, true, true, true, true, true, true, true, true, true, true, true, true, false, false, false, false, false, false, false, false, false, false, false, false, false, false, false, false, false, false, false, false, false, false, false, false, false, false, false, false, false, false, false, false, false, false, false] true = true := ok_any (by kernel_rfl) (by kernel_rfl) z268_1_16
theorem z268_1_14 : stepsOK o268_1 [49] q268_1_14 36 #[true, true, true, true, true, true, true, true, true, true, true, true, true, true, false, false, false, false, false, false, false, false, false, false, false, false, false, false, false, false, false, false, false, false, false, false, false, false, false, false, false, false, false, false, false, false, false, false, false, false] true = true := ok_any (by kernel_rfl) (by kernel_rfl) z268_1_15
theorem z268_1_13 : stepsOK o268_1 [49] q268_1_13 37 #[true, true, true, true, true, true, true, true, true, true, true, true, true, false, false, false, false, false, false, false, false, false, false, false, false, false, false, false, false, false, false, false, false, false, false, false, false, false, false, false, false, false, false, false, false, false, false, false, false, false] true = true := ok_any (by kernel_rfl) (by kernel_rfl) z268_1_14
theorem z268_1_12 : stepsOK o268_1 [49] q268_1_12 38 #[true, true, true, true, true, true, true, true, true, true, true, true, false, false, false, false, false, false, false, false, false, false, false, false, false, false, false, false, false, false, false, false, false, false, false, false, false, false, false, false, false, false, false, false, false, false, false, false, false, false] true = true := ok_any (by kernel_rfl) (by kernel_rfl) z268_1_13
theorem z268_1_11 : stepsOK o268_1 [49] q268_1_11 39 #[true, true, true, true, true, true, true, true, true, true, true, false, false, false, false, false, false, false, false, false, false, false, false, false, false, false, false, false, false, false, false, false, false, false, false, false, false, false, false, false, false, false, false, false, false, false, false, false, false, false] true = true := ok_heldP [[]] (by kernel_rfl) (by kernel_rfl) (by kernel_rfl) z268_1_12
theorem z268_1_10 : stepsOK o268_1 [49] q268_1_10 40 #[true, true, true, true, true, true, true, true, true, true, false, false, false, false, false, false, false, false, false, false, false, false, false, false, false, false, false, false, false, false, false, false, false, false, false, false, false, false, false, false, false, false, false, false, false, false, false, false, false, false] true = true := ok_any (by kernel_rfl) (by kernel_rfl) z268_1_11
theorem z268_1_9 : stepsOK o268_1 [49] q268_1_9 41 #[true, true, true, true, true, true, true, true, true, false, false, false, false, false, false, false, false, false, false, false, false, false, false, false, false, false, false, false, false, false, false, false, false, false, false, false, false, false, false, false, false, false, false, false, false, false, false, false, false, false] true = true := ok_any (by kernel_rfl) (by kernel_rfl) z268_1_10
theorem z268_1_8 : stepsOK o268_1 [49] q268_1_8 42 #[true, true, true, true, true, true, true, true, false, false, false, false, false, false, false, false, false, false, false, false, false, false, false, false, false, false, false, false, false, false, false, false, false, false, false, false, false, false, false, false, false, false, false, false, false, false, false, false, false, false] true = true := ok_heldP [[]] (by kernel_rfl) (by kernel_rfl) (by kernel_rfl) z268_1_9
theorem z268_1_7 : stepsOK o268_1 [49] q268_1_7 43 #[true, true, true, true, true, true, true, false, false, false, false, false, false, false, false, false, false, false, false, false, false, false, false, false, false, false, false, false, false, false, false, false, false, false, false, false, false, false, false, false, false, false, false, false, false, false, false, false, false, false] true = true := ok_any (by kernel_rfl) (by kernel_rfl) z268_1_8
theorem z268_1_6 : stepsOK o268_1 [49] q268_1_6 44 #[true, true, true, true, true, true, false, false, false, false, false, false, false, false, false, false, false, false, false, false, false, false, false, false, false, false, false, false, false, false, false, false, false, false, false, false, false, false, false, false, false, false, false, false, false, false, false, false, false, false] true = true := ok_any (by kernel_rfl) (by kernel_rfl) z268_1_7
theorem z268_1_5 : stepsOK o268_1 [49] q268_1_5 45 #[true, true, true, true, true, false, false, false, false, false, false, false, false, false, false, false, false, false, false, false, false, false, false, false, false, false, false, false, false, false, false, false, false, false, false, false, false, false, false, false, false, false, false, false, false, false, false, false, false, false] true = true := ok_any (by kernel_rfl) (by kernel_rfl) z268_1_6
theorem z268_1_4 : stepsOK o268_1 [49] q268_1_4 46 #[true, true, true, true, false, false, false, false, false, false, false, false, false, false, false, false, false, false, false, false, false, false, false, false, false, false, false, false, false, false, false, false, false, false, false, false, false, false, false, false, false, false, false, false, false, false, false, false, false, false] true = true := ok_any (by kernel_rfl) (by kernel_rfl) z268_1_5
theorem z268_1_3 : stepsOK o268_1 [49] q268_1_3 47 #[true, true, true, false, false, false, false, false, false, false, false, false, false, false, false, false, false, false, false, false, false, false, false, false, false, false, false, false, false, false, false, false, false, false, false, false, false, false, false, false, false, false, false, false, false, false, false, false, false, false] true = true := ok_heldP [[]] (by kernel_rfl) (by kernel_rfl) (by kernel_rfl) z268_1_4
theorem z268_1_2 : stepsOK o268_1 [49] q268_1_2 48 #[true, true, false, false, false, false, false, false, false, false, false, false, false, false, false, false, false, false, false, false, false, false, false, false, false, false, false, false, false, false, false, false, false, false, false, false, false, false, false, false, false, false, false, false, false, false, false, false, false, false] true = true := ok_any (by kernel_rfl) (by kernel_rfl) z268_1_3
theorem z268_1_1 : stepsOK o268_1 [49] q268_1_1 49 #[true, false, false, false, false, false, false, false, false, false, false, false, false, false, false, false, false, false, false, false, false, false, false, false, false, false, false, false, false, false, false, false, false, false, false, false, false, false, false, false, false, false, false, false, false, false, false, false, false, false] true = true := ok_any (by kernel_rfl) (by kernel_rfl) z268_1_2
theorem z268_1_0 : stepsOK o268_1 [49] q268_1_0 50 #[false, false, false, false, false, false, false, false, false, false, false, false, false, false, false, false, false, false, false, false, false, false, false, false, false, false, false, false, false, false, false, false, false, false, false, false, false, false, false, false, false, false, false, false, false, false, false, false, false, false] true = true := ok_any (by kernel_rfl) (by kernel_rfl) z268_1_1
theorem y268_1 : planOK (regAt (bodyOf Try.f268) 1).2 (pl268 (regAt (bodyOf Try.f268) 1).1) = stepsOK o268_1 [49] q268_1_0 50 #[false, false, false, false, false, false, false, false, false, false, false, false, false, false, false, false, false, false, false, false, false, false, false, false, false, false, false, false, false, false, false, false, false, false, false, false, false, false, false, false, false, false, false, false, false, false, false, false, false, false] true := by kernel_rfl
theorem plans268 : plansOK pl268 (bodyOf Try.f268) = true := plansOK_at (n := 3) (by kernel_rfl) fun i hi => match i, hi with
  | 0, _ => by kernel_rfl
  | 1, _ => y268_1.trans z268_1_0
  | 2, _ => by kernel_rfl
  | i + 3, hi => absurd hi (by omega)
theorem enter268 {v0 : Value} {k : Value → World → Prop} {w : World} (h : S268 v0 k w) : CallK Try.prog 268 [v0] k w :=
  call_of_wpF (pl := pl268) mixed Try.func268 body268 (by kernel_rfl) (of_decide_eq_true (by kernel_rfl)) (by kernel_rfl) plans268 (Eq.mpr (same268 v0 k w) h)

/-! loop.example/g00758/spec.l3Finite -/
def pl185 : Plans := fun _ => ⟨false, [], .nil⟩
def S185 (v0 : Value) (k : Value → World → Prop) (w : World) : Prop :=
 Do Try.prog (sBox 26 v0) (fun t1 w2 =>
 Rd Try.prog (WS.at w2) (sLoad 26 t1) fun t3 =>
 CallK Try.prog 190 [t3] (fun t4 w5 =>
 Do Try.prog (sAlloc 26) (fun t6 w7 =>
 Do Try.prog (sStore 26 t6 t4) (fun _ w8 =>
 Rd Try.prog (WS.at w8) (sLoad 26 t6) fun t9 =>
 CallK Try.prog 268 [t9] (fun t10 w11 =>
 Rd Try.prog (WS.at w11) (sExtract t10 0) fun t12 =>
 Rd Try.prog (WS.at w11) (sExtract t10 1) fun t13 =>
 Rd Try.prog (WS.at w11) (sBuiltin .len #[134] 3 [false] [t13]) fun t14 =>
 LoopF [17, 18, 6, 19, 20, 21, 22, 23, 24, 25, 2, 26, 16] (fun Q15 f16 w17 =>
  Rd Try.prog (WS.at w17) (sBin .lss 3 false (f16 16) (f16 15)) fun t18 =>
  CondK t18
   (Rd Try.prog (WS.at w17) (sIndexAddr 134 (f16 5) (f16 16)) fun t19 =>
   Rd Try.prog (WS.at w17) (sLoad 136 t19) fun t20 =>
   Rd Try.prog (WS.at w17) (sIndexAddr 136 t20 (f16 16)) fun t21 =>
   Rd Try.prog (WS.at w17) (sLoad 4 t21) fun t22 =>
   CondK t22
    (Q15 .ret (F.upd (F.upd (F.upd (F.upd (F.upd (F.upd (F.upd (F.upd (F.upd (F.upd (F.upd f16 17 t18) 18 (f16 16)) 6 (f16 16)) 19 (f16 5)) 20 (f16 16)) 21 t19) 22 t20) 23 (f16 16)) 24 t21) 25 t22) 2 (.bool false)) w17)
    (Rd Try.prog (WS.at w17) (sBin .add 3 true (f16 16) (.int .i64 1)) fun t23 =>
    Q15 .normal (F.upd (F.upd (F.upd (F.upd (F.upd (F.upd (F.upd (F.upd (F.upd (F.upd (F.upd (F.upd f16 17 t18) 18 (f16 16)) 6 (f16 16)) 19 (f16 5)) 20 (f16 16)) 21 t19) 22 t20) 23 (f16 16)) 24 t21) 25 t22) 26 t23) 16 t23) w17))
   (Q15 (.exit 0) (F.upd f16 17 t18) w17))
  (blockQ 0 (seqQ (fun f24 w25 =>
 k (.bool true) w25) (bodyQ Try.prog [.tmp 2] k)))
  (F.upd (F.upd (F.upd (F.upd (F.upd (F.upd (F.upd (F.upd (F.upd (F.upd (F.upd (F.upd (F.upd (F.upd (F.upd (initF [v0]) 1 t1) 2 (.bool false)) 7 t3) 8 t4) 3 t6) 10 t9) 11 t10) 9 t10) 12 t12) 13 t13) 4 t12) 5 t13) 14 t13) 15 t14) 16 (.int .i64 0)) w11) w8) w7) w5) w2) w
theorem body185 : Try.f185.body = some (bodyOf Try.f185) := by kernel_rfl
theorem same185 (v0 : Value) (k : Value → World → Prop) (w : World) : wpF Try.prog pl185 (bodyOf Try.f185) (bodyQ Try.prog Try.f185.results.toList k) (initF [v0]) w = S185 v0 k w := by kernel_rfl
theorem enter185 {v0 : Value} {k : Value → World → Prop} {w : World} (h : S185 v0 k w) : CallK Try.prog 185 [v0] k w :=
  call_of_wpF (pl := pl185) mixed Try.func185 body185 (by kernel_rfl) (of_decide_eq_true (by kernel_rfl)) (by kernel_rfl) (by kernel_rfl) (Eq.mpr (same185 v0 k w) h)

/-! loop.example/g00758/spec.IsFinite -/
def pl57 : Plans := fun _ => ⟨false, [], .nil⟩
def S57 (v0 : Value) (k : Value → World → Prop) (w : World) : Prop :=
 Do Try.prog (sBox 26 v0) (fun t1 w2 =>
 Rd Try.prog (WS.at w2) (sLoad 26 t1) fun t3 =>
 CallK Try.prog 127 [t3] (fun t4 w5 =>
 Rd Try.prog (WS.at w5) (sUn .not t4) fun t6 =>
 CondK t6
  (k (.tuple #[(.bool false), (.bool false)]) w5)
  (Rd Try.prog (WS.at w5) (sLoad 26 t1) fun t7 =>
  CallK Try.prog 185 [t7] (fun t8 w9 =>
  k (.tuple #[t8, (.bool true)]) w9) w5)) w2) w
theorem body57 : Try.f57.body = some (bodyOf Try.f57) := by kernel_rfl
theorem same57 (v0 : Value) (k : Value → World → Prop) (w : World) : wpF Try.prog pl57 (bodyOf Try.f57) (bodyQ Try.prog Try.f57.results.toList k) (initF [v0]) w = S57 v0 k w := by kernel_rfl
theorem enter57 {v0 : Value} {k : Value → World → Prop} {w : World} (h : S57 v0 k w) : CallK Try.prog 57 [v0] k w :=
  call_of_wpF (pl := pl57) mixed Try.func57 body57 (by kernel_rfl) (of_decide_eq_true (by kernel_rfl)) (by kernel_rfl) (by kernel_rfl) (Eq.mpr (same57 v0 k w) h)

end Go.Proofs.Ytegcjkhebecgbaa

/- Contracts: l3Leads, l3Finite, IsFinite of the reference. -/
set_option linter.unusedVariables false
set_option linter.unusedSimpArgs false
set_option maxRecDepth 100000
namespace Go.Sh
open Go
/-! Guards whose open state is a value. -/
def gv (o : Bool) (v : Value) : Value := bif o then v else undef
theorem gK0 {b want : Bool} {run : (Value → World → Prop) → World → Prop} {K : Value → World → Prop} {w : World} {v : Value} (h : b = want → run K w = K v w) : GuardK (.bool b) want run K w = K (gv (b == want) v) w := by
  cases b <;> cases want
  · exact h rfl
  · rfl
  · rfl
  · exact h rfl
theorem gK1 {o b want : Bool} {run : (Value → World → Prop) → World → Prop} {K : Value → World → Prop} {w : World} {v : Value} (h : o = true → b = want → run K w = K v w) : GuardK (gv o (.bool b)) want run K w = K (gv (o && (b == want)) v) w := by
  cases o
  · rfl
  · exact gK0 (h rfl)
theorem pick_and {P : Program} {S : WS} {k : Value → Prop} {q r : Bool} : Rd P S (sPick (gv (false == false) (.bool q)) (gv ((false == false) && (q == true)) (.bool r)) (.bool false)) k = k (.bool (q && r)) := by
  cases q
  · exact zq3
  · exact zq4
theorem pick_or {P : Program} {S : WS} {k : Value → Prop} {p c : Bool} : Rd P S (sPick (.bool p) (.bool true) (gv (p == false) (.bool c))) k = k (.bool (p || c)) := by
  cases p
  · exact zq3
  · exact zq4
/-! Rows of marks. -/
def row2 (A : Tb2) (n a : Nat) : List Value := (List.range n).map fun b => .bool (A a b)
def rows2 (A : Tb2) (n : Nat) : List (List Value) := (List.range n).map (row2 A n)
section
variable {A : Tb2} {n a b : Nat}
theorem row2_len : (row2 A n a).length = n := by simp [row2]
theorem rows2_len : (rows2 A n).length = n := by simp [rows2]
theorem vls_rows2 (h : a < n) : vls (rows2 A n) a = row2 A n a := by
  rw [vls_eq (by rw [rows2_len]; exact h)]
  simp [rows2]
theorem row2_at (hb : b < n) : (row2 A n a)[b]? = some (.bool (A a b)) := by
  unfold row2
  rw [List.getElem?_map, List.getElem?_range hb]
  rfl
theorem row2_none : row2 none2 n a = List.replicate n (.bool false) := by
  refine List.ext_getElem? fun p => ?_
  by_cases hp : p < n
  · rw [row2_at hp, List.getElem?_replicate, if_pos hp]
    rfl
  · rw [List.getElem?_eq_none (by rw [row2_len]; omega), List.getElem?_eq_none (by simp; omega)]
theorem rows2_set {v : Bool} (ha : a < n) (hb : b < n) : (rows2 A n).set a ((vls (rows2 A n) a).set b (.bool v)) = rows2 (setT A a b v) n := by
  rw [vls_rows2 ha]
  refine List.ext_getElem? fun p => ?_
  by_cases hp : p < n
  · have e1 : (rows2 (setT A a b v) n)[p]? = some (row2 (setT A a b v) n p) := by
      unfold rows2
      rw [List.getElem?_map, List.getElem?_range hp]
      rfl
    rw [e1, List.getElem?_set]
    by_cases hq : a = p
    · subst hq
      rw [if_pos rfl, if_pos (by rw [rows2_len]; exact ha)]
      congr 1
      refine List.ext_getElem? fun q => ?_
      by_cases hq : q < n
      · rw [List.getElem?_set, row2_at hq, row2_at hq]
        unfold setT
        by_cases e : b = q
        · subst e
          rw [if_pos rfl, if_pos (by rw [row2_len]; exact hb), if_pos ⟨rfl, rfl⟩]
        · rw [if_neg e, if_neg (fun h => e h.2.symm)]
      · rw [List.getElem?_eq_none (by rw [List.length_set, row2_len]; omega), List.getElem?_eq_none (by rw [row2_len]; omega)]
    · rw [if_neg hq]
      unfold rows2
      rw [List.getElem?_map, List.getElem?_range hp]
      show some (row2 A n p) = some (row2 (setT A a b v) n p)
      congr 1
      unfold row2
      refine List.map_congr_left fun q _ => ?_
      unfold setT
      rw [if_neg (fun h => hq h.1.symm)]
  · rw [List.getElem?_eq_none (by rw [List.length_set, rows2_len]; omega), List.getElem?_eq_none (by rw [rows2_len]; omega)]
theorem vv_at {e1 e2 B c : Nat} {w : World} {X : Option Addr} {ps : Nat → Option Addr × Nat} (h : OwnV e1 e2 w B X c (rows2 A n) ps) (ha : a < n) : (0 < n → (ps a).1 = some (ad (ps a).1)) ∧ w.cell? ((ad X).add a) = some (.slice (ps a).1 n (ps a).2) ∧ ∀ b, b < n → w.cell? ((ad (ps a).1).add b) = some (.bool (A a b)) := by
  have hl : a < (rows2 A n).length := by rw [rows2_len]; exact ha
  have hr := h.own a hl
  have hc := h.cell hl
  rw [vls_rows2 ha] at hr hc
  rw [row2_len] at hr hc
  exact ⟨fun h => hr.ptr h, hc, fun b hb => hr.src.cell _ _ (row2_at hb)⟩
end
end Go.Sh
namespace Go.Proofs.Ytegcjkhebecgbaa
open Go Go.Sh Go.RowKit
section
variable {w : World} {k : Value → World → Prop} {Y : Option Addr} {cy : Nat} {gm : Gram}
open Classical in
set_option maxHeartbeats 12800000 in
theorem l3Leads_c {n : Nat} (hG : kG Y cy gm.rules w) (hg : goodG gm = true) (hn : gm.nons = (n : Int)) (hk : ∀ (w' : World) (XA XM : Option Addr) (A M : Tb2) (pm : Nat → Option Addr × Nat), Gr w w' → (∀ a b, EdR gm.rules a b → a < n ∧ b < n) → CmpT (EdR gm.rules) (EgR gm.rules) n n A M → SndT (EdR gm.rules) (EgR gm.rules) n A M →
      (0 < n → XM = some (ad XM)) → (∀ a, a < n → (0 < n → (pm a).1 = some (ad (pm a).1)) ∧ w'.cell? ((ad XM).add a) = some (.slice (pm a).1 n (pm a).2) ∧ ∀ b, b < n → w'.cell? ((ad (pm a).1).add b) = some (.bool (M a b))) → k (.tuple #[.slice XA n n, .slice XM n n]) w') :
    CallK Try.prog 268 [grv gm Y cy] k w := by
  refine enter268 ?_
  unfold S268
  have hgr := goodRules hg
  have hng := good_nons hg
  have hn6 : n ≤ 6 := by omega
  have hn1 : 1 ≤ n := by omega
  have HK := (Kn.nil w).addG hG.1 hG.2
  refine do_box fun b1 w1 g1 hb B1 => ?_
  have B1 : Box w1 b1 [.int .i64 gm.nons, .int .i64 gm.toks, .slice Y gm.rules.length cy] 26 := B1
  have HK := (HK.step g1).addB B1
  simp only [List.cons_append, List.nil_append] at HK
  rw [ldB_agg agg26 sz26 rfl (HK.get 2 rfl)]
  refine l3Growing_c (HK.get 1 rfl) hg fun w2 XG cG g hX => ?_
  have HK := (HK.step g).addI hX.1 hX.2
  simp only [List.cons_append, List.nil_append] at HK
  have H := Apt.nil w2
  simp only [zq18, zq19, zq20, zq21, zq22, zq23, zq24, zq25, zq26, zq27, zq28, zq4, zq3, zq1, zq2, zq0, zq29, zq30, zq14, zq15, zq16, zq17, zq13, zq10, zq12, zq11, zq7, zq5, zq6, zq9, zq8, zq31, zq32, ite_T, ite_F, zq33, zq34, zq35, Nat.reduceEqDiff, len22, len24, fa26_0, fa26_1, fa26_2, len27, fa33_0, fa33_1, len35, fa114_0, fa114_1, fa114_2, fa124_0, fa124_1, len134]
  have hgx : ∀ y, y < gm.nons → (growX gm.rules y ↔ (y < 0 ∨ y ∈ groV gm)) := fun y hy => by
    unfold growX groV
    rw [setL_mem]
    constructor
    · rintro (h | h)
      · exact .inl h
      · by_cases h0 : y < 0
        · exact .inl h0
        · exact .inr ⟨y.toNat, by omega, gro_lt hg h, h⟩
    · rintro (h | ⟨c, e, _, h⟩)
      · exact .inl h
      · exact .inr (by rw [e, Int.toNat_natCast]; exact h)
  have hE : ∀ a b, EdR gm.rules a b → a < n ∧ b < n := edR_lt fun r hr => by
    have := hgr r hr
    exact ⟨by omega, fun x hx => by have := this.2.2 x hx; omega⟩
  have hB : ∀ w', Gr w2 w' → Box w' b1 [.int .i64 (n : Int), .int .i64 gm.toks, .slice Y gm.rules.length cy] 26 := fun w' g => by
    have := (HK.step g).get 2 rfl
    rwa [hn] at this
  rw [ldB3 (hB w2 H.gr) rfl]
  refine makeH H u134 inf136 (by omega) (by omega) fun ba w3 H => ?_
  rw [show (Value.slice none 0 0).cells = #[.slice none 0 0] from rfl, madeCells_one] at H
  have H := H.nilVV 0 4 rfl
  simp only [List.nil_append, List.cons_append, List.set_cons_zero, List.set_cons_succ] at H
  simp only [zq18, zq19, zq20, zq21, zq22, zq23, zq24, zq25, zq26, zq27, zq28, zq4, zq3, zq1, zq2, zq0, zq29, zq30, zq14, zq15, zq16, zq17, zq13, zq10, zq12, zq11, zq7, zq5, zq6, zq9, zq8, zq31, zq32, ite_T, ite_F, zq33, zq34, zq35, Nat.reduceEqDiff, len22, len24, fa26_0, fa26_1, fa26_2, len27, fa33_0, fa33_1, len35, fa114_0, fa114_1, fa114_2, fa124_0, fa124_1, len134]
  rw [ldB3 (hB w3 H.gr) rfl]
  refine makeH H u134 inf136 (by omega) (by omega) fun bm w4 H => ?_
  rw [show (Value.slice none 0 0).cells = #[.slice none 0 0] from rfl, madeCells_one] at H
  simp only [List.nil_append, List.cons_append] at H
  have H := H.nilVV 1 4 rfl
  simp only [List.nil_append, List.cons_append, List.set_cons_zero, List.set_cons_succ] at H
  have hr2 : (rows2 none2 n).length = n := rows2_len
  refine loop_to n 0 (fun i f w' => i ≤ n ∧ f 27 = .int .i64 (i : Int) ∧ ∃ (pa pm : Nat → Option Addr × Nat), Apt w2 w' [vvi 136 4 (some ⟨ba, 0, none⟩) n ((rows2 none2 n).take i ++ (List.replicate n []).drop i) pa, vvi 136 4 (some ⟨bm, 0, none⟩) n ((rows2 none2 n).take i ++ (List.replicate n []).drop i) pm])
    ⟨Nat.zero_le _, rfl, _, _, by rw [List.take_zero, List.drop_zero, List.nil_append]; exact H⟩ ?_
  clear H
  rintro i f w5 N hag ⟨hi, f27, pa, pm, H⟩ hN
  have f1 : f 1 = ptrv b1 := hag 1 (by decide)
  have f4 : f 4 = .slice XG (groV gm).length cG := hag 4 (by decide)
  have f5 : f 5 = .slice (some ⟨ba, 0, none⟩) n n := hag 5 (by decide)
  have f6 : f 6 = .slice (some ⟨bm, 0, none⟩) n n := hag 6 (by decide)
  have f26 : f 26 = .int .i64 (n : Int) := hag 26 (by decide)
  simp only [f1, f5, f6, f26, f27, zq18, zq19, zq20, zq21, zq22, zq23, zq24, zq25, zq26, zq27, zq28, zq4, zq3, zq1, zq2, zq0, zq29, zq30, zq14, zq15, zq16, zq17, zq13, zq10, zq12, zq11, zq7, zq5, zq6, zq9, zq8, zq31, zq32, ite_T, ite_F, zq33, zq34, zq35, Nat.reduceEqDiff, len22, len24, fa26_0, fa26_1, fa26_2, len27, fa33_0, fa33_1, len35, fa114_0, fa114_1, fa114_2, fa124_0, fa124_1, len134]
  by_cases hlt : i < n
  case pos =>
    simp only [show ((i : Int) < (n : Int)) from by omega, decide_true, zq18, zq19, zq20, zq21, zq22, zq23, zq24, zq25, zq26, zq27, zq28, zq4, zq3, zq1, zq2, zq0, zq29, zq30, zq14, zq15, zq16, zq17, zq13, zq10, zq12, zq11, zq7, zq5, zq6, zq9, zq8, zq31, zq32, ite_T, ite_F, zq33, zq34, zq35, Nat.reduceEqDiff, len22, len24, fa26_0, fa26_1, fa26_2, len27, fa33_0, fa33_1, len35, fa114_0, fa114_1, fa114_2, fa124_0, fa124_1, len134]
    rw [ldB3 (hB w5 H.gr) rfl]
    refine makeH H u136 inf4' (by omega) (by omega) fun b3 w6 H => ?_
    rw [show (Value.bool false).cells = #[.bool false] from rfl, madeCells_one, ← row2_none (a := i)] at H
    simp only [List.nil_append, List.cons_append] at H
    refine rdi (ixn134 (X := some ⟨ba, 0, none⟩) (fun _ => rfl) hlt) ?_
    refine setRowVV H 0 2 i (by decide) rfl rfl (by rw [row2_len]) (by decide) sz136 (by simp; omega) fun w7 pa' H => ?_
    have H := H.erase 2
    simp only [List.set_cons_zero, List.set_cons_succ, List.eraseIdx_cons_zero, List.eraseIdx_cons_succ] at H
    rw [set_td (by simp; omega) (by simp [hr2]) (by simp [rows2, hlt])] at H
    rw [ldB3 (hB w7 H.gr) rfl]
    refine makeH H u136 inf4' (by omega) (by omega) fun b3 w8 H => ?_
    rw [show (Value.bool false).cells = #[.bool false] from rfl, madeCells_one, ← row2_none (a := i)] at H
    simp only [List.nil_append, List.cons_append] at H
    refine rdi (ixn134 (X := some ⟨bm, 0, none⟩) (fun _ => rfl) hlt) ?_
    refine setRowVV H 1 2 i (by decide) rfl rfl (by rw [row2_len]) (by decide) sz136 (by simp; omega) fun w9 pm' H => ?_
    have H := H.erase 2
    simp only [List.set_cons_zero, List.set_cons_succ, List.eraseIdx_cons_zero, List.eraseIdx_cons_succ] at H
    rw [set_td (by simp; omega) (by simp [hr2]) (by simp [rows2, hlt])] at H
    rw [i64_of (by omega) (by omega)]
    exact hN _ _ hlt ⟨hlt, rfl, pa', pm', H⟩
  simp only [show ¬ ((i : Int) < (n : Int)) from by omega, decide_false, zq18, zq19, zq20, zq21, zq22, zq23, zq24, zq25, zq26, zq27, zq28, zq4, zq3, zq1, zq2, zq0, zq29, zq30, zq14, zq15, zq16, zq17, zq13, zq10, zq12, zq11, zq7, zq5, zq6, zq9, zq8, zq31, zq32, ite_T, ite_F, zq33, zq34, zq35, Nat.reduceEqDiff, len22, len24, fa26_0, fa26_1, fa26_2, len27, fa33_0, fa33_1, len35, fa114_0, fa114_1, fa114_2, fa124_0, fa124_1, len134]
  have hin : n = i := by omega
  rw [← hin, List.drop_eq_nil_of_le (by simp), List.append_nil, List.take_of_length_le (by rw [hr2]; exact Nat.le_refl _)] at H
  clear hin f26 f27 hN hag hi hlt
  have hRF := hG.2.gr (gr_trans (HK.get 0 rfl) H.gr)
  have hle := hRF.le
  rw [ldB24 (hB w5 H.gr) rfl]
  simp only [zq18, zq19, zq20, zq21, zq22, zq23, zq24, zq25, zq26, zq27, zq28, zq4, zq3, zq1, zq2, zq0, zq29, zq30, zq14, zq15, zq16, zq17, zq13, zq10, zq12, zq11, zq7, zq5, zq6, zq9, zq8, zq31, zq32, ite_T, ite_F, zq33, zq34, zq35, Nat.reduceEqDiff, len22, len24, fa26_0, fa26_1, fa26_2, len27, fa33_0, fa33_1, len35, fa114_0, fa114_1, fa114_2, fa124_0, fa124_1, len134]
  refine loop_to gm.rules.length 0 (fun i f w' => i ≤ gm.rules.length ∧ f 46 = .int .i64 (i : Int) ∧ ∃ A M pa pm, SndE gm.rules A M ∧ (∀ z, z < i → ∀ p, p < (rul gm.rules z).2.length → doneE gm.rules A M (rul gm.rules z) p) ∧ Apt w2 w' [vvi 136 4 (some ⟨ba, 0, none⟩) n (rows2 A n) pa, vvi 136 4 (some ⟨bm, 0, none⟩) n (rows2 M n) pm])
    ⟨Nat.zero_le _, rfl, none2, none2, pa, pm, sndE_none _, (fun z hz => by omega), H⟩ ?_
  clear H hRF
  rintro i g w9 N hag ⟨hi, g46, A, M, pa, pm, hsn, hold, H⟩ hN
  have g1 : g 1 = ptrv b1 := (hag 1 (by decide)).trans f1
  have g4 : g 4 = .slice XG (groV gm).length cG := (hag 4 (by decide)).trans f4
  have g5 : g 5 = .slice (some ⟨ba, 0, none⟩) n n := (hag 5 (by decide)).trans f5
  have g6 : g 6 = .slice (some ⟨bm, 0, none⟩) n n := (hag 6 (by decide)).trans f6
  have g44 : g 44 = .slice Y gm.rules.length cy := hag 44 (by decide)
  have g45 : g 45 = .int .i64 gm.rules.length := hag 45 (by decide)
  have hRF := hG.2.gr (gr_trans (HK.get 0 rfl) H.gr)
  simp only [g44, g45, g46, zq18, zq19, zq20, zq21, zq22, zq23, zq24, zq25, zq26, zq27, zq28, zq4, zq3, zq1, zq2, zq0, zq29, zq30, zq14, zq15, zq16, zq17, zq13, zq10, zq12, zq11, zq7, zq5, zq6, zq9, zq8, zq31, zq32, ite_T, ite_F, zq33, zq34, zq35, Nat.reduceEqDiff, len22, len24, fa26_0, fa26_1, fa26_2, len27, fa33_0, fa33_1, len35, fa114_0, fa114_1, fa114_2, fa124_0, fa124_1, len134]
  by_cases hlt : i < gm.rules.length
  case pos =>
    simp only [show ((i : Int) < (gm.rules.length : Int)) from by omega, decide_true, zq18, zq19, zq20, zq21, zq22, zq23, zq24, zq25, zq26, zq27, zq28, zq4, zq3, zq1, zq2, zq0, zq29, zq30, zq14, zq15, zq16, zq17, zq13, zq10, zq12, zq11, zq7, zq5, zq6, zq9, zq8, zq31, zq32, ite_T, ite_F, zq33, zq34, zq35, Nat.reduceEqDiff, len22, len24, fa26_0, fa26_1, fa26_2, len27, fa33_0, fa33_1, len35, fa114_0, fa114_1, fa114_2, fa124_0, fa124_1, len134]
    have hrm : rul gm.rules i ∈ gm.rules := by rw [rul_eq hlt]; exact List.getElem_mem hlt
    have hb := hgr _ hrm
    obtain ⟨a, ha⟩ : ∃ a : Nat, (rul gm.rules i).1 = (a : Int) := ⟨(rul gm.rules i).1.toNat, by omega⟩
    have ha' : (rul gm.rules i).1.toNat = a := by omega
    have han : a < n := by omega
    refine rdi (ixn24 hRF.ptr hlt) ?_
    refine ld_rule0 agg33 sz33 hG.2 (gr_trans (HK.get 0 rfl) H.gr) hlt fun Z cz hcz hZ => ?_
    have hZ2 := hZ.gr (HK.get 0 rfl)
    refine allocH H inf33 fun b9 w10 H => ?_
    refine storeH H 2 rfl sz33 rfl rfl rfl fun w11 H => ?_
    have H : Apt w2 w11 [vvi 136 4 (some ⟨ba, 0, none⟩) n (rows2 A n) pa, vvi 136 4 (some ⟨bm, 0, none⟩) n (rows2 M n) pm, bx b9 [.int .i64 (a : Int), .slice Z (rul gm.rules i).2.length cz] 33] := by rw [← ha]; exact H
    simp only [zq18, zq19, zq20, zq21, zq22, zq23, zq24, zq25, zq26, zq27, zq28, zq4, zq3, zq1, zq2, zq0, zq29, zq30, zq14, zq15, zq16, zq17, zq13, zq10, zq12, zq11, zq7, zq5, zq6, zq9, zq8, zq31, zq32, ite_T, ite_F, zq33, zq34, zq35, Nat.reduceEqDiff, len22, len24, fa26_0, fa26_1, fa26_2, len27, fa33_0, fa33_1, len35, fa114_0, fa114_1, fa114_2, fa124_0, fa124_1, len134]
    rw [ldB27 (H.box 2 rfl) rfl]
    simp only [zq18, zq19, zq20, zq21, zq22, zq23, zq24, zq25, zq26, zq27, zq28, zq4, zq3, zq1, zq2, zq0, zq29, zq30, zq14, zq15, zq16, zq17, zq13, zq10, zq12, zq11, zq7, zq5, zq6, zq9, zq8, zq31, zq32, ite_T, ite_F, zq33, zq34, zq35, Nat.reduceEqDiff, len22, len24, fa26_0, fa26_1, fa26_2, len27, fa33_0, fa33_1, len35, fa114_0, fa114_1, fa114_2, fa124_0, fa124_1, len134]
    refine loop_to (rul gm.rules i).2.length 0 (fun j q w' => j ≤ (rul gm.rules i).2.length ∧ q 53 = .int .i64 (j : Int) ∧ ∃ A M pa pm, SndE gm.rules A M ∧ (∀ z, z < i → ∀ p, p < (rul gm.rules z).2.length → doneE gm.rules A M (rul gm.rules z) p) ∧ (∀ p, p < j → doneE gm.rules A M (rul gm.rules i) p) ∧ Apt w2 w' [vvi 136 4 (some ⟨ba, 0, none⟩) n (rows2 A n) pa, vvi 136 4 (some ⟨bm, 0, none⟩) n (rows2 M n) pm, bx b9 [.int .i64 (a : Int), .slice Z (rul gm.rules i).2.length cz] 33])
      ⟨Nat.zero_le _, rfl, A, M, pa, pm, hsn, hold, (fun p hp => by omega), H⟩ ?_
    clear H hsn hold
    rintro j q w12 N2 hag2 ⟨hj, q53, A, M, pa, pm, hsn, hold, hcur, H⟩ hN2
    have q4 : q 4 = .slice XG (groV gm).length cG := (hag2 4 (by decide)).trans g4
    have q5 : q 5 = .slice (some ⟨ba, 0, none⟩) n n := (hag2 5 (by decide)).trans g5
    have q6 : q 6 = .slice (some ⟨bm, 0, none⟩) n n := (hag2 6 (by decide)).trans g6
    have q9 : q 9 = ptrv b9 := hag2 9 (by decide)
    have q46 : q 46 = .int .i64 (i : Int) := (hag2 46 (by decide)).trans g46
    have q51 : q 51 = .slice Z (rul gm.rules i).2.length cz := hag2 51 (by decide)
    have q52 : q 52 = .int .i64 ((rul gm.rules i).2.length : Int) := hag2 52 (by decide)
    have hZ' := hZ2.gr H.gr
    simp only [q51, q52, q53, zq18, zq19, zq20, zq21, zq22, zq23, zq24, zq25, zq26, zq27, zq28, zq4, zq3, zq1, zq2, zq0, zq29, zq30, zq14, zq15, zq16, zq17, zq13, zq10, zq12, zq11, zq7, zq5, zq6, zq9, zq8, zq31, zq32, ite_T, ite_F, zq33, zq34, zq35, Nat.reduceEqDiff, len22, len24, fa26_0, fa26_1, fa26_2, len27, fa33_0, fa33_1, len35, fa114_0, fa114_1, fa114_2, fa124_0, fa124_1, len134]
    by_cases hlt2 : j < (rul gm.rules i).2.length
    case neg =>
      simp only [show ¬ ((j : Int) < ((rul gm.rules i).2.length : Int)) from by omega, decide_false, q46, zq18, zq19, zq20, zq21, zq22, zq23, zq24, zq25, zq26, zq27, zq28, zq4, zq3, zq1, zq2, zq0, zq29, zq30, zq14, zq15, zq16, zq17, zq13, zq10, zq12, zq11, zq7, zq5, zq6, zq9, zq8, zq31, zq32, ite_T, ite_F, zq33, zq34, zq35, Nat.reduceEqDiff, len22, len24, fa26_0, fa26_1, fa26_2, len27, fa33_0, fa33_1, len35, fa114_0, fa114_1, fa114_2, fa124_0, fa124_1, len134]
      rw [i64_of (by omega) (by omega)]
      have H := H.erase 2
      simp only [List.eraseIdx_cons_zero, List.eraseIdx_cons_succ] at H
      refine hN _ _ hlt ⟨by omega, rfl, A, M, pa, pm, hsn, fun z hz p hp => ?_, H⟩
      by_cases ez : z = i
      · subst ez
        exact hcur p (by omega)
      · exact hold z (by omega) p hp
    simp only [show ((j : Int) < ((rul gm.rules i).2.length : Int)) from by omega, decide_true, zq18, zq19, zq20, zq21, zq22, zq23, zq24, zq25, zq26, zq27, zq28, zq4, zq3, zq1, zq2, zq0, zq29, zq30, zq14, zq15, zq16, zq17, zq13, zq10, zq12, zq11, zq7, zq5, zq6, zq9, zq8, zq31, zq32, ite_T, ite_F, zq33, zq34, zq35, Nat.reduceEqDiff, len22, len24, fa26_0, fa26_1, fa26_2, len27, fa33_0, fa33_1, len35, fa114_0, fa114_1, fa114_2, fa124_0, fa124_1, len134]
    refine join_as (fun q w' => q 53 = .int .i64 (j : Int) ∧ ∃ A M pa pm, SndE gm.rules A M ∧ (∀ z, z < i → ∀ p, p < (rul gm.rules z).2.length → doneE gm.rules A M (rul gm.rules z) p) ∧ (∀ p, p < j + 1 → doneE gm.rules A M (rul gm.rules i) p) ∧ Apt w2 w' [vvi 136 4 (some ⟨ba, 0, none⟩) n (rows2 A n) pa, vvi 136 4 (some ⟨bm, 0, none⟩) n (rows2 M n) pm, bx b9 [.int .i64 (a : Int), .slice Z (rul gm.rules i).2.length cz] 33]) (fun K hK => ?_) ?_
    case refine_2 =>
      rintro f w' ⟨e31, h⟩
      simp only [e31, zq18, zq19, zq20, zq21, zq22, zq23, zq24, zq25, zq26, zq27, zq28, zq4, zq3, zq1, zq2, zq0, zq29, zq30, zq14, zq15, zq16, zq17, zq13, zq10, zq12, zq11, zq7, zq5, zq6, zq9, zq8, zq31, zq32, ite_T, ite_F, zq33, zq34, zq35, Nat.reduceEqDiff, len22, len24, fa26_0, fa26_1, fa26_2, len27, fa33_0, fa33_1, len35, fa114_0, fa114_1, fa114_2, fa124_0, fa124_1, len134]
      rw [i64_of (by omega) (by omega)]
      exact hN2 _ _ hlt2 ⟨by omega, rfl, h⟩
    refine rdi (ixn27 hZ'.ptr hlt2) (rdi (ld3 (hZ'.cell j hlt2)) ?_)
    have hxb := hb.2.2 _ (getD_mem hlt2)
    generalize hxe : (rul gm.rules i).2.getD j 0 = x at *
    simp only [zq18, zq19, zq20, zq21, zq22, zq23, zq24, zq25, zq26, zq27, zq28, zq4, zq3, zq1, zq2, zq0, zq29, zq30, zq14, zq15, zq16, zq17, zq13, zq10, zq12, zq11, zq7, zq5, zq6, zq9, zq8, zq31, zq32, ite_T, ite_F, zq33, zq34, zq35, Nat.reduceEqDiff, len22, len24, fa26_0, fa26_1, fa26_2, len27, fa33_0, fa33_1, len35, fa114_0, fa114_1, fa114_2, fa124_0, fa124_1, len134]
    by_cases hx : x < 0
    · simp only [hx, decide_true, zq18, zq19, zq20, zq21, zq22, zq23, zq24, zq25, zq26, zq27, zq28, zq4, zq3, zq1, zq2, zq0, zq29, zq30, zq14, zq15, zq16, zq17, zq13, zq10, zq12, zq11, zq7, zq5, zq6, zq9, zq8, zq31, zq32, ite_T, ite_F, zq33, zq34, zq35, Nat.reduceEqDiff, len22, len24, fa26_0, fa26_1, fa26_2, len27, fa33_0, fa33_1, len35, fa114_0, fa114_1, fa114_2, fa124_0, fa124_1, len134]
      refine hK _ _ ⟨q53, A, M, pa, pm, hsn, hold, fun p hp => ?_, H⟩
      by_cases ep : p = j
      · subst ep
        intro b hb'
        rw [hxe] at hb'
        omega
      · exact hcur p (by omega)
    simp only [hx, decide_false, q5, q9, zq18, zq19, zq20, zq21, zq22, zq23, zq24, zq25, zq26, zq27, zq28, zq4, zq3, zq1, zq2, zq0, zq29, zq30, zq14, zq15, zq16, zq17, zq13, zq10, zq12, zq11, zq7, zq5, zq6, zq9, zq8, zq31, zq32, ite_T, ite_F, zq33, zq34, zq35, Nat.reduceEqDiff, len22, len24, fa26_0, fa26_1, fa26_2, len27, fa33_0, fa33_1, len35, fa114_0, fa114_1, fa114_2, fa124_0, fa124_1, len134]
    obtain ⟨b, rfl⟩ : ∃ b : Nat, x = (b : Int) := ⟨x.toNat, by omega⟩
    have hbn : b < n := by omega
    rw [ldB3 (H.box 2 rfl) rfl]
    have va := vv_at (H.vv 0 rfl) han
    refine rdi (ixn134 (X := some ⟨ba, 0, none⟩) (fun _ => rfl) han) (rdi (ld136 va.2.1) (rdi (ixn136 va.1 hbn) ?_))
    refine storeVV H 0 a rfl (by decide) sz4 rfl rfl (by rw [rows2_len]; exact han) (by rw [vls_rows2 han, row2_len]; exact hbn) fun w13 H => ?_
    rw [rows2_set han hbn] at H
    simp only [List.set_cons_zero, List.set_cons_succ] at H
    have hed : EdR gm.rules a b := ⟨_, hrm, ha, j, hlt2, hxe⟩
    have hle1 := setT_true_le A a b
    have hsn : SndE gm.rules (setT A a b true) M := ⟨fun c d h => by
      unfold setT at h
      split at h
      · rename_i e
        obtain ⟨rfl, rfl⟩ := e
        exact hed
      · exact hsn.all _ _ h, hsn.more⟩
    have hself := setT_self A a b true
    have hold := fun z hz p hp => doneE_mono (hold z hz p hp) hle1 (leT_refl M)
    have hcur := fun p hp => doneE_mono (hcur p hp) hle1 (leT_refl M)
    generalize setT A a b true = A at *
    rw [ldB27 (H.box 2 rfl) rfl]
    simp only [zq18, zq19, zq20, zq21, zq22, zq23, zq24, zq25, zq26, zq27, zq28, zq4, zq3, zq1, zq2, zq0, zq29, zq30, zq14, zq15, zq16, zq17, zq13, zq10, zq12, zq11, zq7, zq5, zq6, zq9, zq8, zq31, zq32, ite_T, ite_F, zq33, zq34, zq35, Nat.reduceEqDiff, len22, len24, fa26_0, fa26_1, fa26_2, len27, fa33_0, fa33_1, len35, fa114_0, fa114_1, fa114_2, fa124_0, fa124_1, len134]
    refine loop_to (rul gm.rules i).2.length 0 (fun m r w' => m ≤ (rul gm.rules i).2.length ∧ r 70 = .int .i64 (m : Int) ∧ ∃ M pm, SndE gm.rules A M ∧ (∀ z, z < i → ∀ p, p < (rul gm.rules z).2.length → doneE gm.rules A M (rul gm.rules z) p) ∧ (∀ p, p < j → doneE gm.rules A M (rul gm.rules i) p) ∧ (∀ m', m' < m → m' ≠ j → growX gm.rules ((rul gm.rules i).2.getD m' 0) → M a b = true) ∧ Apt w2 w' [vvi 136 4 (some ⟨ba, 0, none⟩) n (rows2 A n) pa, vvi 136 4 (some ⟨bm, 0, none⟩) n (rows2 M n) pm, bx b9 [.int .i64 (a : Int), .slice Z (rul gm.rules i).2.length cz] 33])
      ⟨Nat.zero_le _, rfl, M, pm, hsn, hold, hcur, (fun p hp => by omega), H⟩ ?_
    clear H hsn hold hcur
    rintro m r w14 N3 hag3 ⟨hm, r70, M, pm, hsn, hold, hcur, hin, H⟩ hN3
    have r4 : r 4 = .slice XG (groV gm).length cG := (hag3 4 (by decide)).trans q4
    have r6 : r 6 = .slice (some ⟨bm, 0, none⟩) n n := (hag3 6 (by decide)).trans q6
    have r9 : r 9 = ptrv b9 := (hag3 9 (by decide)).trans q9
    have r10 : r 10 = .int .i64 (j : Int) := (hag3 10 (by decide))
    have r11 : r 11 = .int .i64 (b : Int) := (hag3 11 (by decide))
    have r53 : r 53 = .int .i64 (j : Int) := (hag3 53 (by decide)).trans q53
    have r68 : r 68 = .slice Z (rul gm.rules i).2.length cz := hag3 68 (by decide)
    have r69 : r 69 = .int .i64 ((rul gm.rules i).2.length : Int) := hag3 69 (by decide)
    have hZ' := hZ2.gr H.gr
    simp only [r68, r69, r70, zq18, zq19, zq20, zq21, zq22, zq23, zq24, zq25, zq26, zq27, zq28, zq4, zq3, zq1, zq2, zq0, zq29, zq30, zq14, zq15, zq16, zq17, zq13, zq10, zq12, zq11, zq7, zq5, zq6, zq9, zq8, zq31, zq32, ite_T, ite_F, zq33, zq34, zq35, Nat.reduceEqDiff, len22, len24, fa26_0, fa26_1, fa26_2, len27, fa33_0, fa33_1, len35, fa114_0, fa114_1, fa114_2, fa124_0, fa124_1, len134]
    by_cases hlt3 : m < (rul gm.rules i).2.length
    case neg =>
      simp only [show ¬ ((m : Int) < ((rul gm.rules i).2.length : Int)) from by omega, decide_false, zq18, zq19, zq20, zq21, zq22, zq23, zq24, zq25, zq26, zq27, zq28, zq4, zq3, zq1, zq2, zq0, zq29, zq30, zq14, zq15, zq16, zq17, zq13, zq10, zq12, zq11, zq7, zq5, zq6, zq9, zq8, zq31, zq32, ite_T, ite_F, zq33, zq34, zq35, Nat.reduceEqDiff, len22, len24, fa26_0, fa26_1, fa26_2, len27, fa33_0, fa33_1, len35, fa114_0, fa114_1, fa114_2, fa124_0, fa124_1, len134]
      refine hK _ _ ⟨r53, A, M, pa, pm, hsn, hold, fun p hp => ?_, H⟩
      by_cases ep : p = j
      · subst ep
        intro b' hb'
        rw [hxe] at hb'
        have : b' = b := by omega
        subst this
        rw [ha']
        exact ⟨hself, fun m' h1 h2 h3 => hin m' (by omega) h2 h3⟩
      · exact hcur p (by omega)
    simp only [show ((m : Int) < ((rul gm.rules i).2.length : Int)) from by omega, decide_true, zq18, zq19, zq20, zq21, zq22, zq23, zq24, zq25, zq26, zq27, zq28, zq4, zq3, zq1, zq2, zq0, zq29, zq30, zq14, zq15, zq16, zq17, zq13, zq10, zq12, zq11, zq7, zq5, zq6, zq9, zq8, zq31, zq32, ite_T, ite_F, zq33, zq34, zq35, Nat.reduceEqDiff, len22, len24, fa26_0, fa26_1, fa26_2, len27, fa33_0, fa33_1, len35, fa114_0, fa114_1, fa114_2, fa124_0, fa124_1, len134]
    refine rdi (ixn27 hZ'.ptr hlt3) (rdi (ld3 (hZ'.cell m hlt3)) ?_)
    have hyb := hb.2.2 _ (getD_mem hlt3)
    have fin : ∀ v : Bool, (M a b = true → v = true) → (v = true → M a b = true ∨ EgR gm.rules a b) → (m ≠ j → growX gm.rules ((rul gm.rules i).2.getD m 0) → v = true) → ∀ w', Apt w2 w' [vvi 136 4 (some ⟨ba, 0, none⟩) n (rows2 A n) pa, vvi 136 4 (some ⟨bm, 0, none⟩) n (rows2 (setT M a b v) n) pm, bx b9 [.int .i64 (a : Int), .slice Z (rul gm.rules i).2.length cz] 33] → ∀ f' : F, f' 70 = .int .i64 ((m + 1 : Nat) : Int) → N3 f' w' := fun v h1 h2 h3 w' H f' e => by
      have hle2 : leT M (setT M a b v) := setT_le h1
      refine hN3 _ _ hlt3 ⟨by omega, e, _, pm, ⟨hsn.all, fun c d h => ?_⟩, fun z hz p hp => doneE_mono (hold z hz p hp) (leT_refl A) hle2, fun p hp => doneE_mono (hcur p hp) (leT_refl A) hle2, fun m' q1 q2 q3 => ?_, H⟩
      · unfold setT at h
        split at h
        · rename_i e
          obtain ⟨rfl, rfl⟩ := e
          exact (h2 h).elim (hsn.more _ _) id
        · exact hsn.more _ _ h
      · rw [setT_self]
        by_cases em : m' = m
        · subst em
          exact h3 q2 q3
        · exact h1 (hin m' (by omega) q2 q3)
    have heg : m ≠ j → growX gm.rules ((rul gm.rules i).2.getD m 0) → EgR gm.rules a b := fun h1 h2 => ⟨_, hrm, ha, j, m, hlt2, hlt3, fun e => h1 e.symm, hxe, h2⟩
    rw [hgx _ hyb.2] at heg fin
    generalize (rul gm.rules i).2.getD m 0 = y at *
    have H := H.drew
    refine ⟨fun w' => Apt w2 w' [vvi 136 4 (some ⟨ba, 0, none⟩) n (rows2 A n) pa, vvi 136 4 (some ⟨bm, 0, none⟩) n (rows2 M n) pm, bx b9 [.int .i64 (a : Int), .slice Z (rul gm.rules i).2.length cz] 33], H, ?_⟩
    have RB : ∀ w', Apt w2 w' [vvi 136 4 (some ⟨ba, 0, none⟩) n (rows2 A n) pa, vvi 136 4 (some ⟨bm, 0, none⟩) n (rows2 M n) pm, bx b9 [.int .i64 (a : Int), .slice Z (rul gm.rules i).2.length cz] 33] → w'.cell? ⟨b9, 0 + 0, none⟩ = some (.int .i64 (a : Int)) := fun w' H => by
      have := (H.box 2 rfl).cell 0
      simpa using this
    have RV := fun w' (H : Apt w2 w' [vvi 136 4 (some ⟨ba, 0, none⟩) n (rows2 A n) pa, vvi 136 4 (some ⟨bm, 0, none⟩) n (rows2 M n) pm, bx b9 [.int .i64 (a : Int), .slice Z (rul gm.rules i).2.length cz] 33]) => vv_at (H.vv 1 rfl) han
    simp only [r6, r9, r10, r11, r70, zq18, zq19, zq20, zq21, zq22, zq23, zq24, zq25, zq26, zq27, zq28, zq4, zq3, zq1, zq2, zq0, zq29, zq30, zq14, zq15, zq16, zq17, zq13, zq10, zq12, zq11, zq7, zq5, zq6, zq9, zq8, zq31, zq32, ite_T, ite_F, zq33, zq34, zq35, Nat.reduceEqDiff, len22, len24, fa26_0, fa26_1, fa26_2, len27, fa33_0, fa33_1, len35, fa114_0, fa114_1, fa114_2, fa124_0, fa124_1, len134]
    have vm := vv_at (H.vv 1 rfl) han
    refine rdi (ldS3 RB) ?_
    refine rdi (ixn134 (X := some ⟨bm, 0, none⟩) (fun _ => rfl) han) (rdi (ldS136 fun w' H => (RV w' H).2.1) ?_)
    refine rdi (ldS3 RB) ?_
    refine rdi (ixn134 (X := some ⟨bm, 0, none⟩) (fun _ => rfl) han) (rdi (ldS136 fun w' H => (RV w' H).2.1) ?_)
    refine rdi (ixn136 vm.1 hbn) (rdi (ldS4 fun w' H => (RV w' H).2.2 b hbn) ?_)
    have put : ∀ v : Bool, (M a b = true → v = true) → (v = true → M a b = true ∨ (m ≠ j ∧ (y < 0 ∨ y ∈ groV gm))) → (m ≠ j → (y < 0 ∨ y ∈ groV gm) → v = true) → ∀ w', Apt w2 w' [vvi 136 4 (some ⟨ba, 0, none⟩) n (rows2 A n) pa, vvi 136 4 (some ⟨bm, 0, none⟩) n (rows2 M n) pm, bx b9 [.int .i64 (a : Int), .slice Z (rul gm.rules i).2.length cz] 33] → ∀ f' : F, f' 70 = .int .i64 (IntKind.i64.wrap ((m : Int) + 1)) →
        Do Try.prog (sStore 4 (.pointer (some ((ad (pm a).1).add b))) (.bool v)) (fun _ w112 => N3 f' w112) w' := fun v h1 h2 h3 w' H f' hf => by
      refine storeVV H 1 a rfl (by decide) sz4 rfl rfl (by rw [rows2_len]; exact han) (by rw [vls_rows2 han, row2_len]; exact hbn) fun w15 H => ?_
      rw [rows2_set han hbn] at H
      simp only [List.set_cons_zero, List.set_cons_succ] at H
      rw [i64_of (by omega) (by omega)] at hf
      exact fin v h1 (fun h => (h2 h).imp id fun h => heg h.1 h.2) h3 _ H _ hf
    cases hM : M a b
    case true =>
      simp only [zq18, zq19, zq20, zq21, zq22, zq23, zq24, zq25, zq26, zq27, zq28, zq4, zq3, zq1, zq2, zq0, zq29, zq30, zq14, zq15, zq16, zq17, zq13, zq10, zq12, zq11, zq7, zq5, zq6, zq9, zq8, zq31, zq32, ite_T, ite_F, zq33, zq34, zq35, Nat.reduceEqDiff, len22, len24, fa26_0, fa26_1, fa26_2, len27, fa33_0, fa33_1, len35, fa114_0, fa114_1, fa114_2, fa124_0, fa124_1, len134]
      refine ⟨H, ?_⟩
      refine rdi (ixn136 vm.1 hbn) ?_
      exact put true (fun _ => rfl) (fun _ => .inl hM) (fun _ _ => rfl) _ H _ rfl
    simp only [zq18, zq19, zq20, zq21, zq22, zq23, zq24, zq25, zq26, zq27, zq28, zq4, zq3, zq1, zq2, zq0, zq29, zq30, zq14, zq15, zq16, zq17, zq13, zq10, zq12, zq11, zq7, zq5, zq6, zq9, zq8, zq31, zq32, ite_T, ite_F, zq33, zq34, zq35, Nat.reduceEqDiff, len22, len24, fa26_0, fa26_1, fa26_2, len27, fa33_0, fa33_1, len35, fa114_0, fa114_1, fa114_2, fa124_0, fa124_1, len134]
    by_cases hmj : m = j
    · simp only [show ((j : Int) = (m : Int)) from by omega, decide_true, Bool.not_true, zq18, zq19, zq20, zq21, zq22, zq23, zq24, zq25, zq26, zq27, zq28, zq4, zq3, zq1, zq2, zq0, zq29, zq30, zq14, zq15, zq16, zq17, zq13, zq10, zq12, zq11, zq7, zq5, zq6, zq9, zq8, zq31, zq32, ite_T, ite_F, zq33, zq34, zq35, Nat.reduceEqDiff, len22, len24, fa26_0, fa26_1, fa26_2, len27, fa33_0, fa33_1, len35, fa114_0, fa114_1, fa114_2, fa124_0, fa124_1, len134]
      refine ⟨H, ?_⟩
      refine rdi (ixn136 vm.1 hbn) ?_
      refine put false (fun h => by rw [hM] at h; cases h) (fun h => by cases h) (fun h _ => absurd hmj h) _ H _ rfl
    simp only [show ¬ ((j : Int) = (m : Int)) from by omega, decide_false, Bool.not_false, zq18, zq19, zq20, zq21, zq22, zq23, zq24, zq25, zq26, zq27, zq28, zq4, zq3, zq1, zq2, zq0, zq29, zq30, zq14, zq15, zq16, zq17, zq13, zq10, zq12, zq11, zq7, zq5, zq6, zq9, zq8, zq31, zq32, ite_T, ite_F, zq33, zq34, zq35, Nat.reduceEqDiff, len22, len24, fa26_0, fa26_1, fa26_2, len27, fa33_0, fa33_1, len35, fa114_0, fa114_1, fa114_2, fa124_0, fa124_1, len134]
    by_cases hy : y < 0
    · simp only [hy, decide_true, zq18, zq19, zq20, zq21, zq22, zq23, zq24, zq25, zq26, zq27, zq28, zq4, zq3, zq1, zq2, zq0, zq29, zq30, zq14, zq15, zq16, zq17, zq13, zq10, zq12, zq11, zq7, zq5, zq6, zq9, zq8, zq31, zq32, ite_T, ite_F, zq33, zq34, zq35, Nat.reduceEqDiff, len22, len24, fa26_0, fa26_1, fa26_2, len27, fa33_0, fa33_1, len35, fa114_0, fa114_1, fa114_2, fa124_0, fa124_1, len134]
      refine ⟨H, ?_⟩
      refine rdi (ixn136 vm.1 hbn) ?_
      exact put true (fun _ => rfl) (fun _ => .inr ⟨hmj, .inl hy⟩) (fun _ _ => rfl) _ H _ rfl
    simp only [hy, decide_false, r4, zq18, zq19, zq20, zq21, zq22, zq23, zq24, zq25, zq26, zq27, zq28, zq4, zq3, zq1, zq2, zq0, zq29, zq30, zq14, zq15, zq16, zq17, zq13, zq10, zq12, zq11, zq7, zq5, zq6, zq9, zq8, zq31, zq32, ite_T, ite_F, zq33, zq34, zq35, Nat.reduceEqDiff, len22, len24, fa26_0, fa26_1, fa26_2, len27, fa33_0, fa33_1, len35, fa114_0, fa114_1, fa114_2, fa124_0, fa124_1, len134]
    have hGr := ((HK.get 3 rfl).1.gr H.gr)
    refine l1Has_c hGr fun w16 g16 => ?_
    have H := H.step g16
    refine ⟨H, ?_⟩
    refine rdi (ixn136 vm.1 hbn) ?_
    exact put (decide (y ∈ groV gm)) (fun h => by rw [hM] at h; cases h) (fun h => .inr ⟨hmj, .inr (of_decide_eq_true h)⟩) (fun _ h => h.elim (fun h => absurd h hy) fun h => decide_eq_true h) _ H _ rfl
  simp only [show ¬ ((i : Int) < (gm.rules.length : Int)) from by omega, decide_false, zq18, zq19, zq20, zq21, zq22, zq23, zq24, zq25, zq26, zq27, zq28, zq4, zq3, zq1, zq2, zq0, zq29, zq30, zq14, zq15, zq16, zq17, zq13, zq10, zq12, zq11, zq7, zq5, zq6, zq9, zq8, zq31, zq32, ite_T, ite_F, zq33, zq34, zq35, Nat.reduceEqDiff, len22, len24, fa26_0, fa26_1, fa26_2, len27, fa33_0, fa33_1, len35, fa114_0, fa114_1, fa114_2, fa124_0, fa124_1, len134]
  have hall : (∀ a b, EdR gm.rules a b → A a b = true) ∧ ∀ a b, EgR gm.rules a b → M a b = true := done_all fun r hr p hp => by
    obtain ⟨z, hz, rfl⟩ := List.getElem_of_mem hr
    have := hold z (by omega) p (by rw [rul_eq hz]; exact hp)
    rwa [rul_eq hz] at this
  have hF : ∀ a b, EgR gm.rules a b → EdR gm.rules a b := fun _ _ h => egR_edR h
  have hcm := CmpT.zero (n := n) (A := A) (M := M) hall.1 hall.2
  have hst : SndT (EdR gm.rules) (EgR gm.rules) n A M := ⟨(fun a b h => .one (hsn.all a b h)), (fun a b h => .one (hsn.more a b h))⟩
  clear hN hag hold hsn hall
  refine loop_to n 0 (fun kk g w' => kk ≤ n ∧ g 14 = .int .i64 (kk : Int) ∧ ∃ A M pa pm, SndT (EdR gm.rules) (EgR gm.rules) n A M ∧ CmpT (EdR gm.rules) (EgR gm.rules) n kk A M ∧ Apt w2 w' [vvi 136 4 (some ⟨ba, 0, none⟩) n (rows2 A n) pa, vvi 136 4 (some ⟨bm, 0, none⟩) n (rows2 M n) pm])
    ⟨by omega, rfl, A, M, pa, pm, hst, hcm, H⟩ ?_
  clear H hst hcm
  rintro kk e w15 N hag ⟨hkk, e14, A0, M0, pa, pm, hst, hcm, H⟩ hN
  have e1 : e 1 = ptrv b1 := (hag 1 (by decide)).trans g1
  have e5 : e 5 = .slice (some ⟨ba, 0, none⟩) n n := (hag 5 (by decide)).trans g5
  have e6 : e 6 = .slice (some ⟨bm, 0, none⟩) n n := (hag 6 (by decide)).trans g6
  simp only [e1, e14, zq18, zq19, zq20, zq21, zq22, zq23, zq24, zq25, zq26, zq27, zq28, zq4, zq3, zq1, zq2, zq0, zq29, zq30, zq14, zq15, zq16, zq17, zq13, zq10, zq12, zq11, zq7, zq5, zq6, zq9, zq8, zq31, zq32, ite_T, ite_F, zq33, zq34, zq35, Nat.reduceEqDiff, len22, len24, fa26_0, fa26_1, fa26_2, len27, fa33_0, fa33_1, len35, fa114_0, fa114_1, fa114_2, fa124_0, fa124_1, len134]
  rw [ldB3 (hB w15 H.gr) rfl]
  simp only [zq18, zq19, zq20, zq21, zq22, zq23, zq24, zq25, zq26, zq27, zq28, zq4, zq3, zq1, zq2, zq0, zq29, zq30, zq14, zq15, zq16, zq17, zq13, zq10, zq12, zq11, zq7, zq5, zq6, zq9, zq8, zq31, zq32, ite_T, ite_F, zq33, zq34, zq35, Nat.reduceEqDiff, len22, len24, fa26_0, fa26_1, fa26_2, len27, fa33_0, fa33_1, len35, fa114_0, fa114_1, fa114_2, fa124_0, fa124_1, len134]
  by_cases hk6 : kk < n
  case neg =>
    simp only [show ¬ ((kk : Int) < (n : Int)) from by omega, decide_false, e5, e6, zq18, zq19, zq20, zq21, zq22, zq23, zq24, zq25, zq26, zq27, zq28, zq4, zq3, zq1, zq2, zq0, zq29, zq30, zq14, zq15, zq16, zq17, zq13, zq10, zq12, zq11, zq7, zq5, zq6, zq9, zq8, zq31, zq32, ite_T, ite_F, zq33, zq34, zq35, Nat.reduceEqDiff, len22, len24, fa26_0, fa26_1, fa26_2, len27, fa33_0, fa33_1, len35, fa114_0, fa114_1, fa114_2, fa124_0, fa124_1, len134]
    have en : kk = n := by omega
    subst en
    exact hk w15 _ _ A0 M0 pm (gr_trans (HK.get 0 rfl) H.gr) hE hcm hst (fun _ => rfl) (fun a ha => vv_at (H.vv 1 rfl) ha)
  simp only [show ((kk : Int) < (n : Int)) from by omega, decide_true, zq18, zq19, zq20, zq21, zq22, zq23, zq24, zq25, zq26, zq27, zq28, zq4, zq3, zq1, zq2, zq0, zq29, zq30, zq14, zq15, zq16, zq17, zq13, zq10, zq12, zq11, zq7, zq5, zq6, zq9, zq8, zq31, zq32, ite_T, ite_F, zq33, zq34, zq35, Nat.reduceEqDiff, len22, len24, fa26_0, fa26_1, fa26_2, len27, fa33_0, fa33_1, len35, fa114_0, fa114_1, fa114_2, fa124_0, fa124_1, len134]
  refine loop_to n 0 (fun aa g w' => aa ≤ n ∧ g 15 = .int .i64 (aa : Int) ∧ ∃ A M pa pm, MidT (EdR gm.rules) (EgR gm.rules) n kk aa 0 A0 M0 A M ∧ Apt w2 w' [vvi 136 4 (some ⟨ba, 0, none⟩) n (rows2 A n) pa, vvi 136 4 (some ⟨bm, 0, none⟩) n (rows2 M n) pm])
    ⟨by omega, rfl, A0, M0, pa, pm, MidT.start hst, H⟩ ?_
  clear H
  rintro aa e2 w16 N2 hag2 ⟨haa, e215, A, M, pa, pm, hmid, H⟩ hN2
  have e21 : e2 1 = ptrv b1 := (hag2 1 (by decide)).trans e1
  have e25 : e2 5 = .slice (some ⟨ba, 0, none⟩) n n := (hag2 5 (by decide)).trans e5
  have e26 : e2 6 = .slice (some ⟨bm, 0, none⟩) n n := (hag2 6 (by decide)).trans e6
  have e214 : e2 14 = .int .i64 (kk : Int) := (hag2 14 (by decide)).trans e14
  simp only [e21, e215, zq18, zq19, zq20, zq21, zq22, zq23, zq24, zq25, zq26, zq27, zq28, zq4, zq3, zq1, zq2, zq0, zq29, zq30, zq14, zq15, zq16, zq17, zq13, zq10, zq12, zq11, zq7, zq5, zq6, zq9, zq8, zq31, zq32, ite_T, ite_F, zq33, zq34, zq35, Nat.reduceEqDiff, len22, len24, fa26_0, fa26_1, fa26_2, len27, fa33_0, fa33_1, len35, fa114_0, fa114_1, fa114_2, fa124_0, fa124_1, len134]
  rw [ldB3 (hB w16 H.gr) rfl]
  simp only [zq18, zq19, zq20, zq21, zq22, zq23, zq24, zq25, zq26, zq27, zq28, zq4, zq3, zq1, zq2, zq0, zq29, zq30, zq14, zq15, zq16, zq17, zq13, zq10, zq12, zq11, zq7, zq5, zq6, zq9, zq8, zq31, zq32, ite_T, ite_F, zq33, zq34, zq35, Nat.reduceEqDiff, len22, len24, fa26_0, fa26_1, fa26_2, len27, fa33_0, fa33_1, len35, fa114_0, fa114_1, fa114_2, fa124_0, fa124_1, len134]
  by_cases ha6 : aa < n
  case neg =>
    simp only [show ¬ ((aa : Int) < (n : Int)) from by omega, decide_false, e214, zq18, zq19, zq20, zq21, zq22, zq23, zq24, zq25, zq26, zq27, zq28, zq4, zq3, zq1, zq2, zq0, zq29, zq30, zq14, zq15, zq16, zq17, zq13, zq10, zq12, zq11, zq7, zq5, zq6, zq9, zq8, zq31, zq32, ite_T, ite_F, zq33, zq34, zq35, Nat.reduceEqDiff, len22, len24, fa26_0, fa26_1, fa26_2, len27, fa33_0, fa33_1, len35, fa114_0, fa114_1, fa114_2, fa124_0, fa124_1, len134]
    rw [i64_of (by omega) (by omega)]
    have en : aa = n := by omega
    subst en
    exact hN _ _ hk6 ⟨by omega, rfl, A, M, pa, pm, hmid.snd, hmid.done hE hF hk6 hcm, H⟩
  simp only [show ((aa : Int) < (n : Int)) from by omega, decide_true, zq18, zq19, zq20, zq21, zq22, zq23, zq24, zq25, zq26, zq27, zq28, zq4, zq3, zq1, zq2, zq0, zq29, zq30, zq14, zq15, zq16, zq17, zq13, zq10, zq12, zq11, zq7, zq5, zq6, zq9, zq8, zq31, zq32, ite_T, ite_F, zq33, zq34, zq35, Nat.reduceEqDiff, len22, len24, fa26_0, fa26_1, fa26_2, len27, fa33_0, fa33_1, len35, fa114_0, fa114_1, fa114_2, fa124_0, fa124_1, len134]
  refine loop_to n 0 (fun bb g w' => bb ≤ n ∧ g 16 = .int .i64 (bb : Int) ∧ ∃ A M pa pm, MidT (EdR gm.rules) (EgR gm.rules) n kk aa bb A0 M0 A M ∧ Apt w2 w' [vvi 136 4 (some ⟨ba, 0, none⟩) n (rows2 A n) pa, vvi 136 4 (some ⟨bm, 0, none⟩) n (rows2 M n) pm])
    ⟨by omega, rfl, A, M, pa, pm, hmid, H⟩ ?_
  clear H hmid
  rintro bb e3 w17 N3 hag3 ⟨hbb, e316, A, M, pa, pm, hmid, H⟩ hN3
  have e31 : e3 1 = ptrv b1 := (hag3 1 (by decide)).trans e21
  have e35 : e3 5 = .slice (some ⟨ba, 0, none⟩) n n := (hag3 5 (by decide)).trans e25
  have e36 : e3 6 = .slice (some ⟨bm, 0, none⟩) n n := (hag3 6 (by decide)).trans e26
  have e314 : e3 14 = .int .i64 (kk : Int) := (hag3 14 (by decide)).trans e214
  have e315 : e3 15 = .int .i64 (aa : Int) := (hag3 15 (by decide)).trans e215
  simp only [e31, e35, e36, e314, e315, e316, zq18, zq19, zq20, zq21, zq22, zq23, zq24, zq25, zq26, zq27, zq28, zq4, zq3, zq1, zq2, zq0, zq29, zq30, zq14, zq15, zq16, zq17, zq13, zq10, zq12, zq11, zq7, zq5, zq6, zq9, zq8, zq31, zq32, ite_T, ite_F, zq33, zq34, zq35, Nat.reduceEqDiff, len22, len24, fa26_0, fa26_1, fa26_2, len27, fa33_0, fa33_1, len35, fa114_0, fa114_1, fa114_2, fa124_0, fa124_1, len134]
  rw [ldB3 (hB w17 H.gr) rfl]
  simp only [zq18, zq19, zq20, zq21, zq22, zq23, zq24, zq25, zq26, zq27, zq28, zq4, zq3, zq1, zq2, zq0, zq29, zq30, zq14, zq15, zq16, zq17, zq13, zq10, zq12, zq11, zq7, zq5, zq6, zq9, zq8, zq31, zq32, ite_T, ite_F, zq33, zq34, zq35, Nat.reduceEqDiff, len22, len24, fa26_0, fa26_1, fa26_2, len27, fa33_0, fa33_1, len35, fa114_0, fa114_1, fa114_2, fa124_0, fa124_1, len134]
  by_cases hb6 : bb < n
  case neg =>
    simp only [show ¬ ((bb : Int) < (n : Int)) from by omega, decide_false, e315, zq18, zq19, zq20, zq21, zq22, zq23, zq24, zq25, zq26, zq27, zq28, zq4, zq3, zq1, zq2, zq0, zq29, zq30, zq14, zq15, zq16, zq17, zq13, zq10, zq12, zq11, zq7, zq5, zq6, zq9, zq8, zq31, zq32, ite_T, ite_F, zq33, zq34, zq35, Nat.reduceEqDiff, len22, len24, fa26_0, fa26_1, fa26_2, len27, fa33_0, fa33_1, len35, fa114_0, fa114_1, fa114_2, fa124_0, fa124_1, len134]
    rw [i64_of (by omega) (by omega)]
    have en : bb = n := by omega
    subst en
    exact hN2 _ _ ha6 ⟨by omega, rfl, A, M, pa, pm, hmid.row, H⟩
  simp only [show ((bb : Int) < (n : Int)) from by omega, decide_true, zq18, zq19, zq20, zq21, zq22, zq23, zq24, zq25, zq26, zq27, zq28, zq4, zq3, zq1, zq2, zq0, zq29, zq30, zq14, zq15, zq16, zq17, zq13, zq10, zq12, zq11, zq7, zq5, zq6, zq9, zq8, zq31, zq32, ite_T, ite_F, zq33, zq34, zq35, Nat.reduceEqDiff, len22, len24, fa26_0, fa26_1, fa26_2, len27, fa33_0, fa33_1, len35, fa114_0, fa114_1, fa114_2, fa124_0, fa124_1, len134]
  have H := H.drew
  have hstep := hmid.step hk6
  have oA := fun {x : Nat} (hx : x < n) => vv_at (a := x) (H.vv 0 rfl) hx
  have oM := fun {x : Nat} (hx : x < n) => vv_at (a := x) (H.vv 1 rfl) hx
  refine rdi (ixn134 (X := some ⟨bm, 0, none⟩) (fun _ => rfl) ha6) (rdi (ld136 (oM ha6).2.1) ?_)
  refine rdi (ixn134 (X := some ⟨bm, 0, none⟩) (fun _ => rfl) ha6) (rdi (ld136 (oM ha6).2.1) ?_)
  refine rdi (ixn136 (oM ha6).1 hb6) (rdi (ld4 ((oM ha6).2.2 _ hb6)) ?_)
  refine rdi (gK0 fun _ => rfl) ?_
  refine rdi (gK0 fun _ => rfl) ?_
  refine rdi (gK0 fun hb => by rw [hb]; exact ixn134 (X := some ⟨ba, 0, none⟩) (fun _ => rfl) ha6) ?_
  refine rdi (gK0 fun hb => by rw [hb]; exact ld136 (oA ha6).2.1) ?_
  refine rdi (gK0 fun _ => rfl) ?_
  refine rdi (gK0 fun hb => by rw [hb]; exact ixn136 (oA ha6).1 hk6) ?_
  refine rdi (gK0 fun hb => by rw [hb]; exact ld4 ((oA ha6).2.2 _ hk6)) ?_
  refine rdi (gK0 (v := .bool (A aa kk)) fun hb => by rw [hb]; rfl) ?_
  refine rdi (gK1 fun _ _ => rfl) ?_
  refine rdi (gK1 fun _ _ => rfl) ?_
  refine rdi (gK1 fun ho hc => by rw [hc, eq_of_beq ho]; exact ixn134 (X := some ⟨bm, 0, none⟩) (fun _ => rfl) hk6) ?_
  refine rdi (gK1 fun ho hc => by rw [hc, eq_of_beq ho]; exact ld136 (oM hk6).2.1) ?_
  refine rdi (gK1 fun _ _ => rfl) ?_
  refine rdi (gK1 fun ho hc => by rw [hc, eq_of_beq ho]; exact ixn136 (oM hk6).1 hb6) ?_
  refine rdi (gK1 fun ho hc => by rw [hc, eq_of_beq ho]; exact ld4 ((oM hk6).2.2 _ hb6)) ?_
  refine rdi (gK0 (v := .bool (A aa kk && M kk bb)) fun hb => by rw [hb]; exact pick_and) ?_
  refine rdi (pick_or (p := M aa bb) (c := A aa kk && M kk bb)) ?_
  refine rdi (gK0 fun _ => rfl) ?_
  refine rdi (gK0 fun _ => rfl) ?_
  refine rdi (gK0 fun hb => by rw [hb]; exact ixn134 (X := some ⟨bm, 0, none⟩) (fun _ => rfl) ha6) ?_
  refine rdi (gK0 fun hb => by rw [hb]; exact ld136 (oM ha6).2.1) ?_
  refine rdi (gK0 fun _ => rfl) ?_
  refine rdi (gK0 fun hb => by rw [hb]; exact ixn136 (oM ha6).1 hk6) ?_
  refine rdi (gK0 fun hb => by rw [hb]; exact ld4 ((oM ha6).2.2 _ hk6)) ?_
  refine rdi (gK0 (v := .bool (M aa kk)) fun hb => by rw [hb]; rfl) ?_
  refine rdi (gK1 fun _ _ => rfl) ?_
  refine rdi (gK1 fun _ _ => rfl) ?_
  refine rdi (gK1 fun ho hc => by rw [hc, eq_of_beq ho]; exact ixn134 (X := some ⟨ba, 0, none⟩) (fun _ => rfl) hk6) ?_
  refine rdi (gK1 fun ho hc => by rw [hc, eq_of_beq ho]; exact ld136 (oA hk6).2.1) ?_
  refine rdi (gK1 fun _ _ => rfl) ?_
  refine rdi (gK1 fun ho hc => by rw [hc, eq_of_beq ho]; exact ixn136 (oA hk6).1 hb6) ?_
  refine rdi (gK1 fun ho hc => by rw [hc, eq_of_beq ho]; exact ld4 ((oA hk6).2.2 _ hb6)) ?_
  refine rdi (gK0 (v := .bool (M aa kk && A kk bb)) fun hb => by rw [hb]; exact pick_and) ?_
  refine rdi (pick_or (p := (M aa bb || (A aa kk && M kk bb))) (c := M aa kk && A kk bb)) ?_
  refine rdi (ixn136 (oM ha6).1 hb6) ?_
  refine storeVV H 1 aa rfl (by decide) sz4 rfl rfl (by rw [rows2_len]; exact ha6) (by rw [vls_rows2 ha6, row2_len]; exact hb6) fun w18 H => ?_
  rw [rows2_set ha6 hb6] at H
  simp only [List.set_cons_zero, List.set_cons_succ] at H
  have H := H.drew
  clear oA oM
  have oA := fun {x : Nat} (hx : x < n) => vv_at (a := x) (H.vv 0 rfl) hx
  refine rdi (ixn134 (X := some ⟨ba, 0, none⟩) (fun _ => rfl) ha6) (rdi (ld136 (oA ha6).2.1) ?_)
  refine rdi (ixn134 (X := some ⟨ba, 0, none⟩) (fun _ => rfl) ha6) (rdi (ld136 (oA ha6).2.1) ?_)
  refine rdi (ixn136 (oA ha6).1 hb6) (rdi (ld4 ((oA ha6).2.2 _ hb6)) ?_)
  refine rdi (gK0 fun _ => rfl) ?_
  refine rdi (gK0 fun _ => rfl) ?_
  refine rdi (gK0 fun hb => by rw [hb]; exact ixn134 (X := some ⟨ba, 0, none⟩) (fun _ => rfl) ha6) ?_
  refine rdi (gK0 fun hb => by rw [hb]; exact ld136 (oA ha6).2.1) ?_
  refine rdi (gK0 fun _ => rfl) ?_
  refine rdi (gK0 fun hb => by rw [hb]; exact ixn136 (oA ha6).1 hk6) ?_
  refine rdi (gK0 fun hb => by rw [hb]; exact ld4 ((oA ha6).2.2 _ hk6)) ?_
  refine rdi (gK0 (v := .bool (A aa kk)) fun hb => by rw [hb]; rfl) ?_
  refine rdi (gK1 fun _ _ => rfl) ?_
  refine rdi (gK1 fun _ _ => rfl) ?_
  refine rdi (gK1 fun ho hc => by rw [hc, eq_of_beq ho]; exact ixn134 (X := some ⟨ba, 0, none⟩) (fun _ => rfl) hk6) ?_
  refine rdi (gK1 fun ho hc => by rw [hc, eq_of_beq ho]; exact ld136 (oA hk6).2.1) ?_
  refine rdi (gK1 fun _ _ => rfl) ?_
  refine rdi (gK1 fun ho hc => by rw [hc, eq_of_beq ho]; exact ixn136 (oA hk6).1 hb6) ?_
  refine rdi (gK1 fun ho hc => by rw [hc, eq_of_beq ho]; exact ld4 ((oA hk6).2.2 _ hb6)) ?_
  refine rdi (gK0 (v := .bool (A aa kk && A kk bb)) fun hb => by rw [hb]; exact pick_and) ?_
  refine rdi (pick_or (p := A aa bb) (c := A aa kk && A kk bb)) ?_
  refine rdi (ixn136 (oA ha6).1 hb6) ?_
  refine storeVV H 0 aa rfl (by decide) sz4 rfl rfl (by rw [rows2_len]; exact ha6) (by rw [vls_rows2 ha6, row2_len]; exact hb6) fun w19 H => ?_
  rw [rows2_set ha6 hb6] at H
  simp only [List.set_cons_zero, List.set_cons_succ] at H
  rw [i64_of (by omega) (by omega)]
  exact hN3 _ _ hb6 ⟨by omega, rfl, _, _, pa, pm, hstep, H⟩
end
end Go.Proofs.Ytegcjkhebecgbaa

/- Contracts: l3Finite, IsFinite of the reference; DrawIsFinite, DrawLeastLong. -/
set_option linter.unusedVariables false
set_option linter.unusedSimpArgs false
set_option maxRecDepth 100000
namespace Go.Proofs.Ytegcjkhebecgbaa
open Go Go.Sh Go.RowKit
section
variable {w : World} {k : Value → World → Prop} {Y : Option Addr} {cy : Nat} {gm : Gram}
open Classical in
set_option maxHeartbeats 3200000 in
theorem l3Finite_c (hG : kG Y cy gm.rules w) (hg : goodG gm = true) (hk : ∀ w', Gr w w' → k (.bool (!decide (CycB (EdR (usefulR gm.rules)) (EgR (usefulR gm.rules)) 6))) w') :
    CallK Try.prog 185 [grv gm Y cy] k w := by
  refine enter185 ?_
  unfold S185
  have hng := good_nons hg
  obtain ⟨n, hn⟩ : ∃ n : Nat, gm.nons = n := ⟨gm.nons.toNat, by omega⟩
  have H := (Kn.nil w).addG hG.1 hG.2
  refine do_box fun b1 w1 g1 hb B1 => ?_
  have H := (H.step g1).addB B1
  simp only [List.cons_append, List.nil_append] at H
  rw [ldB_agg agg26 sz26 rfl (H.get 2 rfl)]
  refine l3Useful_c (H.get 1 rfl) hg fun w2 X c g hc hR => ?_
  have H := (H.step g).addG hc (hR.mono fun _ _ => trivial)
  simp only [List.cons_append, List.nil_append] at H
  refine newG (gm := usefulG gm) H fun b2 w3 H => ?_
  simp only [List.cons_append, List.nil_append] at H
  rw [ldB_agg agg26 sz26 rfl (H.get 4 rfl)]
  refine l3Leads_c (gm := usefulG gm) (n := n) (H.get 3 rfl) (good_useful hg) hn fun w4 XA XM A M pm g hE hcm hst hp hv => ?_
  have H := H.step g
  have hF : ∀ a b, EgR (usefulG gm).rules a b → EdR (usefulG gm).rules a b := fun _ _ h => egR_edR h
  have hcyc := (hcm.cyc hE hF hst).trans (cyc_down hE (by omega : n ≤ 6)).symm
  have H := H.add (P := fun w' => Gr w4 w') fun w' g => g
  simp only [List.cons_append, List.nil_append] at H
  simp only [zq18, zq19, zq20, zq21, zq22, zq23, zq24, zq25, zq26, zq27, zq28, zq4, zq3, zq1, zq2, zq0, zq29, zq30, zq14, zq15, zq16, zq17, zq13, zq10, zq12, zq11, zq7, zq5, zq6, zq9, zq8, zq31, zq32, ite_T, ite_F, zq33, zq34, zq35, Nat.reduceEqDiff, len22, len24, fa26_0, fa26_1, fa26_2, len27, fa33_0, fa33_1, len35, fa114_0, fa114_1, fa114_2, fa124_0, fa124_1, len134]
  refine loop_to n 0 (fun i f w' => i ≤ n ∧ f 16 = .int .i64 (i : Int) ∧ (∀ a, a < i → ¬ M a a = true) ∧ Gr w4 w') ⟨Nat.zero_le _, rfl, (fun a h => by omega), Gr.refl _⟩ ?_
  rintro i f w5 N hag ⟨hi, f16, hno, g⟩ hN
  have H := H.step g
  have f5 : f 5 = .slice XM n n := hag 5 (by decide)
  have f15 : f 15 = .int .i64 (n : Int) := hag 15 (by decide)
  simp only [f5, f15, f16, zq18, zq19, zq20, zq21, zq22, zq23, zq24, zq25, zq26, zq27, zq28, zq4, zq3, zq1, zq2, zq0, zq29, zq30, zq14, zq15, zq16, zq17, zq13, zq10, zq12, zq11, zq7, zq5, zq6, zq9, zq8, zq31, zq32, ite_T, ite_F, zq33, zq34, zq35, Nat.reduceEqDiff, len22, len24, fa26_0, fa26_1, fa26_2, len27, fa33_0, fa33_1, len35, fa114_0, fa114_1, fa114_2, fa124_0, fa124_1, len134]
  by_cases hlt : i < n
  case neg =>
    simp only [show ¬ ((i : Int) < (n : Int)) from by omega, decide_false, zq18, zq19, zq20, zq21, zq22, zq23, zq24, zq25, zq26, zq27, zq28, zq4, zq3, zq1, zq2, zq0, zq29, zq30, zq14, zq15, zq16, zq17, zq13, zq10, zq12, zq11, zq7, zq5, zq6, zq9, zq8, zq31, zq32, ite_T, ite_F, zq33, zq34, zq35, Nat.reduceEqDiff, len22, len24, fa26_0, fa26_1, fa26_2, len27, fa33_0, fa33_1, len35, fa114_0, fa114_1, fa114_2, fa124_0, fa124_1, len134]
    have := hk w5 (H.get 0 rfl)
    rw [decide_eq_false] at this
    · exact this
    · intro hc
      obtain ⟨a, ha, hm⟩ := hcyc.2 hc
      exact hno a (by omega) hm
  simp only [show ((i : Int) < (n : Int)) from by omega, decide_true, zq18, zq19, zq20, zq21, zq22, zq23, zq24, zq25, zq26, zq27, zq28, zq4, zq3, zq1, zq2, zq0, zq29, zq30, zq14, zq15, zq16, zq17, zq13, zq10, zq12, zq11, zq7, zq5, zq6, zq9, zq8, zq31, zq32, ite_T, ite_F, zq33, zq34, zq35, Nat.reduceEqDiff, len22, len24, fa26_0, fa26_1, fa26_2, len27, fa33_0, fa33_1, len35, fa114_0, fa114_1, fa114_2, fa124_0, fa124_1, len134]
  obtain ⟨v1, v2, v3⟩ := hv i hlt
  refine rdi (ixn134 hp hlt) (rdi (ld136 (g.cell v2)) (rdi (ixn136 v1 hlt) (rdi (ld4 (g.cell (v3 i hlt))) ?_)))
  cases hm : M i i
  · simp only [zq18, zq19, zq20, zq21, zq22, zq23, zq24, zq25, zq26, zq27, zq28, zq4, zq3, zq1, zq2, zq0, zq29, zq30, zq14, zq15, zq16, zq17, zq13, zq10, zq12, zq11, zq7, zq5, zq6, zq9, zq8, zq31, zq32, ite_T, ite_F, zq33, zq34, zq35, Nat.reduceEqDiff, len22, len24, fa26_0, fa26_1, fa26_2, len27, fa33_0, fa33_1, len35, fa114_0, fa114_1, fa114_2, fa124_0, fa124_1, len134]
    rw [i64_of (by omega) (by omega)]
    refine hN _ _ hlt ⟨by omega, rfl, fun a ha => ?_, g⟩
    by_cases ea : a = i
    · subst ea
      rw [hm]
      decide
    · exact hno a (by omega)
  · simp only [zq18, zq19, zq20, zq21, zq22, zq23, zq24, zq25, zq26, zq27, zq28, zq4, zq3, zq1, zq2, zq0, zq29, zq30, zq14, zq15, zq16, zq17, zq13, zq10, zq12, zq11, zq7, zq5, zq6, zq9, zq8, zq31, zq32, ite_T, ite_F, zq33, zq34, zq35, Nat.reduceEqDiff, len22, len24, fa26_0, fa26_1, fa26_2, len27, fa33_0, fa33_1, len35, fa114_0, fa114_1, fa114_2, fa124_0, fa124_1, len134]
    have := hk w5 (H.get 0 rfl)
    rw [decide_eq_true] at this
    · exact this
    · exact hcyc.1 ⟨i, hlt, hm⟩
open Classical in
theorem specIsFinite_c (hG : kG Y cy gm.rules w) (hk : ∀ w', Gr w w' → k (.tuple #[.bool (finiteV gm).1, .bool (finiteV gm).2]) w') :
    CallK Try.prog 57 [grv gm Y cy] k w := by
  refine enter57 ?_
  unfold S57
  have H := (Kn.nil w).addG hG.1 hG.2
  refine do_box fun b1 w1 g1 hb B1 => ?_
  have H := (H.step g1).addB B1
  simp only [List.cons_append, List.nil_append] at H
  rw [ldB_agg agg26 sz26 rfl (H.get 2 rfl)]
  refine goodGrammar_c (gvK (H.get 1 rfl)) fun w2 g => ?_
  have H := H.step g
  cases hg : goodG gm
  · simp only [Bool.not_false, zq18, zq19, zq20, zq21, zq22, zq23, zq24, zq25, zq26, zq27, zq28, zq4, zq3, zq1, zq2, zq0, zq29, zq30, zq14, zq15, zq16, zq17, zq13, zq10, zq12, zq11, zq7, zq5, zq6, zq9, zq8, zq31, zq32, ite_T, ite_F, zq33, zq34, zq35, Nat.reduceEqDiff, len22, len24, fa26_0, fa26_1, fa26_2, len27, fa33_0, fa33_1, len35, fa114_0, fa114_1, fa114_2, fa124_0, fa124_1, len134]
    have := hk w2 (H.get 0 rfl)
    unfold finiteV at this
    rwa [hg, if_neg Bool.false_ne_true] at this
  simp only [Bool.not_true, zq18, zq19, zq20, zq21, zq22, zq23, zq24, zq25, zq26, zq27, zq28, zq4, zq3, zq1, zq2, zq0, zq29, zq30, zq14, zq15, zq16, zq17, zq13, zq10, zq12, zq11, zq7, zq5, zq6, zq9, zq8, zq31, zq32, ite_T, ite_F, zq33, zq34, zq35, Nat.reduceEqDiff, len22, len24, fa26_0, fa26_1, fa26_2, len27, fa33_0, fa33_1, len35, fa114_0, fa114_1, fa114_2, fa124_0, fa124_1, len134]
  rw [ldB_agg agg26 sz26 rfl (H.get 2 rfl)]
  refine l3Finite_c (H.get 1 rfl) hg fun w3 g => ?_
  have H := H.step g
  have := hk w3 (H.get 0 rfl)
  unfold finiteV at this
  rwa [hg, if_pos rfl] at this
end
end Go.Proofs.Ytegcjkhebecgbaa

/- Head only: steps at the head of a body that is still to be walked. -/
set_option linter.unusedVariables false
namespace Go.Proofs.Ytegcjkhebecgbaa
open Go Go.Sh Go.RowKit
section
variable {S : WS} {k : Value → Prop} {c b : Bool} {x : Int} {kd : IntKind} {t : TypeId}
theorem neq_self : Rd Try.prog S (sBin .neq t c (.int kd x) (.int kd x)) k = k (.bool false) := by rw [zq22, decide_eq_true rfl]; rfl
theorem eql_self : Rd Try.prog S (sBin .eql t c (.int kd x) (.int kd x)) k = k (.bool true) := by rw [zq21, decide_eq_true rfl]
theorem neqb_self : Rd Try.prog S (sBin .neq 4 c (.bool b) (.bool b)) k = k (.bool false) := by rw [bneq]; cases b <;> rfl
theorem eqlb_self : Rd Try.prog S (sBin .eql 4 c (.bool b) (.bool b)) k = k (.bool true) := by rw [beql]; cases b <;> rfl
end
end Go.Proofs.Ytegcjkhebecgbaa
