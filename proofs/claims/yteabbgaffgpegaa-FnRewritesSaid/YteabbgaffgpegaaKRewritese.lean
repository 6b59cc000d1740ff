/- Texts of this repository put together: Bo, ShO2, Sh8I, Ck, Sh50, ShU3, Sh53, Sh64, Sh1z, Sh8J, ShIO. -/
import Derived.Test.YteabbgaffgpegaaProg
import Derived.Test.YteabbgaffgpegaaKRewritesa
import Derived.Test.YteabbgaffgpegaaKRewritesd
import Derived.Test.YteabbgaffgpegaaKRewritesc
import Derived.Test.YteabbgaffgpegaaRows
import Derived.JoinedOf
import Derived.KernelRfl

set_option linter.unusedVariables false
set_option maxRecDepth 100000
namespace Go.Proofs.Yteabbgaffgpegaa
open Go Go.Sh

def pl59 : Plans := fun _ => ⟨false, [], .nil⟩
def S59 (v0 v1 : Value) (k : Value → World → Prop) (w : World) : Prop :=
 Do Try.prog (sBox 26 v0) (fun t1 w2 =>
 Rd Try.prog (WS.at w2) (za_ 26 t1 2) fun t3 =>
 Rd Try.prog (WS.at w2) (zd_ 24 t3) fun t4 =>
 Rd Try.prog (WS.at w2) (zc_ .len #[24] 3 [false] [t4]) fun t5 =>
 zrb_ [12, 13, 14, 15, 7, 6, 16, 17, 18, 19, 20, 21, 22, 23, 5, 24, 11] (fun Q6 f7 w8 =>
  Rd Try.prog (WS.at w8) (sBin .lss 3 false (f7 11) (f7 10)) fun t9 =>
  zm_ t9
   (Join (fun K10 =>
   Rd Try.prog (WS.at w8) (zf_ 24 (f7 9) (f7 11)) fun t13 =>
   Rd Try.prog (WS.at w8) (zd_ 106 t13) fun t14 =>
   Do Try.prog (zkb_ 106) (fun t15 w16 =>
   Do Try.prog (zab_ 106 t15 t14) (fun _ w17 =>
   Rd Try.prog (WS.at w17) (za_ 106 t15 0) fun t18 =>
   Rd Try.prog (WS.at w17) (zd_ 3 t18) fun t19 =>
   Rd Try.prog (WS.at w17) (sBin .eql 3 false t19 (f7 1)) fun t20 =>
   zm_ t20
    (Do Try.prog (zh_ 27 1 [(0, (f7 11))]) (fun t21 w22 =>
    Do Try.prog (zc_ .append #[27, 27] 27 [false, false] [(f7 5), t21]) (fun t23 w24 =>
    K10 (F.upd (F.upd (F.upd (F.upd (F.upd (F.upd (F.upd (F.upd (F.upd (F.upd (F.upd (F.upd (F.upd (F.upd (F.upd f7 12 t9) 13 (f7 11)) 14 t13) 15 t14) 7 t15) 6 (f7 11)) 16 t18) 17 t19) 18 (f7 1)) 19 t20) 20 (f7 5)) 21 (f7 11)) 22 t21) 23 t23) 5 t23) w24) w22) w17)
    (K10 (F.upd (F.upd (F.upd (F.upd (F.upd (F.upd (F.upd (F.upd (F.upd (F.upd f7 12 t9) 13 (f7 11)) 14 t13) 15 t14) 7 t15) 6 (f7 11)) 16 t18) 17 t19) 18 (f7 1)) 19 t20) w17)) w16) w8) (fun f11 w12 =>
   Rd Try.prog (WS.at w12) (sBin .add 3 true (f11 11) (.int .i64 1)) fun t25 =>
   Q6 .normal (F.upd (F.upd f11 24 t25) 11 t25) w12))
   (Q6 (.exit 0) (F.upd f7 12 t9) w8))
  (zgb_ 0 (seqQ (fun f26 w27 =>
 k (f26 5) w27) (zv_ Try.prog [.tmp 4] k)))
  (F.upd (F.upd (F.upd (F.upd (F.upd (F.upd (F.upd (zr_ [v0, v1]) 2 t1) 4 (.slice none 0 0)) 5 (.slice none 0 0)) 8 t3) 9 t4) 10 t5) 11 (.int .i64 0)) w2) w
theorem body59 : Try.f59.body = some (zi_ Try.f59) := by kernel_rfl
theorem same59 (v0 v1 : Value) (k : Value → World → Prop) (w : World) : wpF Try.prog pl59 (zi_ Try.f59) (zv_ Try.prog Try.f59.results.toList k) (zr_ [v0, v1]) w = S59 v0 v1 k w := by kernel_rfl
theorem enter59 {v0 v1 : Value} {k : Value → World → Prop} {w : World} (h : S59 v0 v1 k w) : CallK Try.prog 59 [v0, v1] k w :=
  zk_ (pl := pl59) zdb_ Try.func59 body59 (by kernel_rfl) (of_decide_eq_true (by kernel_rfl)) (by kernel_rfl) (by kernel_rfl) (Eq.mpr (same59 v0 v1 k w) h)

end Go.Proofs.Yteabbgaffgpegaa

set_option linter.unusedSimpArgs false
namespace Go.Sh
open Go
def zpc_ (rs : List RuleL) (A : Nat) (n : Nat) : List Int := ((List.range n).filter fun q => decide ((rul rs q).1 = (A : Int))).map fun q : Nat => (q : Int)
theorem rulesOf_yes {rs : List RuleL} {A n : Nat} (h : (rul rs n).1 = (A : Int)) : zpc_ rs A (n + 1) = zpc_ rs A n ++ [(n : Int)] := by
  unfold zpc_
  rw [List.range_succ, List.filter_append, List.map_append]
  simp [h]
theorem rulesOf_no {rs : List RuleL} {A n : Nat} (h : ¬ (rul rs n).1 = (A : Int)) : zpc_ rs A (n + 1) = zpc_ rs A n := by
  unfold zpc_
  rw [List.range_succ, List.filter_append, List.map_append]
  simp [h]
theorem zgi_ (rs : List RuleL) (A n : Nat) : (zpc_ rs A n).length ≤ n := by
  unfold zpc_
  rw [List.length_map]
  exact Nat.le_trans (List.length_filter_le _ _) (by simp)
end Go.Sh
namespace Go.Proofs.Yteabbgaffgpegaa
open Go Go.Sh Go.RowKit
theorem l1Rules_c {F : Nat → Prop} {w : World} {v : Value} {gm : Gram} {A : Nat} (hv : GramV F w v gm) (hg : zy_ gm = true) {k : Value → World → Prop}
    (hk : ∀ w' U d, Gr w w' → Own 3 w' w.heap.size U d (zpc_ gm.rules A gm.rules.length) → k (.slice U (zpc_ gm.rules A gm.rules.length).length d) w') :
    CallK Try.prog 59 [v, .int .i64 A] k w := by
  obtain ⟨Y, cy, rfl, hc, hy⟩ := hv
  have hr16 := zdf_ hg
  have hn6 := zde_ hg
  refine enter59 ?_
  unfold S59
  have H := Apt.nil w
  refine boxH H fun b1 w1 H => ?_
  simp only [zq18, zq19, zq20, zq21, zq22, zq23, zq24, zq25, zq26, zq27, zq28, zq4, zq3, zq1, zq2, zq0, zq29, zq30, zq14, zq15, zq16, zq17, zq13, zq10, zq12, zq11, zq7, zq5, zq6, zq9, zq8, zq31, zq32, ite_T, ite_F, zq33, zq34, zq35, len27, len24, fa26_0, fa26_1, fa26_2, fa106_0, fa106_1, fa97_0, fa97_1, Nat.reduceEqDiff]
  rw [ldB24 (H.box 0 rfl) rfl]
  simp only [zq18, zq19, zq20, zq21, zq22, zq23, zq24, zq25, zq26, zq27, zq28, zq4, zq3, zq1, zq2, zq0, zq29, zq30, zq14, zq15, zq16, zq17, zq13, zq10, zq12, zq11, zq7, zq5, zq6, zq9, zq8, zq31, zq32, ite_T, ite_F, zq33, zq34, zq35, len27, len24, fa26_0, fa26_1, fa26_2, fa106_0, fa106_1, fa97_0, fa97_1, Nat.reduceEqDiff]
  have H := H.addOwn (Gr.refl w1) (show Own 3 w1 w1.heap.size none 0 [] from Row.nil _ _ _ _)
  simp only [List.nil_append, List.cons_append] at H
  refine zad_ gm.rules.length 0 (fun q f w' => q ≤ gm.rules.length ∧ f 11 = .int .i64 q ∧ ∃ U d, f 5 = .slice U (zpc_ gm.rules A q).length d ∧ Apt w w' [bx b1 [.int .i64 gm.nons, .int .i64 gm.toks, .slice Y gm.rules.length cy] 26, ows U d (zpc_ gm.rules A q)])
    ⟨Nat.zero_le _, rfl, none, 0, rfl, H⟩ ?_
  clear H
  rintro q f w2 N hag ⟨hq, h11, U, d, h5, H⟩ hN
  have f9 : f 9 = .slice Y gm.rules.length cy := hag 9 (by decide)
  have f10 : f 10 = .int .i64 gm.rules.length := hag 10 (by decide)
  have f1 : f 1 = .int .i64 A := hag 1 (by decide)
  simp only [f9, f10, f1, h11, h5, zq18, zq19, zq20, zq21, zq22, zq23, zq24, zq25, zq26, zq27, zq28, zq4, zq3, zq1, zq2, zq0, zq29, zq30, zq14, zq15, zq16, zq17, zq13, zq10, zq12, zq11, zq7, zq5, zq6, zq9, zq8, zq31, zq32, ite_T, ite_F, zq33, zq34, zq35, len27, len24, fa26_0, fa26_1, fa26_2, fa106_0, fa106_1, fa97_0, fa97_1, Nat.reduceEqDiff]
  by_cases hlq : q < gm.rules.length
  case neg =>
    simp only [show ¬ ((q : Int) < gm.rules.length) from by omega, decide_false, go_sem, Nat.reduceEqDiff]
    obtain rfl : q = gm.rules.length := by omega
    exact hk _ U d H.gr (H.own 1 rfl)
  simp only [show ((q : Int) < gm.rules.length) from by omega, decide_true, zq18, zq19, zq20, zq21, zq22, zq23, zq24, zq25, zq26, zq27, zq28, zq4, zq3, zq1, zq2, zq0, zq29, zq30, zq14, zq15, zq16, zq17, zq13, zq10, zq12, zq11, zq7, zq5, zq6, zq9, zq8, zq31, zq32, ite_T, ite_F, zq33, zq34, zq35, len27, len24, fa26_0, fa26_1, fa26_2, fa106_0, fa106_1, fa97_0, fa97_1, Nat.reduceEqDiff]
  obtain ⟨Z, cz, t1, t2, t3, t4⟩ := hy.row q hlq
  have hleft := zue_ hg hlq
  obtain ⟨xl, hxl⟩ : ∃ x : Nat, (rul gm.rules q).1 = x := ⟨(rul gm.rules q).1.toNat, by omega⟩
  rw [hxl] at t1
  refine zed_ (fun g w' => g 11 = .int .i64 (q : Int) ∧ ∃ U d, g 5 = .slice U (zpc_ gm.rules A (q + 1)).length d ∧ Apt w w' [bx b1 [.int .i64 gm.nons, .int .i64 gm.toks, .slice Y gm.rules.length cy] 26, ows U d (zpc_ gm.rules A (q + 1))]) (fun K hK => ?_) ?_
  case refine_2 =>
    rintro g w' ⟨g11, U, d, g5, H⟩
    simp only [g11, go_sem, Nat.reduceEqDiff]
    rw [zp_ (by omega) (by omega)]
    exact hN _ _ hlq ⟨hlq, rfl, U, d, g5, H⟩
  refine rdi (zxd_ hy.ptr hlq) ?_
  rw [ld_agg zvc_ zdc_ (cs := [.int .i64 xl, .slice Z (rul gm.rules q).2.length cz]) rfl (fun j hj => by
    match j, hj with
    | 0, _ => rw [zkc_, Nat.add_zero]; exact H.gr.cell t1
    | 1, _ => rw [zkc_]; exact H.gr.cell t2)]
  refine zfd_ H zgc_ fun b3 w8 H => ?_
  refine zpb_ H 2 rfl zdc_ rfl rfl rfl fun w9 H => ?_
  simp only [List.nil_append, List.cons_append, List.set_cons_zero, List.set_cons_succ] at H
  simp only [zq18, zq19, zq20, zq21, zq22, zq23, zq24, zq25, zq26, zq27, zq28, zq4, zq3, zq1, zq2, zq0, zq29, zq30, zq14, zq15, zq16, zq17, zq13, zq10, zq12, zq11, zq7, zq5, zq6, zq9, zq8, zq31, zq32, ite_T, ite_F, zq33, zq34, zq35, len27, len24, fa26_0, fa26_1, fa26_2, fa106_0, fa106_1, fa97_0, fa97_1, Nat.reduceEqDiff]
  rw [ldB3 (H.box 2 rfl) rfl]
  have H := H.take 2
  simp only [zq18, zq19, zq20, zq21, zq22, zq23, zq24, zq25, zq26, zq27, zq28, zq4, zq3, zq1, zq2, zq0, zq29, zq30, zq14, zq15, zq16, zq17, zq13, zq10, zq12, zq11, zq7, zq5, zq6, zq9, zq8, zq31, zq32, ite_T, ite_F, zq33, zq34, zq35, len27, len24, fa26_0, fa26_1, fa26_2, fa106_0, fa106_1, fa97_0, fa97_1, Nat.reduceEqDiff]
  have hln := zgi_ gm.rules A q
  by_cases hA : xl = A
  · simp only [show ((xl : Int) = (A : Int)) from by omega, decide_true, zq18, zq19, zq20, zq21, zq22, zq23, zq24, zq25, zq26, zq27, zq28, zq4, zq3, zq1, zq2, zq0, zq29, zq30, zq14, zq15, zq16, zq17, zq13, zq10, zq12, zq11, zq7, zq5, zq6, zq9, zq8, zq31, zq32, ite_T, ite_F, zq33, zq34, zq35, len27, len24, fa26_0, fa26_1, fa26_2, fa106_0, fa106_1, fa97_0, fa97_1, Nat.reduceEqDiff]
    refine pushH H 1 rfl rfl (by omega) fun t1 U1 d1 w10 H => ?_
    have e := rulesOf_yes (rs := gm.rules) (A := A) (n := q) (by omega)
    exact hK _ _ ⟨h11, U1, d1, by rw [e]; rfl, by rw [e]; exact H⟩
  · simp only [show ¬ ((xl : Int) = (A : Int)) from by omega, decide_false, zq18, zq19, zq20, zq21, zq22, zq23, zq24, zq25, zq26, zq27, zq28, zq4, zq3, zq1, zq2, zq0, zq29, zq30, zq14, zq15, zq16, zq17, zq13, zq10, zq12, zq11, zq7, zq5, zq6, zq9, zq8, zq31, zq32, ite_T, ite_F, zq33, zq34, zq35, len27, len24, fa26_0, fa26_1, fa26_2, fa106_0, fa106_1, fa97_0, fa97_1, Nat.reduceEqDiff]
    have e := rulesOf_no (rs := gm.rules) (A := A) (n := q) (by omega)
    exact hK _ _ ⟨h11, U, d, by rw [e]; exact h5, by rw [e]; exact H⟩
section
variable {w : World} {k : Value → World → Prop} {C : Option Addr} {bs : List Int} {cap : Nat}
set_option maxHeartbeats 6400000 in
theorem zcj_ (hC : Byts w C bs) (hk : ∀ w' gm Y cy X cx rules, Gr w w' → kG Y cy gm.rules w' → kI X rules cx w' → k (.tuple #[grv gm Y cy, .slice X (List.length rules) cx]) w') :
    CallK Try.prog 14 [.slice C bs.length cap] k w := by
  refine enter14 ?_
  unfold S14
  refine draw0 fun b1 b4 w1 H => ?_
  refine any_c H hC (by omega) fun w2 gm ft Y cy hd H => ?_
  refine zfd_ H inf26 fun b8 w3 H => ?_
  refine zpb_ H 3 rfl sz26 rfl rfl rfl fun w4 H => ?_
  refine buildH H u27 inf3 (ints [0]) (by decide) (by decide) (by simp [Instr.fill, madeCells, Value.cells, rng1, ints]) rfl fun b9 w5 H => ?_
  have H := H.addNil 3 1
  simp only [List.cons_append, List.nil_append, List.set_cons_zero, List.set_cons_succ] at H
  have H : Apt w w5 [cur b4 (.slice C bs.length cap) (0 + 600), gth ft Y cy gm.rules, bx b1 zg 26, bx b8 [.int .i64 gm.nons, .int .i64 gm.toks, .slice Y gm.rules.length cy] 26, ows (some ⟨b9, 0, none⟩) 1 [0], ows none 0 []] := H
  refine zed_ (fun f w' => f 4 = ptrv b4 ∧ f 5 = ptrv b8 ∧ f 2 = ptrv b1 ∧ ∃ N2 R e, ∃ rules : List Int, f 7 = .slice R rules.length e ∧ N2 ≤ 1000 ∧ rules.length ≤ 9 ∧ Apt w w' [cur b4 (.slice C bs.length cap) N2, gth ft Y cy gm.rules, bx b1 zg 26, bx b8 [.int .i64 gm.nons, .int .i64 gm.toks, .slice Y gm.rules.length cy] 26, ows R e rules]) (fun K13 hK => ?_) ?_
  · refine zic_ H 0 rfl hC (by omega) (by omega) fun w6 m _ hm H => ?_
    have hm := hm (by omega)
    simp only [List.set_cons_zero] at H
    refine zge_ (fun o f w' => o ≤ m ∧ f 8 = .int .i64 (o : Int) ∧ ∃ N2 U d R e, ∃ form rules : List Int, f 6 = .slice U form.length d ∧ f 7 = .slice R rules.length e ∧ form.length ≤ 40 ∧ N2 ≤ 700 + (m - o) * 10 ∧ rules.length ≤ m - o ∧
        Apt w w' [cur b4 (.slice C bs.length cap) N2, gth ft Y cy gm.rules, bx b1 zg 26, bx b8 [.int .i64 gm.nons, .int .i64 gm.toks, .slice Y gm.rules.length cy] 26, ows U d form, ows R e rules]) (fun o => o) m
      ⟨Nat.le_refl _, rfl, _, _, 1, none, 0, [0], [], rfl, rfl, by decide, by omega, by simp, H⟩ ?_
    clear H
    rintro o f w7 N hag ⟨ho, f8, N2, U, d, R, e, form, rules, f6, f7, hfl, hN2, hrl, H⟩ hN
    have f2 : f 2 = ptrv b1 := hag 2 (by decide)
    have f4 : f 4 = ptrv b4 := hag 4 (by decide)
    have f5 : f 5 = ptrv b8 := hag 5 (by decide)
    simp only [f4, f5, f6, f7, f8, zq18, zq19, zq20, zq21, zq22, zq23, zq24, zq25, zq26, zq27, zq28, zq4, zq3, zq1, zq2, zq0, zq29, zq30, zq14, zq15, zq16, zq17, zq13, zq10, zq12, zq11, zq7, zq5, zq6, zq9, zq8, zq31, zq32, ite_T, ite_F, zq33, zq34, zq35, Nat.reduceEqDiff, len22, len24, fa26_0, fa26_1, fa26_2, len27, fa86_0, fa86_1, fa86_2, fa97_0, fa97_1, fa103_0, fa103_1, fa103_2, fa103_3, fa103_4, fa103_5, fa103_6, fa106_0, fa106_1]
    have out : ∀ w' N3, N3 ≤ 1000 → Apt w w' [cur b4 (.slice C bs.length cap) N3, gth ft Y cy gm.rules, bx b1 zg 26, bx b8 [.int .i64 gm.nons, .int .i64 gm.toks, .slice Y gm.rules.length cy] 26, ows U d form, ows R e rules] → ∃ N2 R e, ∃ rules' : List Int, .slice R rules.length e = Value.slice R rules'.length e ∧ f 7 = .slice R rules'.length e ∧ N2 ≤ 1000 ∧ rules'.length ≤ 9 ∧ Apt w w' [cur b4 (.slice C bs.length cap) N2, gth ft Y cy gm.rules, bx b1 zg 26, bx b8 [.int .i64 gm.nons, .int .i64 gm.toks, .slice Y gm.rules.length cy] 26, ows R e rules'] := fun w' N3 h3 H => by
      have H := H.erase 4
      simp only [List.eraseIdx_cons_zero, List.eraseIdx_cons_succ] at H
      exact ⟨N3, R, e, rules, rfl, f7, h3, by omega, H⟩
    have fin : ∀ f' w' N3, N3 ≤ 1000 → f' 4 = ptrv b4 → f' 5 = ptrv b8 → f' 2 = ptrv b1 → f' 7 = .slice R rules.length e → Apt w w' [cur b4 (.slice C bs.length cap) N3, gth ft Y cy gm.rules, bx b1 zg 26, bx b8 [.int .i64 gm.nons, .int .i64 gm.toks, .slice Y gm.rules.length cy] 26, ows U d form, ows R e rules] → K13 f' w' := fun f' w' N3 h3 e4 e5 e2 e7 H => by
      have H := H.erase 4
      simp only [List.eraseIdx_cons_zero, List.eraseIdx_cons_succ] at H
      exact hK _ _ ⟨e4, e5, e2, N3, R, e, rules, e7, h3, by omega, H⟩
    clear out
    by_cases ho0 : 0 < o
    case neg =>
      simp only [show ¬ ((0 : Int) < (o : Int)) from by omega, decide_false, zq18, zq19, zq20, zq21, zq22, zq23, zq24, zq25, zq26, zq27, zq28, zq4, zq3, zq1, zq2, zq0, zq29, zq30, zq14, zq15, zq16, zq17, zq13, zq10, zq12, zq11, zq7, zq5, zq6, zq9, zq8, zq31, zq32, ite_T, ite_F, zq33, zq34, zq35, Nat.reduceEqDiff, len22, len24, fa26_0, fa26_1, fa26_2, len27, fa86_0, fa86_1, fa86_2, fa97_0, fa97_1, fa103_0, fa103_1, fa103_2, fa103_3, fa103_4, fa103_5, fa103_6, fa106_0, fa106_1]
      exact fin _ _ N2 (by omega) f4 f5 f2 f7 H
    simp only [show ((0 : Int) < (o : Int)) from by omega, decide_true, zq18, zq19, zq20, zq21, zq22, zq23, zq24, zq25, zq26, zq27, zq28, zq4, zq3, zq1, zq2, zq0, zq29, zq30, zq14, zq15, zq16, zq17, zq13, zq10, zq12, zq11, zq7, zq5, zq6, zq9, zq8, zq31, zq32, ite_T, ite_F, zq33, zq34, zq35, Nat.reduceEqDiff, len22, len24, fa26_0, fa26_1, fa26_2, len27, fa86_0, fa86_1, fa86_2, fa97_0, fa97_1, fa103_0, fa103_1, fa103_2, fa103_3, fa103_4, fa103_5, fa103_6, fa106_0, fa106_1]
    rw [zfb_ zyb_ sz26 rfl (H.box 3 rfl)]
    refine zkf_ (gvK (gowK (H.gow 1 rfl))) fun w8 g => ?_
    have H := H.step g
    cases hg : zy_ gm
    · simp only [zq18, zq19, zq20, zq21, zq22, zq23, zq24, zq25, zq26, zq27, zq28, zq4, zq3, zq1, zq2, zq0, zq29, zq30, zq14, zq15, zq16, zq17, zq13, zq10, zq12, zq11, zq7, zq5, zq6, zq9, zq8, zq31, zq32, ite_T, ite_F, zq33, zq34, zq35, Nat.reduceEqDiff, len22, len24, fa26_0, fa26_1, fa26_2, len27, fa86_0, fa86_1, fa86_2, fa97_0, fa97_1, fa103_0, fa103_1, fa103_2, fa103_3, fa103_4, fa103_5, fa103_6, fa106_0, fa106_1]
      exact fin _ _ N2 (by omega) f4 f5 f2 f7 H
    have hgr := zkh_ hg
    have hgl := zdf_ hg
    simp only [f6, zq18, zq19, zq20, zq21, zq22, zq23, zq24, zq25, zq26, zq27, zq28, zq4, zq3, zq1, zq2, zq0, zq29, zq30, zq14, zq15, zq16, zq17, zq13, zq10, zq12, zq11, zq7, zq5, zq6, zq9, zq8, zq31, zq32, ite_T, ite_F, zq33, zq34, zq35, Nat.reduceEqDiff, len22, len24, fa26_0, fa26_1, fa26_2, len27, fa86_0, fa86_1, fa86_2, fa97_0, fa97_1, fa103_0, fa103_1, fa103_2, fa103_3, fa103_4, fa103_5, fa103_6, fa106_0, fa106_1]
    refine zcm_ (H.ints 4 rfl) fun w9 g => ?_
    have H := H.step g
    simp only [zq18, zq19, zq20, zq21, zq22, zq23, zq24, zq25, zq26, zq27, zq28, zq4, zq3, zq1, zq2, zq0, zq29, zq30, zq14, zq15, zq16, zq17, zq13, zq10, zq12, zq11, zq7, zq5, zq6, zq9, zq8, zq31, zq32, ite_T, ite_F, zq33, zq34, zq35, Nat.reduceEqDiff, len22, len24, fa26_0, fa26_1, fa26_2, len27, fa86_0, fa86_1, fa86_2, fa97_0, fa97_1, fa103_0, fa103_1, fa103_2, fa103_3, fa103_4, fa103_5, fa103_6, fa106_0, fa106_1]
    by_cases hneg : zib_ form < 0
    · simp only [hneg, decide_true, zq18, zq19, zq20, zq21, zq22, zq23, zq24, zq25, zq26, zq27, zq28, zq4, zq3, zq1, zq2, zq0, zq29, zq30, zq14, zq15, zq16, zq17, zq13, zq10, zq12, zq11, zq7, zq5, zq6, zq9, zq8, zq31, zq32, ite_T, ite_F, zq33, zq34, zq35, Nat.reduceEqDiff, len22, len24, fa26_0, fa26_1, fa26_2, len27, fa86_0, fa86_1, fa86_2, fa97_0, fa97_1, fa103_0, fa103_1, fa103_2, fa103_3, fa103_4, fa103_5, fa103_6, fa106_0, fa106_1]
      exact fin _ _ N2 (by omega) f4 f5 f2 f7 H
    simp only [hneg, decide_false, f4, f5, f6, f7, zq18, zq19, zq20, zq21, zq22, zq23, zq24, zq25, zq26, zq27, zq28, zq4, zq3, zq1, zq2, zq0, zq29, zq30, zq14, zq15, zq16, zq17, zq13, zq10, zq12, zq11, zq7, zq5, zq6, zq9, zq8, zq31, zq32, ite_T, ite_F, zq33, zq34, zq35, Nat.reduceEqDiff, len22, len24, fa26_0, fa26_1, fa26_2, len27, fa86_0, fa86_1, fa86_2, fa97_0, fa97_1, fa103_0, fa103_1, fa103_2, fa103_3, fa103_4, fa103_5, fa103_6, fa106_0, fa106_1]
    obtain ⟨q1, q2, q3⟩ := zrh_ (xs := form) (by omega)
    have H := H.drew
    rw [zfb_ zyb_ sz26 rfl (H.box 3 rfl)]
    have hF := H.ints 4 rfl
    rw [show zib_ form = (((zib_ form).toNat : Nat) : Int) from by omega, zac_ hF.ptr q1, ld3 (hF.cell _ q1)]
    rw [show form.getD (zib_ form).toNat 0 = (((form.getD (zib_ form).toNat 0).toNat : Nat) : Int) from by omega]
    refine l1Rules_c (gm := gm) (gvK (gowK (H.gow 1 rfl))) hg fun w10 V c g o10 => ?_
    have hll := zgi_ gm.rules (form.getD (zib_ form).toNat 0).toNat gm.rules.length
    generalize hrr : zpc_ gm.rules (form.getD (zib_ form).toNat 0).toNat gm.rules.length = l at *
    have H := H.addOwn g o10
    simp only [List.cons_append, List.nil_append] at H
    simp only [zq18, zq19, zq20, zq21, zq22, zq23, zq24, zq25, zq26, zq27, zq28, zq4, zq3, zq1, zq2, zq0, zq29, zq30, zq14, zq15, zq16, zq17, zq13, zq10, zq12, zq11, zq7, zq5, zq6, zq9, zq8, zq31, zq32, ite_T, ite_F, zq33, zq34, zq35, Nat.reduceEqDiff, len22, len24, fa26_0, fa26_1, fa26_2, len27, fa86_0, fa86_1, fa86_2, fa97_0, fa97_1, fa103_0, fa103_1, fa103_2, fa103_3, fa103_4, fa103_5, fa103_6, fa106_0, fa106_1]
    by_cases hl0 : (l.length : Int) = 0
    · simp only [hl0, decide_true, zq18, zq19, zq20, zq21, zq22, zq23, zq24, zq25, zq26, zq27, zq28, zq4, zq3, zq1, zq2, zq0, zq29, zq30, zq14, zq15, zq16, zq17, zq13, zq10, zq12, zq11, zq7, zq5, zq6, zq9, zq8, zq31, zq32, ite_T, ite_F, zq33, zq34, zq35, Nat.reduceEqDiff, len22, len24, fa26_0, fa26_1, fa26_2, len27, fa86_0, fa86_1, fa86_2, fa97_0, fa97_1, fa103_0, fa103_1, fa103_2, fa103_3, fa103_4, fa103_5, fa103_6, fa106_0, fa106_1]
      have H := H.erase 6
      simp only [List.eraseIdx_cons_zero, List.eraseIdx_cons_succ] at H
      exact fin _ _ N2 (by omega) f4 f5 f2 f7 H
    simp only [hl0, decide_false, f4, f5, f6, f7, zq18, zq19, zq20, zq21, zq22, zq23, zq24, zq25, zq26, zq27, zq28, zq4, zq3, zq1, zq2, zq0, zq29, zq30, zq14, zq15, zq16, zq17, zq13, zq10, zq12, zq11, zq7, zq5, zq6, zq9, zq8, zq31, zq32, ite_T, ite_F, zq33, zq34, zq35, Nat.reduceEqDiff, len22, len24, fa26_0, fa26_1, fa26_2, len27, fa86_0, fa86_1, fa86_2, fa97_0, fa97_1, fa103_0, fa103_1, fa103_2, fa103_3, fa103_4, fa103_5, fa103_6, fa106_0, fa106_1]
    refine zic_ H 0 rfl hC (by omega) (by omega) fun w11 v hv0 hv1 H => ?_
    simp only [List.set_cons_zero] at H
    have hv : v < l.length := by
      by_cases h1 : (l.length : Int) ≤ 1
      · have := hv0 h1
        omega
      · have := hv1 (by omega)
        omega
    have hL := H.ints 6 rfl
    rw [zac_ hL.ptr hv, ld3 (hL.cell v hv)]
    rw [zfb_ zyb_ sz26 rfl (H.box 3 rfl)]
    refine zje_ (gowK (H.gow 1 rfl)) ⟨H.ints 4 rfl, (H.row 4 rfl).cap.1⟩ (by omega) fun w12 V2 c2 g o12 => ?_
    have hlen := zig_ (gm := gm) (form := form) (a := (((zib_ form).toNat : Nat) : Int)) (rule := l.getD v 0)
    generalize hst : zvb_ gm form (((zib_ form).toNat : Nat) : Int) (l.getD v 0) = st at *
    have H := H.addOwn g o12
    simp only [List.cons_append, List.nil_append] at H
    simp only [zq18, zq19, zq20, zq21, zq22, zq23, zq24, zq25, zq26, zq27, zq28, zq4, zq3, zq1, zq2, zq0, zq29, zq30, zq14, zq15, zq16, zq17, zq13, zq10, zq12, zq11, zq7, zq5, zq6, zq9, zq8, zq31, zq32, ite_T, ite_F, zq33, zq34, zq35, Nat.reduceEqDiff, len22, len24, fa26_0, fa26_1, fa26_2, len27, fa86_0, fa86_1, fa86_2, fa97_0, fa97_1, fa103_0, fa103_1, fa103_2, fa103_3, fa103_4, fa103_5, fa103_6, fa106_0, fa106_1]
    cases hok : st.2
    · simp only [Bool.not_false, zq18, zq19, zq20, zq21, zq22, zq23, zq24, zq25, zq26, zq27, zq28, zq4, zq3, zq1, zq2, zq0, zq29, zq30, zq14, zq15, zq16, zq17, zq13, zq10, zq12, zq11, zq7, zq5, zq6, zq9, zq8, zq31, zq32, ite_T, ite_F, zq33, zq34, zq35, Nat.reduceEqDiff, len22, len24, fa26_0, fa26_1, fa26_2, len27, fa86_0, fa86_1, fa86_2, fa97_0, fa97_1, fa103_0, fa103_1, fa103_2, fa103_3, fa103_4, fa103_5, fa103_6, fa106_0, fa106_1]
      have H := (H.erase 7).erase 6
      simp only [List.eraseIdx_cons_zero, List.eraseIdx_cons_succ] at H
      exact fin _ _ _ (by omega) f4 f5 f2 f7 H
    simp only [Bool.not_true, f7, f8, zq18, zq19, zq20, zq21, zq22, zq23, zq24, zq25, zq26, zq27, zq28, zq4, zq3, zq1, zq2, zq0, zq29, zq30, zq14, zq15, zq16, zq17, zq13, zq10, zq12, zq11, zq7, zq5, zq6, zq9, zq8, zq31, zq32, ite_T, ite_F, zq33, zq34, zq35, Nat.reduceEqDiff, len22, len24, fa26_0, fa26_1, fa26_2, len27, fa86_0, fa86_1, fa86_2, fa97_0, fa97_1, fa103_0, fa103_1, fa103_2, fa103_3, fa103_4, fa103_5, fa103_6, fa106_0, fa106_1]
    refine pushH H 5 rfl rfl (by omega) fun t R2 e2 w13 H => ?_
    simp only [List.set_cons_zero, List.set_cons_succ] at H
    have H := (Apt.insert (L := [cur b4 (.slice C bs.length cap) (N2 + 2), gth ft Y cy gm.rules, bx b1 zg 26, bx b8 [.int .i64 gm.nons, .int .i64 gm.toks, .slice Y gm.rules.length cy] 26, ows U d form, ows R2 e2 (rules ++ [l.getD v 0]), ows V c l]) H 4)
    simp only [List.cons_append, List.take_succ_cons, List.take_zero, List.drop_succ_cons, List.drop_zero, List.nil_append] at H
    have H := (H.erase 7).erase 5
    simp only [List.eraseIdx_cons_zero, List.eraseIdx_cons_succ] at H
    rw [zp_ (by omega) (by omega)]
    refine hN (o - 1) _ _ ⟨by omega, ?_, N2 + 2, V2, c2, R2, e2, st.1, rules ++ [l.getD v 0], rfl, rfl, hlen, by omega, by simp; omega, H⟩ (by omega)
    show Value.int .i64 ((o : Int) - 1) = _
    rw [show (o : Int) - 1 = ((o - 1 : Nat) : Int) from by omega]
  clear H
  rintro f w6 ⟨f4, f5, f2, N2, R, e, rules, f7, hN2, hrl, H⟩
  refine zed_ (fun f w' => f 5 = ptrv b8 ∧ f 2 = ptrv b1 ∧ ∃ N2 R e, ∃ rules : List Int, f 7 = .slice R rules.length e ∧ Apt w w' [cur b4 (.slice C bs.length cap) N2, gth ft Y cy gm.rules, bx b1 zg 26, bx b8 [.int .i64 gm.nons, .int .i64 gm.toks, .slice Y gm.rules.length cy] 26, ows R e rules]) (fun K hK => ?_) ?_
  · simp only [f4, f7, zq18, zq19, zq20, zq21, zq22, zq23, zq24, zq25, zq26, zq27, zq28, zq4, zq3, zq1, zq2, zq0, zq29, zq30, zq14, zq15, zq16, zq17, zq13, zq10, zq12, zq11, zq7, zq5, zq6, zq9, zq8, zq31, zq32, ite_T, ite_F, zq33, zq34, zq35, Nat.reduceEqDiff, len22, len24, fa26_0, fa26_1, fa26_2, len27, fa86_0, fa86_1, fa86_2, fa97_0, fa97_1, fa103_0, fa103_1, fa103_2, fa103_3, fa103_4, fa103_5, fa103_6, fa106_0, fa106_1]
    refine one_c H 0 rfl hC (by omega) (by omega) fun w7 b H => ?_
    simp only [List.set_cons_zero] at H
    cases b
    · simp only [zq18, zq19, zq20, zq21, zq22, zq23, zq24, zq25, zq26, zq27, zq28, zq4, zq3, zq1, zq2, zq0, zq29, zq30, zq14, zq15, zq16, zq17, zq13, zq10, zq12, zq11, zq7, zq5, zq6, zq9, zq8, zq31, zq32, ite_T, ite_F, zq33, zq34, zq35, Nat.reduceEqDiff, len22, len24, fa26_0, fa26_1, fa26_2, len27, fa86_0, fa86_1, fa86_2, fa97_0, fa97_1, fa103_0, fa103_1, fa103_2, fa103_3, fa103_4, fa103_5, fa103_6, fa106_0, fa106_1]
      exact hK _ _ ⟨f5, f2, _, R, e, rules, f7, H⟩
    · simp only [f4, f7, zq18, zq19, zq20, zq21, zq22, zq23, zq24, zq25, zq26, zq27, zq28, zq4, zq3, zq1, zq2, zq0, zq29, zq30, zq14, zq15, zq16, zq17, zq13, zq10, zq12, zq11, zq7, zq5, zq6, zq9, zq8, zq31, zq32, ite_T, ite_F, zq33, zq34, zq35, Nat.reduceEqDiff, len22, len24, fa26_0, fa26_1, fa26_2, len27, fa86_0, fa86_1, fa86_2, fa97_0, fa97_1, fa103_0, fa103_1, fa103_2, fa103_3, fa103_4, fa103_5, fa103_6, fa106_0, fa106_1]
      refine zic_ H 0 rfl hC (by omega) (by omega) fun w8 v _ hv H => ?_
      have hv := hv (by omega)
      simp only [List.set_cons_zero] at H
      simp only [zq18, zq19, zq20, zq21, zq22, zq23, zq24, zq25, zq26, zq27, zq28, zq4, zq3, zq1, zq2, zq0, zq29, zq30, zq14, zq15, zq16, zq17, zq13, zq10, zq12, zq11, zq7, zq5, zq6, zq9, zq8, zq31, zq32, ite_T, ite_F, zq33, zq34, zq35, Nat.reduceEqDiff, len22, len24, fa26_0, fa26_1, fa26_2, len27, fa86_0, fa86_1, fa86_2, fa97_0, fa97_1, fa103_0, fa103_1, fa103_2, fa103_3, fa103_4, fa103_5, fa103_6, fa106_0, fa106_1]
      rw [zp_ (by omega) (by omega)]
      refine pushH H 4 rfl rfl (by omega) fun t R2 e2 w13 H => ?_
      simp only [List.set_cons_zero, List.set_cons_succ] at H
      exact hK _ _ ⟨f5, f2, _, R2, e2, _, rfl, H⟩
  clear H
  rintro f w7 ⟨f5, f2, N2, R, e, rules, f7, H⟩
  simp only [f5, f2, f7, zq18, zq19, zq20, zq21, zq22, zq23, zq24, zq25, zq26, zq27, zq28, zq4, zq3, zq1, zq2, zq0, zq29, zq30, zq14, zq15, zq16, zq17, zq13, zq10, zq12, zq11, zq7, zq5, zq6, zq9, zq8, zq31, zq32, ite_T, ite_F, zq33, zq34, zq35, Nat.reduceEqDiff, len22, len24, fa26_0, fa26_1, fa26_2, len27, fa86_0, fa86_1, fa86_2, fa97_0, fa97_1, fa103_0, fa103_1, fa103_2, fa103_3, fa103_4, fa103_5, fa103_6, fa106_0, fa106_1]
  rw [zfb_ zyb_ sz26 rfl (H.box 3 rfl)]
  refine zpb_ H 2 rfl sz26 rfl rfl rfl fun w8 H => ?_
  simp only [List.set_cons_zero, List.set_cons_succ] at H
  rw [zfe_, zfb_ zyb_ sz26 rfl (H.box 2 rfl)]
  exact hk w8 gm Y cy R e rules H.gr (gowK (H.gow 1 rfl)) ⟨H.ints 4 rfl, (H.row 4 rfl).cap.1⟩
set_option maxHeartbeats 6400000 in
theorem zdj_ (hC : Byts w C bs) (hk : ∀ w' gm Y cy U d form (a b : Int), Gr w w' → kG Y cy gm.rules w' → kI U form d w' → form.length ≤ 40 → k (.tuple #[grv gm Y cy, .slice U (List.length form) d, .int .i64 a, .int .i64 b]) w') :
    CallK Try.prog 19 [.slice C bs.length cap] k w := by
  refine enter19 ?_
  unfold S19
  refine draw0 fun b1 b4 w1 H => ?_
  refine any_c H hC (by omega) fun w2 gm ft Y cy hd H => ?_
  refine zfd_ H inf26 fun b8 w3 H => ?_
  refine zpb_ H 3 rfl sz26 rfl rfl rfl fun w4 H => ?_
  refine buildH H u27 inf3 (ints [0]) (by decide) (by decide) (by simp [Instr.fill, madeCells, Value.cells, rng1, ints]) rfl fun b9 w5 H => ?_
  have H := H.addNil 3 1
  simp only [List.cons_append, List.nil_append, List.set_cons_zero, List.set_cons_succ] at H
  have H := H.erase 5
  simp only [List.eraseIdx_cons_zero, List.eraseIdx_cons_succ] at H
  have H : Apt w w5 [cur b4 (.slice C bs.length cap) (0 + 600), gth ft Y cy gm.rules, bx b1 zg 26, bx b8 [.int .i64 gm.nons, .int .i64 gm.toks, .slice Y gm.rules.length cy] 26, ows (some ⟨b9, 0, none⟩) 1 [0]] := H
  have hrl := hd.few
  have hr0 := hd.some
  refine zic_ H 0 rfl hC (by omega) (by omega) fun w6 m _ hm H => ?_
  have hm := hm (by omega)
  simp only [List.set_cons_zero] at H
  refine zge_ (fun o f w' => o ≤ m ∧ f 9 = .int .i64 (o : Int) ∧ ∃ N2 U d, ∃ form : List Int, f 8 = .slice U form.length d ∧ form.length ≤ 40 ∧ N2 ≤ 700 + (m - o) * 10 ∧
      Apt w w' [cur b4 (.slice C bs.length cap) N2, gth ft Y cy gm.rules, bx b1 zg 26, bx b8 [.int .i64 gm.nons, .int .i64 gm.toks, .slice Y gm.rules.length cy] 26, ows U d form]) (fun o => o) m
    ⟨Nat.le_refl _, rfl, _, _, 1, [0], rfl, by decide, by omega, H⟩ ?_
  clear H
  rintro o f w7 N hag ⟨ho, f9, N2, U, d, form, f8, hfl, hN2, H⟩ hN
  have f2 : f 2 = ptrv b1 := hag 2 (by decide)
  have f6 : f 6 = ptrv b4 := hag 6 (by decide)
  have f7 : f 7 = ptrv b8 := hag 7 (by decide)
  simp only [f9, zq18, zq19, zq20, zq21, zq22, zq23, zq24, zq25, zq26, zq27, zq28, zq4, zq3, zq1, zq2, zq0, zq29, zq30, zq14, zq15, zq16, zq17, zq13, zq10, zq12, zq11, zq7, zq5, zq6, zq9, zq8, zq31, zq32, ite_T, ite_F, zq33, zq34, zq35, Nat.reduceEqDiff, len22, len24, fa26_0, fa26_1, fa26_2, len27, fa86_0, fa86_1, fa86_2, fa97_0, fa97_1, fa103_0, fa103_1, fa103_2, fa103_3, fa103_4, fa103_5, fa103_6, fa106_0, fa106_1]
  by_cases ho0 : 0 < o
  case neg =>
    simp only [show ¬ ((0 : Int) < (o : Int)) from by omega, decide_false, zq18, zq19, zq20, zq21, zq22, zq23, zq24, zq25, zq26, zq27, zq28, zq4, zq3, zq1, zq2, zq0, zq29, zq30, zq14, zq15, zq16, zq17, zq13, zq10, zq12, zq11, zq7, zq5, zq6, zq9, zq8, zq31, zq32, ite_T, ite_F, zq33, zq34, zq35, Nat.reduceEqDiff, len22, len24, fa26_0, fa26_1, fa26_2, len27, fa86_0, fa86_1, fa86_2, fa97_0, fa97_1, fa103_0, fa103_1, fa103_2, fa103_3, fa103_4, fa103_5, fa103_6, fa106_0, fa106_1]
    simp only [f2, f6, f7, f8, zq18, zq19, zq20, zq21, zq22, zq23, zq24, zq25, zq26, zq27, zq28, zq4, zq3, zq1, zq2, zq0, zq29, zq30, zq14, zq15, zq16, zq17, zq13, zq10, zq12, zq11, zq7, zq5, zq6, zq9, zq8, zq31, zq32, ite_T, ite_F, zq33, zq34, zq35, Nat.reduceEqDiff, len22, len24, fa26_0, fa26_1, fa26_2, len27, fa86_0, fa86_1, fa86_2, fa97_0, fa97_1, fa103_0, fa103_1, fa103_2, fa103_3, fa103_4, fa103_5, fa103_6, fa106_0, fa106_1]
    have H := H.drew
    refine ⟨fun w' => Box w' b8 [.int .i64 gm.nons, .int .i64 gm.toks, .slice Y gm.rules.length cy] 26, H.box 3 rfl, ?_⟩
    refine rdi (rdS26 rfl fun w' h => h) ?_
    repeat (first | refine rdi neq_self ?_ | refine rdi neqb_self ?_ | refine rdi eql_self ?_ | refine rdi eqlb_self ?_ | refine rdi zq1 ?_ | refine rdi zq2 ?_ | refine rdi zq13 ?_ | refine rdi zq14 ?_ | refine rdi zq16 ?_ | refine rdi zq15 ?_ | refine rdi zq17 ?_ | refine rdi zq4 ?_ | refine rdi zq3 ?_ | refine rdi zq27 ?_ | refine rdi bneq ?_ | refine rdi beql ?_ | refine rdi zq29 ?_ | refine rdi zq30 ?_ | refine rdi zq21 ?_ | refine rdi zq22 ?_ | refine rdi zq23 ?_ | refine rdi zq24 ?_ | refine rdi zq25 ?_ | refine rdi zq26 ?_ | refine rdi len27 ?_ | refine rdi len35 ?_)
    rw [zp_ (by omega) (by omega)]
    repeat (first | refine rdi neq_self ?_ | refine rdi neqb_self ?_ | refine rdi eql_self ?_ | refine rdi eqlb_self ?_ | refine rdi zq1 ?_ | refine rdi zq2 ?_ | refine rdi zq13 ?_ | refine rdi zq14 ?_ | refine rdi zq16 ?_ | refine rdi zq15 ?_ | refine rdi zq17 ?_ | refine rdi zq4 ?_ | refine rdi zq3 ?_ | refine rdi zq27 ?_ | refine rdi bneq ?_ | refine rdi beql ?_ | refine rdi zq29 ?_ | refine rdi zq30 ?_ | refine rdi zq21 ?_ | refine rdi zq22 ?_ | refine rdi zq23 ?_ | refine rdi zq24 ?_ | refine rdi zq25 ?_ | refine rdi zq26 ?_ | refine rdi len27 ?_ | refine rdi len35 ?_)
    refine rdi (ldS24 (v := .slice Y gm.rules.length cy) fun w' h => (Box.cell h 2).trans rfl) ?_
    refine rdi len24 ?_
    refine rdi zq18 ?_
    rw [zp_ (by omega) (by omega)]
    refine zic_ H 0 rfl hC (by omega) (by omega) fun w8 a _ _ H => ?_
    simp only [List.set_cons_zero] at H
    refine ⟨H.box 3 rfl, ?_⟩
    refine zic_ H 0 rfl hC (by omega) (by omega) fun w9 b _ _ H => ?_
    simp only [List.set_cons_zero] at H
    refine ⟨H.box 3 rfl, ?_⟩
    refine zpb_ H 2 rfl sz26 rfl rfl rfl fun w10 H => ?_
    simp only [List.set_cons_zero, List.set_cons_succ] at H
    rw [zfe_, zfb_ zyb_ sz26 rfl (H.box 2 rfl)]
    exact hk w10 gm Y cy U d form _ _ H.gr (gowK (H.gow 1 rfl)) ⟨H.ints 4 rfl, (H.row 4 rfl).cap.1⟩ hfl
  simp only [show ((0 : Int) < (o : Int)) from by omega, decide_true, zq18, zq19, zq20, zq21, zq22, zq23, zq24, zq25, zq26, zq27, zq28, zq4, zq3, zq1, zq2, zq0, zq29, zq30, zq14, zq15, zq16, zq17, zq13, zq10, zq12, zq11, zq7, zq5, zq6, zq9, zq8, zq31, zq32, ite_T, ite_F, zq33, zq34, zq35, Nat.reduceEqDiff, len22, len24, fa26_0, fa26_1, fa26_2, len27, fa86_0, fa86_1, fa86_2, fa97_0, fa97_1, fa103_0, fa103_1, fa103_2, fa103_3, fa103_4, fa103_5, fa103_6, fa106_0, fa106_1]
  simp only [f2, f6, f7, f8, zq18, zq19, zq20, zq21, zq22, zq23, zq24, zq25, zq26, zq27, zq28, zq4, zq3, zq1, zq2, zq0, zq29, zq30, zq14, zq15, zq16, zq17, zq13, zq10, zq12, zq11, zq7, zq5, zq6, zq9, zq8, zq31, zq32, ite_T, ite_F, zq33, zq34, zq35, Nat.reduceEqDiff, len22, len24, fa26_0, fa26_1, fa26_2, len27, fa86_0, fa86_1, fa86_2, fa97_0, fa97_1, fa103_0, fa103_1, fa103_2, fa103_3, fa103_4, fa103_5, fa103_6, fa106_0, fa106_1]
  refine rdi (ldS24 (v := .slice Y gm.rules.length cy) fun w' h => by cases h; exact ((H.box 3 rfl).cell 2).trans rfl) ?_
  refine rdi len24 ?_
  repeat (first | refine rdi neq_self ?_ | refine rdi neqb_self ?_ | refine rdi eql_self ?_ | refine rdi eqlb_self ?_ | refine rdi zq1 ?_ | refine rdi zq2 ?_ | refine rdi zq13 ?_ | refine rdi zq14 ?_ | refine rdi zq16 ?_ | refine rdi zq15 ?_ | refine rdi zq17 ?_ | refine rdi zq4 ?_ | refine rdi zq3 ?_ | refine rdi zq27 ?_ | refine rdi bneq ?_ | refine rdi beql ?_ | refine rdi zq29 ?_ | refine rdi zq30 ?_ | refine rdi zq21 ?_ | refine rdi zq22 ?_ | refine rdi zq23 ?_ | refine rdi zq24 ?_ | refine rdi zq25 ?_ | refine rdi zq26 ?_ | refine rdi len27 ?_ | refine rdi len35 ?_)
  rw [decide_eq_true (show (0 : Int) < (gm.rules.length : Int) by omega)]
  repeat (first | refine rdi neq_self ?_ | refine rdi neqb_self ?_ | refine rdi eql_self ?_ | refine rdi eqlb_self ?_ | refine rdi zq1 ?_ | refine rdi zq2 ?_ | refine rdi zq13 ?_ | refine rdi zq14 ?_ | refine rdi zq16 ?_ | refine rdi zq15 ?_ | refine rdi zq17 ?_ | refine rdi zq4 ?_ | refine rdi zq3 ?_ | refine rdi zq27 ?_ | refine rdi bneq ?_ | refine rdi beql ?_ | refine rdi zq29 ?_ | refine rdi zq30 ?_ | refine rdi zq21 ?_ | refine rdi zq22 ?_ | refine rdi zq23 ?_ | refine rdi zq24 ?_ | refine rdi zq25 ?_ | refine rdi zq26 ?_ | refine rdi len27 ?_ | refine rdi len35 ?_)
  have H := H.drew
  refine ⟨fun w' => Box w' b8 [.int .i64 gm.nons, .int .i64 gm.toks, .slice Y gm.rules.length cy] 26, H.box 3 rfl, ?_⟩
  refine rdi (rdS26 rfl fun w' h => h) ?_
  repeat (first | refine rdi neq_self ?_ | refine rdi neqb_self ?_ | refine rdi eql_self ?_ | refine rdi eqlb_self ?_ | refine rdi zq1 ?_ | refine rdi zq2 ?_ | refine rdi zq13 ?_ | refine rdi zq14 ?_ | refine rdi zq16 ?_ | refine rdi zq15 ?_ | refine rdi zq17 ?_ | refine rdi zq4 ?_ | refine rdi zq3 ?_ | refine rdi zq27 ?_ | refine rdi bneq ?_ | refine rdi beql ?_ | refine rdi zq29 ?_ | refine rdi zq30 ?_ | refine rdi zq21 ?_ | refine rdi zq22 ?_ | refine rdi zq23 ?_ | refine rdi zq24 ?_ | refine rdi zq25 ?_ | refine rdi zq26 ?_ | refine rdi len27 ?_ | refine rdi len35 ?_)
  rw [zp_ (by omega) (by omega)]
  repeat (first | refine rdi neq_self ?_ | refine rdi neqb_self ?_ | refine rdi eql_self ?_ | refine rdi eqlb_self ?_ | refine rdi zq1 ?_ | refine rdi zq2 ?_ | refine rdi zq13 ?_ | refine rdi zq14 ?_ | refine rdi zq16 ?_ | refine rdi zq15 ?_ | refine rdi zq17 ?_ | refine rdi zq4 ?_ | refine rdi zq3 ?_ | refine rdi zq27 ?_ | refine rdi bneq ?_ | refine rdi beql ?_ | refine rdi zq29 ?_ | refine rdi zq30 ?_ | refine rdi zq21 ?_ | refine rdi zq22 ?_ | refine rdi zq23 ?_ | refine rdi zq24 ?_ | refine rdi zq25 ?_ | refine rdi zq26 ?_ | refine rdi len27 ?_ | refine rdi len35 ?_)
  refine rdi (ldS24 (v := .slice Y gm.rules.length cy) fun w' h => (Box.cell h 2).trans rfl) ?_
  refine rdi len24 ?_
  repeat (first | refine rdi neq_self ?_ | refine rdi neqb_self ?_ | refine rdi eql_self ?_ | refine rdi eqlb_self ?_ | refine rdi zq1 ?_ | refine rdi zq2 ?_ | refine rdi zq13 ?_ | refine rdi zq14 ?_ | refine rdi zq16 ?_ | refine rdi zq15 ?_ | refine rdi zq17 ?_ | refine rdi zq4 ?_ | refine rdi zq3 ?_ | refine rdi zq27 ?_ | refine rdi bneq ?_ | refine rdi beql ?_ | refine rdi zq29 ?_ | refine rdi zq30 ?_ | refine rdi zq21 ?_ | refine rdi zq22 ?_ | refine rdi zq23 ?_ | refine rdi zq24 ?_ | refine rdi zq25 ?_ | refine rdi zq26 ?_ | refine rdi len27 ?_ | refine rdi len35 ?_)
  refine zic_ H 0 rfl hC (by omega) (by omega) fun w8 a _ _ H => ?_
  simp only [List.set_cons_zero] at H
  refine ⟨H.box 3 rfl, ?_⟩
  refine zic_ H 0 rfl hC (by omega) (by omega) fun w9 b _ _ H => ?_
  simp only [List.set_cons_zero] at H
  refine ⟨H.box 3 rfl, ?_⟩
  refine zje_ (gowK (H.gow 1 rfl)) ⟨H.ints 4 rfl, (H.row 4 rfl).cap.1⟩ (by omega) fun w12 V2 c2 g o12 => ?_
  have hlen := zig_ (gm := gm) (form := form) (a := (a : Int)) (rule := (b : Int))
  generalize hst : zvb_ gm form (a : Int) (b : Int) = st at *
  have H := H.addOwn g o12
  simp only [List.cons_append, List.nil_append] at H
  simp only [zq18, zq19, zq20, zq21, zq22, zq23, zq24, zq25, zq26, zq27, zq28, zq4, zq3, zq1, zq2, zq0, zq29, zq30, zq14, zq15, zq16, zq17, zq13, zq10, zq12, zq11, zq7, zq5, zq6, zq9, zq8, zq31, zq32, ite_T, ite_F, zq33, zq34, zq35, Nat.reduceEqDiff, len22, len24, fa26_0, fa26_1, fa26_2, len27, fa86_0, fa86_1, fa86_2, fa97_0, fa97_1, fa103_0, fa103_1, fa103_2, fa103_3, fa103_4, fa103_5, fa103_6, fa106_0, fa106_1]
  cases hok : st.2
  · simp only [zq18, zq19, zq20, zq21, zq22, zq23, zq24, zq25, zq26, zq27, zq28, zq4, zq3, zq1, zq2, zq0, zq29, zq30, zq14, zq15, zq16, zq17, zq13, zq10, zq12, zq11, zq7, zq5, zq6, zq9, zq8, zq31, zq32, ite_T, ite_F, zq33, zq34, zq35, Nat.reduceEqDiff, len22, len24, fa26_0, fa26_1, fa26_2, len27, fa86_0, fa86_1, fa86_2, fa97_0, fa97_1, fa103_0, fa103_1, fa103_2, fa103_3, fa103_4, fa103_5, fa103_6, fa106_0, fa106_1]
    have H := H.erase 5
    simp only [List.eraseIdx_cons_zero, List.eraseIdx_cons_succ] at H
    simp only [f9, zq18, zq19, zq20, zq21, zq22, zq23, zq24, zq25, zq26, zq27, zq28, zq4, zq3, zq1, zq2, zq0, zq29, zq30, zq14, zq15, zq16, zq17, zq13, zq10, zq12, zq11, zq7, zq5, zq6, zq9, zq8, zq31, zq32, ite_T, ite_F, zq33, zq34, zq35, Nat.reduceEqDiff, len22, len24, fa26_0, fa26_1, fa26_2, len27, fa86_0, fa86_1, fa86_2, fa97_0, fa97_1, fa103_0, fa103_1, fa103_2, fa103_3, fa103_4, fa103_5, fa103_6, fa106_0, fa106_1]
    rw [zp_ (by omega) (by omega)]
    refine hN (o - 1) _ _ ⟨by omega, ?_, _, U, d, form, f8, hfl, ?_, H⟩ (by omega)
    · show Value.int .i64 ((o : Int) - 1) = _
      rw [show (o : Int) - 1 = ((o - 1 : Nat) : Int) from by omega]
    · omega
  simp only [zq18, zq19, zq20, zq21, zq22, zq23, zq24, zq25, zq26, zq27, zq28, zq4, zq3, zq1, zq2, zq0, zq29, zq30, zq14, zq15, zq16, zq17, zq13, zq10, zq12, zq11, zq7, zq5, zq6, zq9, zq8, zq31, zq32, ite_T, ite_F, zq33, zq34, zq35, Nat.reduceEqDiff, len22, len24, fa26_0, fa26_1, fa26_2, len27, fa86_0, fa86_1, fa86_2, fa97_0, fa97_1, fa103_0, fa103_1, fa103_2, fa103_3, fa103_4, fa103_5, fa103_6, fa106_0, fa106_1]
  have H := H.erase 4
  simp only [List.eraseIdx_cons_zero, List.eraseIdx_cons_succ] at H
  simp only [f9, zq18, zq19, zq20, zq21, zq22, zq23, zq24, zq25, zq26, zq27, zq28, zq4, zq3, zq1, zq2, zq0, zq29, zq30, zq14, zq15, zq16, zq17, zq13, zq10, zq12, zq11, zq7, zq5, zq6, zq9, zq8, zq31, zq32, ite_T, ite_F, zq33, zq34, zq35, Nat.reduceEqDiff, len22, len24, fa26_0, fa26_1, fa26_2, len27, fa86_0, fa86_1, fa86_2, fa97_0, fa97_1, fa103_0, fa103_1, fa103_2, fa103_3, fa103_4, fa103_5, fa103_6, fa106_0, fa106_1]
  rw [zp_ (by omega) (by omega)]
  refine hN (o - 1) _ _ ⟨by omega, ?_, _, V2, c2, st.1, rfl, hlen, ?_, H⟩ (by omega)
  · show Value.int .i64 ((o : Int) - 1) = _
    rw [show (o : Int) - 1 = ((o - 1 : Nat) : Int) from by omega]
  · omega
end
open Go Go.Sh

def pl18 : Plans := fun _ => ⟨false, [], .nil⟩
def S18 (v0 v1 v2 : Value) (k : Value → World → Prop) (w : World) : Prop :=
 Do Try.prog (sBox 26 v0) (fun t1 w2 =>
 Rd Try.prog (WS.at w2) (zd_ 26 t1) fun t3 =>
 CallK Try.prog 44 [t3] (fun t4 w5 =>
 Rd Try.prog (WS.at w5) (sUn .not t4) fun t6 =>
 zb_ t6 false (fun k w' => Rd Try.prog (WS.at w5) (za_ 26 t1 1) fun v => k v w') (fun t7 w8 =>
 zb_ t6 false (fun k w' => Rd Try.prog (WS.at w8) (zd_ 3 t7) fun v => k v w') (fun t9 w10 =>
 zb_ t6 false (fun k w' => k v1 w') (fun t11 w12 =>
 zb_ t6 false (fun k w' => CallK Try.prog 53 [t9, t11] k w') (fun t13 w14 =>
 zb_ t6 false (fun k w' => Rd Try.prog (WS.at w14) (sUn .not t13) fun v => k v w') (fun t15 w16 =>
 Rd Try.prog (WS.at w16) (zcb_ t6 (.bool true) t15) fun t17 =>
 zb_ t17 false (fun k w' => k v2 w') (fun t18 w19 =>
 zb_ t17 false (fun k w' => Rd Try.prog (WS.at w19) (zc_ .len #[27] 3 [false] [t18]) fun v => k v w') (fun t20 w21 =>
 zb_ t17 false (fun k w' => Rd Try.prog (WS.at w21) (sBin .gtr 3 true t20 (.int .i64 60)) fun v => k v w') (fun t22 w23 =>
 Rd Try.prog (WS.at w23) (zcb_ t17 (.bool true) t22) fun t24 =>
 zm_ t24
  (k (.tuple #[(.bool false), (.bool false)]) w23)
  (Rd Try.prog (WS.at w23) (zd_ 26 t1) fun t25 =>
  CallK Try.prog 63 [t25, (.int .i64 0), v2] (fun t26 w27 =>
  Rd Try.prog (WS.at w27) (zu_ t26 0) fun t28 =>
  Rd Try.prog (WS.at w27) (zu_ t26 1) fun t29 =>
  Rd Try.prog (WS.at w27) (zu_ t26 2) fun t30 =>
  zb_ t30 true (fun k w' => k t28 w') (fun t31 w32 =>
  zb_ t30 true (fun k w' => Rd Try.prog (WS.at w32) (zeb_ t31) fun v => k v w') (fun t33 w34 =>
  zb_ t30 true (fun k w' => Rd Try.prog (WS.at w34) (za_ 103 t33 3) fun v => k v w') (fun t35 w36 =>
  zb_ t30 true (fun k w' => Rd Try.prog (WS.at w36) (zd_ 3 t35) fun v => k v w') (fun t37 w38 =>
  zb_ t30 true (fun k w' => k v2 w') (fun t39 w40 =>
  zb_ t30 true (fun k w' => Rd Try.prog (WS.at w40) (zc_ .len #[27] 3 [false] [t39]) fun v => k v w') (fun t41 w42 =>
  zb_ t30 true (fun k w' => Rd Try.prog (WS.at w42) (sBin .eql 3 false t37 t41) fun v => k v w') (fun t43 w44 =>
  Rd Try.prog (WS.at w44) (zcb_ t30 t43 (.bool false)) fun t45 =>
  zb_ t45 true (fun k w' => k t29 w') (fun t46 w47 =>
  zb_ t45 true (fun k w' => k v1 w') (fun t48 w49 =>
  zb_ t45 true (fun k w' => CallK Try.prog 64 [t46, t48] k w') (fun t50 w51 =>
  Rd Try.prog (WS.at w51) (zcb_ t45 t50 (.bool false)) fun t52 =>
  k (.tuple #[t52, (.bool true)]) w51) w49) w47) w44) w42) w40) w38) w36) w34) w32) w27) w23)) w21) w19) w16) w14) w12) w10) w8) w5) w2) w
theorem body18 : Try.f18.body = some (zi_ Try.f18) := by kernel_rfl
theorem same18 (v0 v1 v2 : Value) (k : Value → World → Prop) (w : World) : wpF Try.prog pl18 (zi_ Try.f18) (zv_ Try.prog Try.f18.results.toList k) (zr_ [v0, v1, v2]) w = S18 v0 v1 v2 k w := by kernel_rfl
theorem enter18 {v0 v1 v2 : Value} {k : Value → World → Prop} {w : World} (h : S18 v0 v1 v2 k w) : CallK Try.prog 18 [v0, v1, v2] k w :=
  zk_ (pl := pl18) zdb_ Try.func18 body18 (by kernel_rfl) (of_decide_eq_true (by kernel_rfl)) (by kernel_rfl) (by kernel_rfl) (Eq.mpr (same18 v0 v1 v2 k w) h)

end Go.Proofs.Yteabbgaffgpegaa

namespace Go.Sh
open Go
def lat (L : List Int) (n : Nat) : Int := L.getD n (-1)
def SndL (rs : List RuleL) (L : List Int) : Prop := ∀ n : Nat, 0 ≤ lat L n → ∃ u, Yi rs (.inl n) u ∧ (u.length : Int) = lat L n
def cntL (L : List Int) : Nat := L.countP fun n => decide (0 ≤ n)
def BdL (L : List Int) : Prop := ∀ n, lat L n ≤ ((4 ^ cntL L : Nat) : Int)
structure OkL (rs : List RuleL) (m : Nat) (L : List Int) : Prop where
  len : L.length = m
  snd : SndL rs L
  bd : BdL L
end Go.Sh
namespace Go.Proofs.Yteabbgaffgpegaa
open Go Go.Sh Go.RowKit
end Go.Proofs.Yteabbgaffgpegaa

namespace Go.Sh
open Go
end Go.Sh

namespace Go.Proofs.Yteabbgaffgpegaa
open Go Go.Sh Go.RowKit
section
variable {w : World} {k : Value → World → Prop} {Y : Option Addr} {cy : Nat} {gm : Gram}
end
section
variable {w : World} {k : Value → World → Prop} {Y X Z : Option Addr} {cy cx cz : Nat} {gm : Gram} {ws t : List Int}
theorem treeU_read {p : PT} {u : List Int} (hg : zy_ gm = true) (hl : t.length ≤ 60) (h : zmb_ gm.rules t t.length 0 0 [] = some (p, u)) : treeU gm t = if p.fin = t.length then some u else none := by
  by_cases hf : p.fin = t.length
  · rw [if_pos hf]
    have hW : Whole gm t p u := ⟨hg, hl, h, hf⟩
    have ha : zkd_ gm t = true := by
      cases e : zkd_ gm t with
      | true => rfl
      | false => exact absurd hW (asked_whole.2 e p u)
    unfold treeU
    rw [if_pos ha, h]
    rfl
  · rw [if_neg hf]
    cases hu : treeU gm t with
    | none => rfl
    | some v =>
      exfalso
      obtain ⟨_, _, htr⟩ := treeU_iff.1 hu
      obtain ⟨p', hW⟩ := zdi_ hg hl htr
      have := hW.read
      rw [h] at this
      simp only [Option.some.injEq, Prod.mk.injEq] at this
      exact hf (this.1 ▸ hW.fin)
theorem treeU_no (hg : zy_ gm = true) (h : zmb_ gm.rules t t.length 0 0 [] = none) : treeU gm t = none := by
  unfold treeU
  split
  · rw [h]; rfl
  · rfl
set_option maxHeartbeats 3200000 in
theorem zfk_ (hG : kG Y cy gm.rules w) (hZ : kI Z ws cz w) (hX : kI X t cx w) (hk : ∀ w', Gr w w' → k (.tuple #[.bool (zmd_ gm ws t).1, .bool (zmd_ gm ws t).2]) w') :
    CallK Try.prog 18 [grv gm Y cy, .slice Z ws.length cz, .slice X t.length cx] k w := by
  refine enter18 ?_
  unfold S18
  have H := (((Kn.nil w).addG hG.1 hG.2).addI hZ.1 hZ.2).addI hX.1 hX.2
  refine zfc_ fun b1 w1 g1 hb B1 => ?_
  have H := (H.step g1).addB B1
  simp only [List.cons_append, List.nil_append] at H
  have no : (zmd_ gm ws t) = (false, false) → ∀ w', Gr w w' → k (.tuple #[.bool false, .bool false]) w' := fun h w' g => by
    have := hk w' g
    rwa [h] at this
  rw [zfb_ zyb_ sz26 rfl (H.get 4 rfl)]
  refine zhf_ (gvK (H.get 1 rfl)) fun w2 g => ?_
  have H := H.step g
  cases hg : zy_ gm
  · simp only [Bool.not_false, zq18, zq19, zq20, zq21, zq22, zq23, zq24, zq25, zq26, zq27, zq28, zq4, zq3, zq1, zq2, zq0, zq29, zq30, zq14, zq15, zq16, zq17, zq13, zq10, zq12, zq11, zq7, zq5, zq6, zq9, zq8, zq31, zq32, ite_T, ite_F, zq33, zq34, zq35, Nat.reduceEqDiff, len22, len24, fa26_0, fa26_1, fa26_2, len27, fa86_0, fa86_1, fa86_2, fa97_0, fa97_1, fa103_0, fa103_1, fa103_2, fa103_3, fa103_4, fa103_5, fa103_6, fa106_0, fa106_1]
    exact no (by unfold zmd_; rw [hg]; rfl) _ (H.get 0 rfl)
  have ht := zrd_ hg
  simp only [Bool.not_true, zq18, zq19, zq20, zq21, zq22, zq23, zq24, zq25, zq26, zq27, zq28, zq4, zq3, zq1, zq2, zq0, zq29, zq30, zq14, zq15, zq16, zq17, zq13, zq10, zq12, zq11, zq7, zq5, zq6, zq9, zq8, zq31, zq32, ite_T, ite_F, zq33, zq34, zq35, Nat.reduceEqDiff, len22, len24, fa26_0, fa26_1, fa26_2, len27, fa86_0, fa86_1, fa86_2, fa97_0, fa97_1, fa103_0, fa103_1, fa103_2, fa103_3, fa103_4, fa103_5, fa103_6, fa106_0, fa106_1]
  rw [ldB3 (H.get 4 rfl) rfl]
  refine isWord_c (H.get 2 rfl).1 rfl (by omega) (by omega) fun w3 g => ?_
  have H := H.step g
  cases hw : wordB gm.toks ws
  · simp only [Bool.not_false, zq18, zq19, zq20, zq21, zq22, zq23, zq24, zq25, zq26, zq27, zq28, zq4, zq3, zq1, zq2, zq0, zq29, zq30, zq14, zq15, zq16, zq17, zq13, zq10, zq12, zq11, zq7, zq5, zq6, zq9, zq8, zq31, zq32, ite_T, ite_F, zq33, zq34, zq35, Nat.reduceEqDiff, len22, len24, fa26_0, fa26_1, fa26_2, len27, fa86_0, fa86_1, fa86_2, fa97_0, fa97_1, fa103_0, fa103_1, fa103_2, fa103_3, fa103_4, fa103_5, fa103_6, fa106_0, fa106_1]
    exact no (by unfold zmd_; rw [hg, hw]; rfl) _ (H.get 0 rfl)
  simp only [Bool.not_true, zq18, zq19, zq20, zq21, zq22, zq23, zq24, zq25, zq26, zq27, zq28, zq4, zq3, zq1, zq2, zq0, zq29, zq30, zq14, zq15, zq16, zq17, zq13, zq10, zq12, zq11, zq7, zq5, zq6, zq9, zq8, zq31, zq32, ite_T, ite_F, zq33, zq34, zq35, Nat.reduceEqDiff, len22, len24, fa26_0, fa26_1, fa26_2, len27, fa86_0, fa86_1, fa86_2, fa97_0, fa97_1, fa103_0, fa103_1, fa103_2, fa103_3, fa103_4, fa103_5, fa103_6, fa106_0, fa106_1]
  by_cases hl : t.length ≤ 60
  case neg =>
    simp only [show ((60 : Int) < (t.length : Int)) from by omega, decide_true, zq18, zq19, zq20, zq21, zq22, zq23, zq24, zq25, zq26, zq27, zq28, zq4, zq3, zq1, zq2, zq0, zq29, zq30, zq14, zq15, zq16, zq17, zq13, zq10, zq12, zq11, zq7, zq5, zq6, zq9, zq8, zq31, zq32, ite_T, ite_F, zq33, zq34, zq35, Nat.reduceEqDiff, len22, len24, fa26_0, fa26_1, fa26_2, len27, fa86_0, fa86_1, fa86_2, fa97_0, fa97_1, fa103_0, fa103_1, fa103_2, fa103_3, fa103_4, fa103_5, fa103_6, fa106_0, fa106_1]
    exact no (by unfold zmd_; rw [hg, hw, decide_eq_false hl]; rfl) _ (H.get 0 rfl)
  simp only [show ¬ ((60 : Int) < (t.length : Int)) from by omega, decide_false, zq18, zq19, zq20, zq21, zq22, zq23, zq24, zq25, zq26, zq27, zq28, zq4, zq3, zq1, zq2, zq0, zq29, zq30, zq14, zq15, zq16, zq17, zq13, zq10, zq12, zq11, zq7, zq5, zq6, zq9, zq8, zq31, zq32, ite_T, ite_F, zq33, zq34, zq35, Nat.reduceEqDiff, len22, len24, fa26_0, fa26_1, fa26_2, len27, fa86_0, fa86_1, fa86_2, fa97_0, fa97_1, fa103_0, fa103_1, fa103_2, fa103_3, fa103_4, fa103_5, fa103_6, fa106_0, fa106_1]
  have hV : zmd_ gm ws t = (decide (treeU gm t = some ws), true) := by
    unfold zmd_
    rw [hg, hw, decide_eq_true hl]
    rfl
  rw [zfb_ zyb_ sz26 rfl (H.get 4 rfl)]
  refine tree_c hg hl (gvK (H.get 1 rfl)) (H.get 3 rfl).1 rfl (fun hz w3 v1 v2 g => ?_) fun p u hz w4 b E W cw A => ?_
  · have H := H.step g
    simp only [zuj_, zvj_, zwj_, zq18, zq19, zq20, zq21, zq22, zq23, zq24, zq25, zq26, zq27, zq28, zq4, zq3, zq1, zq2, zq0, zq29, zq30, zq14, zq15, zq16, zq17, zq13, zq10, zq12, zq11, zq7, zq5, zq6, zq9, zq8, zq31, zq32, ite_T, ite_F, zq33, zq34, zq35, Nat.reduceEqDiff, len22, len24, fa26_0, fa26_1, fa26_2, len27, fa86_0, fa86_1, fa86_2, fa97_0, fa97_1, fa103_0, fa103_1, fa103_2, fa103_3, fa103_4, fa103_5, fa103_6, fa106_0, fa106_1]
    have := hk _ (H.get 0 rfl)
    rw [hV, treeU_no hg hz] at this
    simpa using this
  have H := H.step A.gr
  have hU := treeU_read hg hl hz
  obtain ⟨XK, cK, hBox, _⟩ := PartAt.box (A.get 1 rfl)
  simp only [zuj_, zvj_, zwj_, zq18, zq19, zq20, zq21, zq22, zq23, zq24, zq25, zq26, zq27, zq28, zq4, zq3, zq1, zq2, zq0, zq29, zq30, zq14, zq15, zq16, zq17, zq13, zq10, zq12, zq11, zq7, zq5, zq6, zq9, zq8, zq31, zq32, ite_T, ite_F, zq33, zq34, zq35, Nat.reduceEqDiff, len22, len24, fa26_0, fa26_1, fa26_2, len27, fa86_0, fa86_1, fa86_2, fa97_0, fa97_1, fa103_0, fa103_1, fa103_2, fa103_3, fa103_4, fa103_5, fa103_6, fa106_0, fa106_1]
  rw [ldB3 hBox rfl]
  simp only [zq18, zq19, zq20, zq21, zq22, zq23, zq24, zq25, zq26, zq27, zq28, zq4, zq3, zq1, zq2, zq0, zq29, zq30, zq14, zq15, zq16, zq17, zq13, zq10, zq12, zq11, zq7, zq5, zq6, zq9, zq8, zq31, zq32, ite_T, ite_F, zq33, zq34, zq35, Nat.reduceEqDiff, len22, len24, fa26_0, fa26_1, fa26_2, len27, fa86_0, fa86_1, fa86_2, fa97_0, fa97_1, fa103_0, fa103_1, fa103_2, fa103_3, fa103_4, fa103_5, fa103_6, fa106_0, fa106_1]
  by_cases hf : p.fin = t.length
  case neg =>
    rw [if_neg hf] at hU
    simp only [show ¬ ((p.fin : Int) = (t.length : Int)) from by omega, decide_false, zq18, zq19, zq20, zq21, zq22, zq23, zq24, zq25, zq26, zq27, zq28, zq4, zq3, zq1, zq2, zq0, zq29, zq30, zq14, zq15, zq16, zq17, zq13, zq10, zq12, zq11, zq7, zq5, zq6, zq9, zq8, zq31, zq32, ite_T, ite_F, zq33, zq34, zq35, Nat.reduceEqDiff, len22, len24, fa26_0, fa26_1, fa26_2, len27, fa86_0, fa86_1, fa86_2, fa97_0, fa97_1, fa103_0, fa103_1, fa103_2, fa103_3, fa103_4, fa103_5, fa103_6, fa106_0, fa106_1]
    have := hk _ (H.get 0 rfl)
    rw [hV, hU] at this
    simpa using this
  rw [if_pos hf] at hU
  simp only [show ((p.fin : Int) = (t.length : Int)) from by omega, decide_true, zq18, zq19, zq20, zq21, zq22, zq23, zq24, zq25, zq26, zq27, zq28, zq4, zq3, zq1, zq2, zq0, zq29, zq30, zq14, zq15, zq16, zq17, zq13, zq10, zq12, zq11, zq7, zq5, zq6, zq9, zq8, zq31, zq32, ite_T, ite_F, zq33, zq34, zq35, Nat.reduceEqDiff, len22, len24, fa26_0, fa26_1, fa26_2, len27, fa86_0, fa86_1, fa86_2, fa97_0, fa97_1, fa103_0, fa103_1, fa103_2, fa103_3, fa103_4, fa103_5, fa103_6, fa106_0, fa106_1]
  refine equalI_c (A.ints 0 rfl) (H.get 2 rfl).1 rfl rfl fun w5 g => ?_
  have H := H.step g
  have := hk _ (H.get 0 rfl)
  rw [hV, hU] at this
  simpa using this
end
section
variable {S : WS} {k : Value → Prop} {c b : Bool} {x : Int} {kd : IntKind} {t : TypeId}
theorem neq_self : Rd Try.prog S (sBin .neq t c (.int kd x) (.int kd x)) k = k (.bool false) := by rw [zq22, decide_eq_true rfl]; rfl
theorem eql_self : Rd Try.prog S (sBin .eql t c (.int kd x) (.int kd x)) k = k (.bool true) := by rw [zq21, decide_eq_true rfl]
theorem neqb_self : Rd Try.prog S (sBin .neq 4 c (.bool b) (.bool b)) k = k (.bool false) := by rw [bneq]; cases b <;> rfl
theorem eqlb_self : Rd Try.prog S (sBin .eql 4 c (.bool b) (.bool b)) k = k (.bool true) := by rw [beql]; cases b <;> rfl
end
end Go.Proofs.Yteabbgaffgpegaa

namespace Go.Sh
open Go
def zhd_ (xs : List Int) : List Int := (xs.filter fun x => decide (x < 0)).map fun x => -1 - x
theorem zgk_ {xs : List Int} {i : Nat} (h : i < xs.length) : xs.take (i + 1) = xs.take i ++ [xs.getD i 0] := by
  rw [List.take_add_one, List.getD_eq_getElem?_getD, List.getElem?_eq_getElem h]
  rfl
theorem toksL_snoc {xs : List Int} {x : Int} : zhd_ (xs ++ [x]) = if x < 0 then zhd_ xs ++ [-1 - x] else zhd_ xs := by
  unfold zhd_
  rw [List.filter_append, List.map_append]
  split
  · rename_i h
    simp [h]
  · rename_i h
    simp [h]
theorem toksL_le {xs : List Int} : (zhd_ xs).length ≤ xs.length := by
  unfold zhd_
  rw [List.length_map]
  exact List.length_filter_le _ _
theorem toksL_all {xs : List Int} (h : (zhd_ xs).length = xs.length) : (∀ x ∈ xs, x < 0) ∧ zhd_ xs = xs.map fun x => -1 - x := by
  unfold zhd_ at h ⊢
  rw [List.length_map] at h
  have h1 : ∀ x ∈ xs, decide (x < 0) = true := List.length_filter_eq_length_iff.1 h
  exact ⟨fun x hx => by simpa using h1 x hx, by rw [List.filter_eq_self.2 h1]⟩
theorem rewV_syms {gm : Gram} {rules f : List Int} (h : rewV gm rules = (f, true)) : zy_ gm = true ∧ f.length ≤ 40 ∧ ∀ x ∈ f, -gm.toks ≤ x := by
  unfold rewV at h
  split at h
  · rename_i hc
    simp only [Bool.and_eq_true, decide_eq_true_eq] at hc
    exact ⟨hc.1, rew_len h (by decide), zyi_ hc.1 h (fun x hx => by rw [List.mem_singleton.1 hx]; have := zrd_ hc.1; omega)⟩
  · simp at h
end Go.Sh
namespace Go.Proofs.Yteabbgaffgpegaa
open Go Go.Sh Go.RowKit
section
variable {P : Program} {S : WS} {k : Value → Prop} {a b c d : Value}
theorem zhk_ : Rd P S (zu_ (.tuple #[a, b, c, d]) 0) k = k a := ztb_ fun w _ => rfl
theorem zik_ : Rd P S (zu_ (.tuple #[a, b, c, d]) 1) k = k b := ztb_ fun w _ => rfl
theorem zjk_ : Rd P S (zu_ (.tuple #[a, b, c, d]) 2) k = k c := ztb_ fun w _ => rfl
theorem zkk_ : Rd P S (zu_ (.tuple #[a, b, c, d]) 3) k = k d := ztb_ fun w _ => rfl
end
attribute [local irreducible] Rd Do CallK zb_ zm_ Join zrb_ zu_ zd_ zcb_ sBin sUn zc_ zab_ zkb_ zf_ za_ zbb_
set_option maxHeartbeats 12800000 in
theorem zcp_ {w : World} {C D : Option Addr} {cap cap' : Nat} {bs es : List Int} (hC : Byts w C bs) (hD : Byts w D es) {k : Value → World → Prop} (hk : ∀ w', Gr w w' → k (.bool true) w') :
    CallK Try.prog 4 [.slice C bs.length cap, .slice D es.length cap'] k w := by
  refine enter4 ?_
  unfold S4
  have H := knC (knC (Kn.nil w) hC) hD
  refine big_c hC.le hD.le fun b => ?_
  cases b
  case true =>
    repeat (first | refine rdi neq_self ?_ | refine rdi neqb_self ?_ | refine rdi eql_self ?_ | refine rdi eqlb_self ?_ | refine rdi zq1 ?_ | refine rdi zq2 ?_ | refine rdi zq13 ?_ | refine rdi zq14 ?_ | refine rdi zq16 ?_ | refine rdi zq15 ?_ | refine rdi zq17 ?_ | refine rdi zq4 ?_ | refine rdi zq3 ?_ | refine rdi zq27 ?_ | refine rdi bneq ?_ | refine rdi beql ?_ | refine rdi zq29 ?_ | refine rdi zq30 ?_ | refine rdi zq21 ?_ | refine rdi zq22 ?_ | refine rdi zq23 ?_ | refine rdi zq24 ?_ | refine rdi zq25 ?_ | refine rdi zq26 ?_ | refine rdi len27 ?_ | refine rdi len35 ?_)
    exact hk _ (H.get 0 rfl)
  repeat (first | refine rdi neq_self ?_ | refine rdi neqb_self ?_ | refine rdi eql_self ?_ | refine rdi eqlb_self ?_ | refine rdi zq1 ?_ | refine rdi zq2 ?_ | refine rdi zq13 ?_ | refine rdi zq14 ?_ | refine rdi zq16 ?_ | refine rdi zq15 ?_ | refine rdi zq17 ?_ | refine rdi zq4 ?_ | refine rdi zq3 ?_ | refine rdi zq27 ?_ | refine rdi bneq ?_ | refine rdi beql ?_ | refine rdi zq29 ?_ | refine rdi zq30 ?_ | refine rdi zq21 ?_ | refine rdi zq22 ?_ | refine rdi zq23 ?_ | refine rdi zq24 ?_ | refine rdi zq25 ?_ | refine rdi zq26 ?_ | refine rdi len27 ?_ | refine rdi len35 ?_)
  refine zcj_ (H.get 1 rfl) fun w2 gm Y cy X cx rules g hG hX => ?_
  have H := ((H.step g).addG hG.1 hG.2).addI hX.1 hX.2
  simp only [List.cons_append, List.nil_append] at H
  repeat (first | refine rdi neq_self ?_ | refine rdi neqb_self ?_ | refine rdi eql_self ?_ | refine rdi eqlb_self ?_ | refine rdi zq1 ?_ | refine rdi zq2 ?_ | refine rdi zq13 ?_ | refine rdi zq14 ?_ | refine rdi zq16 ?_ | refine rdi zq15 ?_ | refine rdi zq17 ?_ | refine rdi zq4 ?_ | refine rdi zq3 ?_ | refine rdi zq27 ?_ | refine rdi bneq ?_ | refine rdi beql ?_ | refine rdi zq29 ?_ | refine rdi zq30 ?_ | refine rdi zq21 ?_ | refine rdi zq22 ?_ | refine rdi zq23 ?_ | refine rdi zq24 ?_ | refine rdi zq25 ?_ | refine rdi zq26 ?_ | refine rdi len27 ?_ | refine rdi len35 ?_)
  refine newG H fun b1 w3 H => ?_
  simp only [List.cons_append, List.nil_append] at H
  rcases hf : rewV gm rules with ⟨form, ok⟩
  refine rdi (zfb_ zyb_ sz26 rfl (H.get 5 rfl)) ?_
  refine zaj_ (H.get 3 rfl) (H.get 4 rfl) fun w4 U d g hU => ?_
  rw [hf] at hU ⊢
  have H := (H.step g).addI hU.1 hU.2
  simp only [List.cons_append, List.nil_append] at H
  refine rdi zq1 (rdi zq2 ?_)
  refine rdi (zfb_ zyb_ sz26 rfl (H.get 5 rfl)) ?_
  refine zbj_ (H.get 3 rfl) (H.get 4 rfl) fun w5 U2 d2 g hU2 => ?_
  rw [hf] at hU2 ⊢
  have H := (H.step g).addI hU2.1 hU2.2
  simp only [List.cons_append, List.nil_append] at H
  refine rdi zq1 (rdi zq2 ?_)
  repeat (first | refine rdi neq_self ?_ | refine rdi neqb_self ?_ | refine rdi eql_self ?_ | refine rdi eqlb_self ?_ | refine rdi zq1 ?_ | refine rdi zq2 ?_ | refine rdi zq13 ?_ | refine rdi zq14 ?_ | refine rdi zq16 ?_ | refine rdi zq15 ?_ | refine rdi zq17 ?_ | refine rdi zq4 ?_ | refine rdi zq3 ?_ | refine rdi zq27 ?_ | refine rdi bneq ?_ | refine rdi beql ?_ | refine rdi zq29 ?_ | refine rdi zq30 ?_ | refine rdi zq21 ?_ | refine rdi zq22 ?_ | refine rdi zq23 ?_ | refine rdi zq24 ?_ | refine rdi zq25 ?_ | refine rdi zq26 ?_ | refine rdi len27 ?_ | refine rdi len35 ?_)
  refine ztj_ (H.get 6 rfl).1 (H.get 7 rfl).1 fun w6 g => ?_
  have H := H.step g
  rw [decide_eq_true rfl]
  repeat (first | refine rdi neq_self ?_ | refine rdi neqb_self ?_ | refine rdi eql_self ?_ | refine rdi eqlb_self ?_ | refine rdi zq1 ?_ | refine rdi zq2 ?_ | refine rdi zq13 ?_ | refine rdi zq14 ?_ | refine rdi zq16 ?_ | refine rdi zq15 ?_ | refine rdi zq17 ?_ | refine rdi zq4 ?_ | refine rdi zq3 ?_ | refine rdi zq27 ?_ | refine rdi bneq ?_ | refine rdi beql ?_ | refine rdi zq29 ?_ | refine rdi zq30 ?_ | refine rdi zq21 ?_ | refine rdi zq22 ?_ | refine rdi zq23 ?_ | refine rdi zq24 ?_ | refine rdi zq25 ?_ | refine rdi zq26 ?_ | refine rdi len27 ?_ | refine rdi len35 ?_)
  have H := H.add (P := fun w' => Gr w6 w') fun w' g => g
  simp only [List.cons_append, List.nil_append] at H
  refine zed_ (fun f w' => f 1 = .slice D es.length cap' ∧ Gr w6 w') (fun K hK => ?_) ?_
  · cases ok
    · repeat (first | refine rdi neq_self ?_ | refine rdi neqb_self ?_ | refine rdi eql_self ?_ | refine rdi eqlb_self ?_ | refine rdi zq1 ?_ | refine rdi zq2 ?_ | refine rdi zq13 ?_ | refine rdi zq14 ?_ | refine rdi zq16 ?_ | refine rdi zq15 ?_ | refine rdi zq17 ?_ | refine rdi zq4 ?_ | refine rdi zq3 ?_ | refine rdi zq27 ?_ | refine rdi bneq ?_ | refine rdi beql ?_ | refine rdi zq29 ?_ | refine rdi zq30 ?_ | refine rdi zq21 ?_ | refine rdi zq22 ?_ | refine rdi zq23 ?_ | refine rdi zq24 ?_ | refine rdi zq25 ?_ | refine rdi zq26 ?_ | refine rdi len27 ?_ | refine rdi len35 ?_)
      exact hK _ _ ⟨rfl, H.get 8 rfl⟩
    repeat (first | refine rdi neq_self ?_ | refine rdi neqb_self ?_ | refine rdi eql_self ?_ | refine rdi eqlb_self ?_ | refine rdi zq1 ?_ | refine rdi zq2 ?_ | refine rdi zq13 ?_ | refine rdi zq14 ?_ | refine rdi zq16 ?_ | refine rdi zq15 ?_ | refine rdi zq17 ?_ | refine rdi zq4 ?_ | refine rdi zq3 ?_ | refine rdi zq27 ?_ | refine rdi bneq ?_ | refine rdi beql ?_ | refine rdi zq29 ?_ | refine rdi zq30 ?_ | refine rdi zq21 ?_ | refine rdi zq22 ?_ | refine rdi zq23 ?_ | refine rdi zq24 ?_ | refine rdi zq25 ?_ | refine rdi zq26 ?_ | refine rdi len27 ?_ | refine rdi len35 ?_)
    by_cases hl : (form.length : Int) ≤ 10
    case neg =>
      rw [decide_eq_false hl]
      repeat (first | refine rdi neq_self ?_ | refine rdi neqb_self ?_ | refine rdi eql_self ?_ | refine rdi eqlb_self ?_ | refine rdi zq1 ?_ | refine rdi zq2 ?_ | refine rdi zq13 ?_ | refine rdi zq14 ?_ | refine rdi zq16 ?_ | refine rdi zq15 ?_ | refine rdi zq17 ?_ | refine rdi zq4 ?_ | refine rdi zq3 ?_ | refine rdi zq27 ?_ | refine rdi bneq ?_ | refine rdi beql ?_ | refine rdi zq29 ?_ | refine rdi zq30 ?_ | refine rdi zq21 ?_ | refine rdi zq22 ?_ | refine rdi zq23 ?_ | refine rdi zq24 ?_ | refine rdi zq25 ?_ | refine rdi zq26 ?_ | refine rdi len27 ?_ | refine rdi len35 ?_)
      exact hK _ _ ⟨rfl, H.get 8 rfl⟩
    rw [decide_eq_true hl]
    repeat (first | refine rdi neq_self ?_ | refine rdi neqb_self ?_ | refine rdi eql_self ?_ | refine rdi eqlb_self ?_ | refine rdi zq1 ?_ | refine rdi zq2 ?_ | refine rdi zq13 ?_ | refine rdi zq14 ?_ | refine rdi zq16 ?_ | refine rdi zq15 ?_ | refine rdi zq17 ?_ | refine rdi zq4 ?_ | refine rdi zq3 ?_ | refine rdi zq27 ?_ | refine rdi bneq ?_ | refine rdi beql ?_ | refine rdi zq29 ?_ | refine rdi zq30 ?_ | refine rdi zq21 ?_ | refine rdi zq22 ?_ | refine rdi zq23 ?_ | refine rdi zq24 ?_ | refine rdi zq25 ?_ | refine rdi zq26 ?_ | refine rdi len27 ?_ | refine rdi len35 ?_)
    obtain ⟨hgd, _, hsy⟩ := rewV_syms hf
    have htk := zrd_ hgd
    refine zad_ form.length 0 (fun i f w' => i ≤ form.length ∧ f 63 = .int .i64 (i : Int) ∧ ∃ R e, f 11 = .slice R (zhd_ (form.take i)).length e ∧ Apt w6 w' [ows R e (zhd_ (form.take i))]) ⟨Nat.zero_le _, rfl, none, 0, rfl, (Apt.nil w6).addNil 3 1⟩ ?_
    rintro i f w7 N hag ⟨hi, f63, R, e, f11, A⟩ hN
    have H := H.step A.gr
    have f1 : f 1 = .slice D es.length cap' := hag 1 (by decide)
    have f5 : f 5 = ptrv b1 := hag 5 (by decide)
    have f6 : f 6 = .slice X rules.length cx := hag 6 (by decide)
    have f7 : f 7 = .slice U form.length d := hag 7 (by decide)
    have f61 : f 61 = .slice U form.length d := hag 61 (by decide)
    have f62 : f 62 = .int .i64 form.length := hag 62 (by decide)
    simp only [f61, f62, f63]
    refine rdi zq23 ?_
    by_cases hlt : i < form.length
    case neg =>
      rw [decide_eq_false (show ¬ (i : Int) < (form.length : Int) from by omega)]
      repeat (first | refine rdi neq_self ?_ | refine rdi neqb_self ?_ | refine rdi eql_self ?_ | refine rdi eqlb_self ?_ | refine rdi zq1 ?_ | refine rdi zq2 ?_ | refine rdi zq13 ?_ | refine rdi zq14 ?_ | refine rdi zq16 ?_ | refine rdi zq15 ?_ | refine rdi zq17 ?_ | refine rdi zq4 ?_ | refine rdi zq3 ?_ | refine rdi zq27 ?_ | refine rdi bneq ?_ | refine rdi beql ?_ | refine rdi zq29 ?_ | refine rdi zq30 ?_ | refine rdi zq21 ?_ | refine rdi zq22 ?_ | refine rdi zq23 ?_ | refine rdi zq24 ?_ | refine rdi zq25 ?_ | refine rdi zq26 ?_ | refine rdi len27 ?_ | refine rdi len35 ?_)
      obtain rfl : i = form.length := by omega
      rw [List.take_length] at f11 A
      simp only [f5, f6, f7, f11, zq18, zq19, zq20, zq21, zq22, zq23, zq24, zq25, zq26, zq27, zq28, zq4, zq3, zq1, zq2, zq0, zq29, zq30, zq14, zq15, zq16, zq17, zq13, zq10, zq12, zq11, zq7, zq5, zq6, zq9, zq8, zq31, zq32, ite_T, ite_F, zq33, zq34, zq35, Nat.reduceEqDiff, len22, len24, fa26_0, fa26_1, fa26_2, len27, fa86_0, fa86_1, fa86_2, fa97_0, fa97_1, fa103_0, fa103_1, fa103_2, fa103_3, fa103_4, fa103_5, fa103_6, fa106_0, fa106_1]
      by_cases hfl : (zhd_ form).length = form.length
      case neg =>
        rw [decide_eq_false (show ¬ ((zhd_ form).length : Int) = (form.length : Int) from by omega)]
        repeat (first | refine rdi neq_self ?_ | refine rdi neqb_self ?_ | refine rdi eql_self ?_ | refine rdi eqlb_self ?_ | refine rdi zq1 ?_ | refine rdi zq2 ?_ | refine rdi zq13 ?_ | refine rdi zq14 ?_ | refine rdi zq16 ?_ | refine rdi zq15 ?_ | refine rdi zq17 ?_ | refine rdi zq4 ?_ | refine rdi zq3 ?_ | refine rdi zq27 ?_ | refine rdi bneq ?_ | refine rdi beql ?_ | refine rdi zq29 ?_ | refine rdi zq30 ?_ | refine rdi zq21 ?_ | refine rdi zq22 ?_ | refine rdi zq23 ?_ | refine rdi zq24 ?_ | refine rdi zq25 ?_ | refine rdi zq26 ?_ | refine rdi len27 ?_ | refine rdi len35 ?_)
        exact hK _ _ ⟨f1, H.get 8 rfl⟩
      rw [decide_eq_true (show ((zhd_ form).length : Int) = (form.length : Int) from by omega)]
      repeat (first | refine rdi neq_self ?_ | refine rdi neqb_self ?_ | refine rdi eql_self ?_ | refine rdi eqlb_self ?_ | refine rdi zq1 ?_ | refine rdi zq2 ?_ | refine rdi zq13 ?_ | refine rdi zq14 ?_ | refine rdi zq16 ?_ | refine rdi zq15 ?_ | refine rdi zq17 ?_ | refine rdi zq4 ?_ | refine rdi zq3 ?_ | refine rdi zq27 ?_ | refine rdi bneq ?_ | refine rdi beql ?_ | refine rdi zq29 ?_ | refine rdi zq30 ?_ | refine rdi zq21 ?_ | refine rdi zq22 ?_ | refine rdi zq23 ?_ | refine rdi zq24 ?_ | refine rdi zq25 ?_ | refine rdi zq26 ?_ | refine rdi len27 ?_ | refine rdi len35 ?_)
      obtain ⟨hneg, hmap⟩ := toksL_all hfl
      obtain ⟨_, hw, hit, hin⟩ := rewV_word hf hneg (by omega)
      rw [← hmap] at hw hit hin
      have hI : kI R (zhd_ form) e w7 := ⟨A.ints 0 rfl, (A.row 0 rfl).cap.1⟩
      have H := H.addI hI.1 hI.2
      simp only [List.cons_append, List.nil_append] at H
      refine rdi (zfb_ zyb_ sz26 rfl (H.get 5 rfl)) ?_
      refine zti_ (H.get 3 rfl) (H.get 9 rfl) fun w8 g => ?_
      have H := H.step g
      rw [hin]
      refine rdi zq1 (rdi zq2 ?_)
      refine rdi (zfb_ zyb_ sz26 rfl (H.get 5 rfl)) ?_
      refine zfk_ (H.get 3 rfl) (H.get 9 rfl) (H.get 4 rfl) fun w9 g => ?_
      have H := H.step g
      rw [hit]
      refine rdi zq1 (rdi zq2 ?_)
      repeat (first | refine rdi neq_self ?_ | refine rdi neqb_self ?_ | refine rdi eql_self ?_ | refine rdi eqlb_self ?_ | refine rdi zq1 ?_ | refine rdi zq2 ?_ | refine rdi zq13 ?_ | refine rdi zq14 ?_ | refine rdi zq16 ?_ | refine rdi zq15 ?_ | refine rdi zq17 ?_ | refine rdi zq4 ?_ | refine rdi zq3 ?_ | refine rdi zq27 ?_ | refine rdi bneq ?_ | refine rdi beql ?_ | refine rdi zq29 ?_ | refine rdi zq30 ?_ | refine rdi zq21 ?_ | refine rdi zq22 ?_ | refine rdi zq23 ?_ | refine rdi zq24 ?_ | refine rdi zq25 ?_ | refine rdi zq26 ?_ | refine rdi len27 ?_ | refine rdi len35 ?_)
      exact hK _ _ ⟨f1, H.get 8 rfl⟩
    rw [decide_eq_true (show (i : Int) < (form.length : Int) from by omega)]
    repeat (first | refine rdi neq_self ?_ | refine rdi neqb_self ?_ | refine rdi eql_self ?_ | refine rdi eqlb_self ?_ | refine rdi zq1 ?_ | refine rdi zq2 ?_ | refine rdi zq13 ?_ | refine rdi zq14 ?_ | refine rdi zq16 ?_ | refine rdi zq15 ?_ | refine rdi zq17 ?_ | refine rdi zq4 ?_ | refine rdi zq3 ?_ | refine rdi zq27 ?_ | refine rdi bneq ?_ | refine rdi beql ?_ | refine rdi zq29 ?_ | refine rdi zq30 ?_ | refine rdi zq21 ?_ | refine rdi zq22 ?_ | refine rdi zq23 ?_ | refine rdi zq24 ?_ | refine rdi zq25 ?_ | refine rdi zq26 ?_ | refine rdi len27 ?_ | refine rdi len35 ?_)
    have hUi := (H.get 6 rfl).1
    have hts := zgk_ hlt
    refine zed_ (fun f' w' => f' 63 = .int .i64 (i : Int) ∧ ∃ R e, f' 11 = .slice R (zhd_ (form.take (i + 1))).length e ∧ Apt w6 w' [ows R e (zhd_ (form.take (i + 1)))]) (fun K2 hK2 => ?_) ?_
    · refine rdi (zac_ hUi.ptr hlt) (rdi (ld3 (hUi.cell i hlt)) ?_)
      refine rdi zq23 ?_
      rw [hts, toksL_snoc] at hK2
      by_cases hx : form.getD i 0 < 0
      · rw [decide_eq_true hx]
        repeat (first | refine rdi neq_self ?_ | refine rdi neqb_self ?_ | refine rdi eql_self ?_ | refine rdi eqlb_self ?_ | refine rdi zq1 ?_ | refine rdi zq2 ?_ | refine rdi zq13 ?_ | refine rdi zq14 ?_ | refine rdi zq16 ?_ | refine rdi zq15 ?_ | refine rdi zq17 ?_ | refine rdi zq4 ?_ | refine rdi zq3 ?_ | refine rdi zq27 ?_ | refine rdi bneq ?_ | refine rdi beql ?_ | refine rdi zq29 ?_ | refine rdi zq30 ?_ | refine rdi zq21 ?_ | refine rdi zq22 ?_ | refine rdi zq23 ?_ | refine rdi zq24 ?_ | refine rdi zq25 ?_ | refine rdi zq26 ?_ | refine rdi len27 ?_ | refine rdi len35 ?_)
        rw [if_pos hx] at hK2
        have hxs := hsy _ (zcf_ hlt)
        have hlen := toksL_le (xs := form.take i)
        rw [List.length_take] at hlen
        refine rdi zq19 ?_
        rw [zp_ (by omega) (by omega), f11]
        refine pushH A 0 rfl rfl (by omega) fun t R2 e2 w13 A => ?_
        simp only [List.set_cons_zero] at A
        exact hK2 _ _ ⟨f63, R2, e2, rfl, A⟩
      · rw [decide_eq_false hx]
        repeat (first | refine rdi neq_self ?_ | refine rdi neqb_self ?_ | refine rdi eql_self ?_ | refine rdi eqlb_self ?_ | refine rdi zq1 ?_ | refine rdi zq2 ?_ | refine rdi zq13 ?_ | refine rdi zq14 ?_ | refine rdi zq16 ?_ | refine rdi zq15 ?_ | refine rdi zq17 ?_ | refine rdi zq4 ?_ | refine rdi zq3 ?_ | refine rdi zq27 ?_ | refine rdi bneq ?_ | refine rdi beql ?_ | refine rdi zq29 ?_ | refine rdi zq30 ?_ | refine rdi zq21 ?_ | refine rdi zq22 ?_ | refine rdi zq23 ?_ | refine rdi zq24 ?_ | refine rdi zq25 ?_ | refine rdi zq26 ?_ | refine rdi len27 ?_ | refine rdi len35 ?_)
        rw [if_neg hx] at hK2
        exact hK2 _ _ ⟨f63, R, e, f11, A⟩
    rintro f' w8 ⟨e63, R2, e2, e11, A2⟩
    simp only [e63, zq18, zq19, zq20, zq21, zq22, zq23, zq24, zq25, zq26, zq27, zq28, zq4, zq3, zq1, zq2, zq0, zq29, zq30, zq14, zq15, zq16, zq17, zq13, zq10, zq12, zq11, zq7, zq5, zq6, zq9, zq8, zq31, zq32, ite_T, ite_F, zq33, zq34, zq35, Nat.reduceEqDiff, len22, len24, fa26_0, fa26_1, fa26_2, len27, fa86_0, fa86_1, fa86_2, fa97_0, fa97_1, fa103_0, fa103_1, fa103_2, fa103_3, fa103_4, fa103_5, fa103_6, fa106_0, fa106_1]
    rw [zp_ (by omega) (by omega)]
    exact hN _ _ hlt ⟨by omega, rfl, R2, e2, e11, A2⟩
  clear hf
  rintro f9 w9 ⟨f1, g⟩
  have H := H.step g
  simp only [f1]
  refine zdj_ (H.get 2 rfl) fun w10 gm2 Y2 cy2 U2 d2 form2 a b g hG2 hU2 hl2 => ?_
  have H := ((H.step g).addG hG2.1 hG2.2).addI hU2.1 hU2.2
  simp only [List.cons_append, List.nil_append] at H
  refine rdi zhk_ (rdi zik_ (rdi zjk_ (rdi zkk_ ?_)))
  refine newG H fun b4 w11 H => ?_
  simp only [List.cons_append, List.nil_append] at H
  refine rdi (zfb_ zyb_ sz26 rfl (H.get 11 rfl)) ?_
  refine zbg_ (H.get 9 rfl) (H.get 10 rfl) (by omega) fun w12 U3 d3 g hU3 => ?_
  have H := (H.step g).addI hU3.1 hU3.2
  simp only [List.cons_append, List.nil_append] at H
  refine rdi zq1 (rdi zq2 ?_)
  refine rdi (zfb_ zyb_ sz26 rfl (H.get 11 rfl)) ?_
  refine zcg_ (H.get 9 rfl) (H.get 10 rfl) (by omega) fun w13 U4 d4 g hU4 => ?_
  have H := (H.step g).addI hU4.1 hU4.2
  simp only [List.cons_append, List.nil_append] at H
  refine rdi zq1 (rdi zq2 ?_)
  repeat (first | refine rdi neq_self ?_ | refine rdi neqb_self ?_ | refine rdi eql_self ?_ | refine rdi eqlb_self ?_ | refine rdi zq1 ?_ | refine rdi zq2 ?_ | refine rdi zq13 ?_ | refine rdi zq14 ?_ | refine rdi zq16 ?_ | refine rdi zq15 ?_ | refine rdi zq17 ?_ | refine rdi zq4 ?_ | refine rdi zq3 ?_ | refine rdi zq27 ?_ | refine rdi bneq ?_ | refine rdi beql ?_ | refine rdi zq29 ?_ | refine rdi zq30 ?_ | refine rdi zq21 ?_ | refine rdi zq22 ?_ | refine rdi zq23 ?_ | refine rdi zq24 ?_ | refine rdi zq25 ?_ | refine rdi zq26 ?_ | refine rdi len27 ?_ | refine rdi len35 ?_)
  refine ztj_ (H.get 12 rfl).1 (H.get 13 rfl).1 fun w14 g => ?_
  have H := H.step g
  rw [decide_eq_true rfl]
  repeat (first | refine rdi neq_self ?_ | refine rdi neqb_self ?_ | refine rdi eql_self ?_ | refine rdi eqlb_self ?_ | refine rdi zq1 ?_ | refine rdi zq2 ?_ | refine rdi zq13 ?_ | refine rdi zq14 ?_ | refine rdi zq16 ?_ | refine rdi zq15 ?_ | refine rdi zq17 ?_ | refine rdi zq4 ?_ | refine rdi zq3 ?_ | refine rdi zq27 ?_ | refine rdi bneq ?_ | refine rdi beql ?_ | refine rdi zq29 ?_ | refine rdi zq30 ?_ | refine rdi zq21 ?_ | refine rdi zq22 ?_ | refine rdi zq23 ?_ | refine rdi zq24 ?_ | refine rdi zq25 ?_ | refine rdi zq26 ?_ | refine rdi len27 ?_ | refine rdi len35 ?_)
  exact hk _ (H.get 0 rfl)
open Go
theorem make_of {P : Program} {W : List (List Char)} {c : List Char} {rest : List (List Char)} (h : behindMainWord (wordsSigns P.initOrder.toList) = W) (hW : W = c :: rest) (hc : (c == "gc".toList || c == "spec".toList) = false) (h2 : (c == "cut".toList) = true) : P.make = some .cut := by
  unfold Program.make
  rw [h, hW]
  dsimp only
  rw [if_neg (by rw [hc]; exact Bool.false_ne_true), if_pos (by rw [h2]; rfl)]
theorem lifts_of {P : Program} {W : List (List Char)} (h : behindMainWord (wordsSigns P.initOrder.toList) = W) (h1 : (W.head? == some "carried".toList) = false) (h2 : (stripLifts liftWords W).1.contains "finals" = false) : P.liftsFinal = false := by
  unfold Program.liftsFinal Program.headLifts
  rw [h]
  simp only [h1, Bool.false_and, Bool.false_or]
  split
  · exact h2
  · rfl
theorem may_of {P : Program} {W : List (List Char)} {c : List Char} {rest : List (List Char)} {l : List String} (h : behindMainWord (wordsSigns P.initOrder.toList) = W) (hW : W = c :: rest) (hl : P.laysLater = false) (hb : P.bearsReflect = false) (hs : stripLifts liftWords (c :: rest) = (l, c :: rest)) (h2 : (c == "cut".toList) = true) (h3 : l.contains "leanrows" = false) (hd : P.doorFits l = true) : P.mayEnter = true := by
  unfold Program.mayEnter
  rw [h, hW]
  have h4 : (some c == some "cut".toList) = true := h2
  simp only [hs, hl, hb, h3, hd, h4, List.head?_cons, Bool.not_false, Bool.and_true, Bool.or_true]
def signs : List Char := Char.ofNat 104 :: Char.ofNat 97 :: Char.ofNat 114 :: Char.ofNat 110 :: Char.ofNat 101 :: Char.ofNat 115 :: Char.ofNat 115 :: Char.ofNat 32 :: Char.ofNat 102 :: Char.ofNat 55 :: Char.ofNat 49 :: Char.ofNat 54 :: Char.ofNat 52 :: Char.ofNat 99 :: Char.ofNat 50 :: Char.ofNat 49 :: Char.ofNat 48 :: Char.ofNat 99 :: Char.ofNat 52 :: Char.ofNat 53 :: Char.ofNat 100 :: Char.ofNat 54 :: Char.ofNat 98 :: Char.ofNat 102 :: Char.ofNat 97 :: Char.ofNat 100 :: Char.ofNat 102 :: Char.ofNat 54 :: Char.ofNat 55 :: Char.ofNat 51 :: Char.ofNat 57 :: Char.ofNat 50 :: Char.ofNat 50 :: Char.ofNat 55 :: Char.ofNat 53 :: Char.ofNat 49 :: Char.ofNat 53 :: Char.ofNat 101 :: Char.ofNat 51 :: Char.ofNat 102 :: Char.ofNat 100 :: Char.ofNat 53 :: Char.ofNat 53 :: Char.ofNat 54 :: Char.ofNat 51 :: Char.ofNat 56 :: Char.ofNat 98 :: Char.ofNat 48 :: Char.ofNat 54 :: Char.ofNat 99 :: Char.ofNat 57 :: Char.ofNat 56 :: Char.ofNat 54 :: Char.ofNat 57 :: Char.ofNat 49 :: Char.ofNat 102 :: Char.ofNat 54 :: Char.ofNat 56 :: Char.ofNat 100 :: Char.ofNat 98 :: Char.ofNat 51 :: Char.ofNat 57 :: Char.ofNat 55 :: Char.ofNat 54 :: Char.ofNat 48 :: Char.ofNat 56 :: Char.ofNat 102 :: Char.ofNat 101 :: Char.ofNat 101 :: Char.ofNat 101 :: Char.ofNat 51 :: Char.ofNat 100 :: Char.ofNat 32 :: Char.ofNat 99 :: Char.ofNat 117 :: Char.ofNat 116 :: Char.ofNat 32 :: Char.ofNat 97 :: Char.ofNat 116 :: Char.ofNat 32 :: Char.ofNat 108 :: Char.ofNat 111 :: Char.ofNat 111 :: Char.ofNat 112 :: Char.ofNat 46 :: Char.ofNat 101 :: Char.ofNat 120 :: Char.ofNat 97 :: Char.ofNat 109 :: Char.ofNat 112 :: Char.ofNat 108 :: Char.ofNat 101 :: Char.ofNat 47 :: Char.ofNat 103 :: Char.ofNat 48 :: Char.ofNat 48 :: Char.ofNat 55 :: Char.ofNat 53 :: Char.ofNat 56 :: Char.ofNat 47 :: Char.ofNat 108 :: Char.ofNat 97 :: Char.ofNat 119 :: Char.ofNat 115 :: Char.ofNat 46 :: Char.ofNat 70 :: Char.ofNat 110 :: Char.ofNat 70 :: Char.ofNat 105 :: Char.ofNat 114 :: Char.ofNat 115 :: Char.ofNat 116 :: Char.ofNat 115 :: Char.ofNat 32 :: Char.ofNat 108 :: Char.ofNat 111 :: Char.ofNat 111 :: Char.ofNat 112 :: Char.ofNat 46 :: Char.ofNat 101 :: Char.ofNat 120 :: Char.ofNat 97 :: Char.ofNat 109 :: Char.ofNat 112 :: Char.ofNat 108 :: Char.ofNat 101 :: Char.ofNat 47 :: Char.ofNat 103 :: Char.ofNat 48 :: Char.ofNat 48 :: Char.ofNat 55 :: Char.ofNat 53 :: Char.ofNat 56 :: Char.ofNat 47 :: Char.ofNat 108 :: Char.ofNat 97 :: Char.ofNat 119 :: Char.ofNat 115 :: Char.ofNat 46 :: Char.ofNat 70 :: Char.ofNat 110 :: Char.ofNat 82 :: Char.ofNat 101 :: Char.ofNat 119 :: Char.ofNat 114 :: Char.ofNat 105 :: Char.ofNat 116 :: Char.ofNat 101 :: Char.ofNat 115 :: Char.ofNat 32 :: Char.ofNat 108 :: Char.ofNat 111 :: Char.ofNat 111 :: Char.ofNat 112 :: Char.ofNat 46 :: Char.ofNat 101 :: Char.ofNat 120 :: Char.ofNat 97 :: Char.ofNat 109 :: Char.ofNat 112 :: Char.ofNat 108 :: Char.ofNat 101 :: Char.ofNat 47 :: Char.ofNat 103 :: Char.ofNat 48 :: Char.ofNat 48 :: Char.ofNat 55 :: Char.ofNat 53 :: Char.ofNat 56 :: Char.ofNat 47 :: Char.ofNat 108 :: Char.ofNat 97 :: Char.ofNat 119 :: Char.ofNat 115 :: Char.ofNat 46 :: Char.ofNat 70 :: Char.ofNat 110 :: Char.ofNat 67 :: Char.ofNat 101 :: Char.ofNat 108 :: Char.ofNat 108 :: Char.ofNat 115 :: Char.ofNat 32 :: Char.ofNat 108 :: Char.ofNat 111 :: Char.ofNat 111 :: Char.ofNat 112 :: Char.ofNat 46 :: Char.ofNat 101 :: Char.ofNat 120 :: Char.ofNat 97 :: Char.ofNat 109 :: Char.ofNat 112 :: Char.ofNat 108 :: Char.ofNat 101 :: Char.ofNat 47 :: Char.ofNat 103 :: Char.ofNat 48 :: Char.ofNat 48 :: Char.ofNat 55 :: Char.ofNat 53 :: Char.ofNat 56 :: Char.ofNat 47 :: Char.ofNat 108 :: Char.ofNat 97 :: Char.ofNat 119 :: Char.ofNat 115 :: Char.ofNat 46 :: Char.ofNat 70 :: Char.ofNat 110 :: Char.ofNat 84 :: Char.ofNat 114 :: Char.ofNat 101 :: Char.ofNat 101 :: Char.ofNat 84 :: Char.ofNat 101 :: Char.ofNat 120 :: Char.ofNat 116 :: []
theorem io0 : Try.prog.initOrder = "harness f7164c210c45d6bfadf6739227515e3fd55638b06c98691f68db397608feee3d cut at loop.example/g00758/laws.FnFirsts loop.example/g00758/laws.FnRewrites loop.example/g00758/laws.FnCells loop.example/g00758/laws.FnTreeText" := by kernel_rfl
theorem io1 : "harness f7164c210c45d6bfadf6739227515e3fd55638b06c98691f68db397608feee3d cut at loop.example/g00758/laws.FnFirsts loop.example/g00758/laws.FnRewrites loop.example/g00758/laws.FnCells loop.example/g00758/laws.FnTreeText" = String.ofList (Char.ofNat 104 :: Char.ofNat 97 :: Char.ofNat 114 :: Char.ofNat 110 :: Char.ofNat 101 :: Char.ofNat 115 :: Char.ofNat 115 :: Char.ofNat 32 :: Char.ofNat 102 :: Char.ofNat 55 :: Char.ofNat 49 :: Char.ofNat 54 :: Char.ofNat 52 :: Char.ofNat 99 :: Char.ofNat 50 :: Char.ofNat 49 :: Char.ofNat 48 :: Char.ofNat 99 :: Char.ofNat 52 :: Char.ofNat 53 :: Char.ofNat 100 :: Char.ofNat 54 :: Char.ofNat 98 :: Char.ofNat 102 :: Char.ofNat 97 :: Char.ofNat 100 :: Char.ofNat 102 :: Char.ofNat 54 :: Char.ofNat 55 :: Char.ofNat 51 :: Char.ofNat 57 :: Char.ofNat 50 :: Char.ofNat 50 :: Char.ofNat 55 :: Char.ofNat 53 :: Char.ofNat 49 :: Char.ofNat 53 :: Char.ofNat 101 :: Char.ofNat 51 :: Char.ofNat 102 :: Char.ofNat 100 :: Char.ofNat 53 :: Char.ofNat 53 :: Char.ofNat 54 :: Char.ofNat 51 :: Char.ofNat 56 :: Char.ofNat 98 :: Char.ofNat 48 :: Char.ofNat 54 :: Char.ofNat 99 :: Char.ofNat 57 :: Char.ofNat 56 :: Char.ofNat 54 :: Char.ofNat 57 :: Char.ofNat 49 :: Char.ofNat 102 :: Char.ofNat 54 :: Char.ofNat 56 :: Char.ofNat 100 :: Char.ofNat 98 :: Char.ofNat 51 :: Char.ofNat 57 :: Char.ofNat 55 :: Char.ofNat 54 :: Char.ofNat 48 :: Char.ofNat 56 :: Char.ofNat 102 :: Char.ofNat 101 :: Char.ofNat 101 :: Char.ofNat 101 :: Char.ofNat 51 :: Char.ofNat 100 :: Char.ofNat 32 :: Char.ofNat 99 :: Char.ofNat 117 :: Char.ofNat 116 :: Char.ofNat 32 :: Char.ofNat 97 :: Char.ofNat 116 :: Char.ofNat 32 :: Char.ofNat 108 :: Char.ofNat 111 :: Char.ofNat 111 :: Char.ofNat 112 :: Char.ofNat 46 :: Char.ofNat 101 :: Char.ofNat 120 :: Char.ofNat 97 :: Char.ofNat 109 :: Char.ofNat 112 :: Char.ofNat 108 :: Char.ofNat 101 :: Char.ofNat 47 :: Char.ofNat 103 :: Char.ofNat 48 :: Char.ofNat 48 :: Char.ofNat 55 :: Char.ofNat 53 :: Char.ofNat 56 :: Char.ofNat 47 :: Char.ofNat 108 :: Char.ofNat 97 :: Char.ofNat 119 :: Char.ofNat 115 :: Char.ofNat 46 :: Char.ofNat 70 :: Char.ofNat 110 :: Char.ofNat 70 :: Char.ofNat 105 :: Char.ofNat 114 :: Char.ofNat 115 :: Char.ofNat 116 :: Char.ofNat 115 :: Char.ofNat 32 :: Char.ofNat 108 :: Char.ofNat 111 :: Char.ofNat 111 :: Char.ofNat 112 :: Char.ofNat 46 :: Char.ofNat 101 :: Char.ofNat 120 :: Char.ofNat 97 :: Char.ofNat 109 :: Char.ofNat 112 :: Char.ofNat 108 :: Char.ofNat 101 :: Char.ofNat 47 :: Char.ofNat 103 :: Char.ofNat 48 :: Char.ofNat 48 :: Char.ofNat 55 :: Char.ofNat 53 :: Char.ofNat 56 :: Char.ofNat 47 :: Char.ofNat 108 :: Char.ofNat 97 :: Char.ofNat 119 :: Char.ofNat 115 :: Char.ofNat 46 :: Char.ofNat 70 :: Char.ofNat 110 :: Char.ofNat 82 :: Char.ofNat 101 :: Char.ofNat 119 :: Char.ofNat 114 :: Char.ofNat 105 :: Char.ofNat 116 :: Char.ofNat 101 :: Char.ofNat 115 :: Char.ofNat 32 :: Char.ofNat 108 :: Char.ofNat 111 :: Char.ofNat 111 :: Char.ofNat 112 :: Char.ofNat 46 :: Char.ofNat 101 :: Char.ofNat 120 :: Char.ofNat 97 :: Char.ofNat 109 :: Char.ofNat 112 :: Char.ofNat 108 :: Char.ofNat 101 :: Char.ofNat 47 :: Char.ofNat 103 :: Char.ofNat 48 :: Char.ofNat 48 :: Char.ofNat 55 :: Char.ofNat 53 :: Char.ofNat 56 :: Char.ofNat 47 :: Char.ofNat 108 :: Char.ofNat 97 :: Char.ofNat 119 :: Char.ofNat 115 :: Char.ofNat 46 :: Char.ofNat 70 :: Char.ofNat 110 :: Char.ofNat 67 :: Char.ofNat 101 :: Char.ofNat 108 :: Char.ofNat 108 :: Char.ofNat 115 :: Char.ofNat 32 :: Char.ofNat 108 :: Char.ofNat 111 :: Char.ofNat 111 :: Char.ofNat 112 :: Char.ofNat 46 :: Char.ofNat 101 :: Char.ofNat 120 :: Char.ofNat 97 :: Char.ofNat 109 :: Char.ofNat 112 :: Char.ofNat 108 :: Char.ofNat 101 :: Char.ofNat 47 :: Char.ofNat 103 :: Char.ofNat 48 :: Char.ofNat 48 :: Char.ofNat 55 :: Char.ofNat 53 :: Char.ofNat 56 :: Char.ofNat 47 :: Char.ofNat 108 :: Char.ofNat 97 :: Char.ofNat 119 :: Char.ofNat 115 :: Char.ofNat 46 :: Char.ofNat 70 :: Char.ofNat 110 :: Char.ofNat 84 :: Char.ofNat 114 :: Char.ofNat 101 :: Char.ofNat 101 :: Char.ofNat 84 :: Char.ofNat 101 :: Char.ofNat 120 :: Char.ofNat 116 :: []) := by kernel_rfl
theorem io : Try.prog.initOrder = String.ofList (Char.ofNat 104 :: Char.ofNat 97 :: Char.ofNat 114 :: Char.ofNat 110 :: Char.ofNat 101 :: Char.ofNat 115 :: Char.ofNat 115 :: Char.ofNat 32 :: Char.ofNat 102 :: Char.ofNat 55 :: Char.ofNat 49 :: Char.ofNat 54 :: Char.ofNat 52 :: Char.ofNat 99 :: Char.ofNat 50 :: Char.ofNat 49 :: Char.ofNat 48 :: Char.ofNat 99 :: Char.ofNat 52 :: Char.ofNat 53 :: Char.ofNat 100 :: Char.ofNat 54 :: Char.ofNat 98 :: Char.ofNat 102 :: Char.ofNat 97 :: Char.ofNat 100 :: Char.ofNat 102 :: Char.ofNat 54 :: Char.ofNat 55 :: Char.ofNat 51 :: Char.ofNat 57 :: Char.ofNat 50 :: Char.ofNat 50 :: Char.ofNat 55 :: Char.ofNat 53 :: Char.ofNat 49 :: Char.ofNat 53 :: Char.ofNat 101 :: Char.ofNat 51 :: Char.ofNat 102 :: Char.ofNat 100 :: Char.ofNat 53 :: Char.ofNat 53 :: Char.ofNat 54 :: Char.ofNat 51 :: Char.ofNat 56 :: Char.ofNat 98 :: Char.ofNat 48 :: Char.ofNat 54 :: Char.ofNat 99 :: Char.ofNat 57 :: Char.ofNat 56 :: Char.ofNat 54 :: Char.ofNat 57 :: Char.ofNat 49 :: Char.ofNat 102 :: Char.ofNat 54 :: Char.ofNat 56 :: Char.ofNat 100 :: Char.ofNat 98 :: Char.ofNat 51 :: Char.ofNat 57 :: Char.ofNat 55 :: Char.ofNat 54 :: Char.ofNat 48 :: Char.ofNat 56 :: Char.ofNat 102 :: Char.ofNat 101 :: Char.ofNat 101 :: Char.ofNat 101 :: Char.ofNat 51 :: Char.ofNat 100 :: Char.ofNat 32 :: Char.ofNat 99 :: Char.ofNat 117 :: Char.ofNat 116 :: Char.ofNat 32 :: Char.ofNat 97 :: Char.ofNat 116 :: Char.ofNat 32 :: Char.ofNat 108 :: Char.ofNat 111 :: Char.ofNat 111 :: Char.ofNat 112 :: Char.ofNat 46 :: Char.ofNat 101 :: Char.ofNat 120 :: Char.ofNat 97 :: Char.ofNat 109 :: Char.ofNat 112 :: Char.ofNat 108 :: Char.ofNat 101 :: Char.ofNat 47 :: Char.ofNat 103 :: Char.ofNat 48 :: Char.ofNat 48 :: Char.ofNat 55 :: Char.ofNat 53 :: Char.ofNat 56 :: Char.ofNat 47 :: Char.ofNat 108 :: Char.ofNat 97 :: Char.ofNat 119 :: Char.ofNat 115 :: Char.ofNat 46 :: Char.ofNat 70 :: Char.ofNat 110 :: Char.ofNat 70 :: Char.ofNat 105 :: Char.ofNat 114 :: Char.ofNat 115 :: Char.ofNat 116 :: Char.ofNat 115 :: Char.ofNat 32 :: Char.ofNat 108 :: Char.ofNat 111 :: Char.ofNat 111 :: Char.ofNat 112 :: Char.ofNat 46 :: Char.ofNat 101 :: Char.ofNat 120 :: Char.ofNat 97 :: Char.ofNat 109 :: Char.ofNat 112 :: Char.ofNat 108 :: Char.ofNat 101 :: Char.ofNat 47 :: Char.ofNat 103 :: Char.ofNat 48 :: Char.ofNat 48 :: Char.ofNat 55 :: Char.ofNat 53 :: Char.ofNat 56 :: Char.ofNat 47 :: Char.ofNat 108 :: Char.ofNat 97 :: Char.ofNat 119 :: Char.ofNat 115 :: Char.ofNat 46 :: Char.ofNat 70 :: Char.ofNat 110 :: Char.ofNat 82 :: Char.ofNat 101 :: Char.ofNat 119 :: Char.ofNat 114 :: Char.ofNat 105 :: Char.ofNat 116 :: Char.ofNat 101 :: Char.ofNat 115 :: Char.ofNat 32 :: Char.ofNat 108 :: Char.ofNat 111 :: Char.ofNat 111 :: Char.ofNat 112 :: Char.ofNat 46 :: Char.ofNat 101 :: Char.ofNat 120 :: Char.ofNat 97 :: Char.ofNat 109 :: Char.ofNat 112 :: Char.ofNat 108 :: Char.ofNat 101 :: Char.ofNat 47 :: Char.ofNat 103 :: Char.ofNat 48 :: Char.ofNat 48 :: Char.ofNat 55 :: Char.ofNat 53 :: Char.ofNat 56 :: Char.ofNat 47 :: Char.ofNat 108 :: Char.ofNat 97 :: Char.ofNat 119 :: Char.ofNat 115 :: Char.ofNat 46 :: Char.ofNat 70 :: Char.ofNat 110 :: Char.ofNat 67 :: Char.ofNat 101 :: Char.ofNat 108 :: Char.ofNat 108 :: Char.ofNat 115 :: Char.ofNat 32 :: Char.ofNat 108 :: Char.ofNat 111 :: Char.ofNat 111 :: Char.ofNat 112 :: Char.ofNat 46 :: Char.ofNat 101 :: Char.ofNat 120 :: Char.ofNat 97 :: Char.ofNat 109 :: Char.ofNat 112 :: Char.ofNat 108 :: Char.ofNat 101 :: Char.ofNat 47 :: Char.ofNat 103 :: Char.ofNat 48 :: Char.ofNat 48 :: Char.ofNat 55 :: Char.ofNat 53 :: Char.ofNat 56 :: Char.ofNat 47 :: Char.ofNat 108 :: Char.ofNat 97 :: Char.ofNat 119 :: Char.ofNat 115 :: Char.ofNat 46 :: Char.ofNat 70 :: Char.ofNat 110 :: Char.ofNat 84 :: Char.ofNat 114 :: Char.ofNat 101 :: Char.ofNat 101 :: Char.ofNat 84 :: Char.ofNat 101 :: Char.ofNat 120 :: Char.ofNat 116 :: []) := io0.trans io1
theorem io2 : Try.prog.initOrder.toList = signs := by rw [io, String.toList_ofList]; rfl
def behind : List (List Char) := [[Char.ofNat 99, Char.ofNat 117, Char.ofNat 116], [Char.ofNat 97, Char.ofNat 116], [Char.ofNat 108, Char.ofNat 111, Char.ofNat 111, Char.ofNat 112, Char.ofNat 46, Char.ofNat 101, Char.ofNat 120, Char.ofNat 97, Char.ofNat 109, Char.ofNat 112, Char.ofNat 108, Char.ofNat 101, Char.ofNat 47, Char.ofNat 103, Char.ofNat 48, Char.ofNat 48, Char.ofNat 55, Char.ofNat 53, Char.ofNat 56, Char.ofNat 47, Char.ofNat 108, Char.ofNat 97, Char.ofNat 119, Char.ofNat 115, Char.ofNat 46, Char.ofNat 70, Char.ofNat 110, Char.ofNat 70, Char.ofNat 105, Char.ofNat 114, Char.ofNat 115, Char.ofNat 116, Char.ofNat 115], [Char.ofNat 108, Char.ofNat 111, Char.ofNat 111, Char.ofNat 112, Char.ofNat 46, Char.ofNat 101, Char.ofNat 120, Char.ofNat 97, Char.ofNat 109, Char.ofNat 112, Char.ofNat 108, Char.ofNat 101, Char.ofNat 47, Char.ofNat 103, Char.ofNat 48, Char.ofNat 48, Char.ofNat 55, Char.ofNat 53, Char.ofNat 56, Char.ofNat 47, Char.ofNat 108, Char.ofNat 97, Char.ofNat 119, Char.ofNat 115, Char.ofNat 46, Char.ofNat 70, Char.ofNat 110, Char.ofNat 82, Char.ofNat 101, Char.ofNat 119, Char.ofNat 114, Char.ofNat 105, Char.ofNat 116, Char.ofNat 101, Char.ofNat 115], [Char.ofNat 108, Char.ofNat 111, Char.ofNat 111, Char.ofNat 112, Char.ofNat 46, Char.ofNat 101, Char.ofNat 120, Char.ofNat 97, Char.ofNat 109, Char.ofNat 112, Char.ofNat 108, Char.ofNat 101, Char.ofNat 47, Char.ofNat 103, Char.ofNat 48, Char.ofNat 48, Char.ofNat 55, Char.ofNat 53, Char.ofNat 56, Char.ofNat 47, Char.ofNat 108, Char.ofNat 97, Char.ofNat 119, Char.ofNat 115, Char.ofNat 46, Char.ofNat 70, Char.ofNat 110, Char.ofNat 67, Char.ofNat 101, Char.ofNat 108, Char.ofNat 108, Char.ofNat 115], [Char.ofNat 108, Char.ofNat 111, Char.ofNat 111, Char.ofNat 112, Char.ofNat 46, Char.ofNat 101, Char.ofNat 120, Char.ofNat 97, Char.ofNat 109, Char.ofNat 112, Char.ofNat 108, Char.ofNat 101, Char.ofNat 47, Char.ofNat 103, Char.ofNat 48, Char.ofNat 48, Char.ofNat 55, Char.ofNat 53, Char.ofNat 56, Char.ofNat 47, Char.ofNat 108, Char.ofNat 97, Char.ofNat 119, Char.ofNat 115, Char.ofNat 46, Char.ofNat 70, Char.ofNat 110, Char.ofNat 84, Char.ofNat 114, Char.ofNat 101, Char.ofNat 101, Char.ofNat 84, Char.ofNat 101, Char.ofNat 120, Char.ofNat 116]]
theorem io4 : behindMainWord (wordsSigns signs) = behind := by kernel_rfl
theorem io3 : behindMainWord (wordsSigns Try.prog.initOrder.toList) = behind := by rw [io2, io4]
theorem may : Try.prog.mayEnter = true := may_of (l := []) io3 (by rfl) (by kernel_rfl) (by kernel_rfl) (by kernel_rfl) (by kernel_rfl) rfl (by kernel_rfl)
theorem fin : Try.prog.liftsFinal = false := lifts_of io3 (by kernel_rfl) (by kernel_rfl)
theorem mk : Try.prog.make = some .cut := make_of io3 (by rfl) (by kernel_rfl) (by kernel_rfl)
theorem own : ownKnob Try.prog.godebug = none := by kernel_rfl
theorem laidOut : laidOutB Try.prog = true := by kernel_rfl
theorem rowed : mapsRowed Try.prog = true := by kernel_rfl
def zbh_ (P : Program) (f : FuncId) (fn : Func) (s : ChangeSpec) (c : OpenClaim) : Bool :=
  c.wf (OpenSpec.ofChange s) && fn.params.all (P.readableRec ·) && namedTie P c.named s.vars && (c.stops == []) && (P.stops == []) && (c.knobs == []) && (P.stopKnobs == []) && (c.inPlace == P.inPlace f) && (c.unfollowed == P.unfollowed f) && (c.recurses == P.recurses f) && (c.named == P.varsNamed f) && (c.maps == (fn.params.toList ++ s.plain.varTypes P).any (P.mapsRec ·)) && (c.ifaces == (fn.params.toList ++ s.plain.varTypes P).any (P.ifacesRec ·)) && (c.mapsOut == P.mapsAmong fn.resultTypes.toList) && (c.loops == (fn.params.toList ++ s.plain.varTypes P).any (P.loopsFrom ·)) && (c.wideKeys == (fn.params.toList ++ s.plain.varTypes P ++ fn.resultTypes.toList).any (P.wideKeysFrom ·)) && s.vars.all (P.varReadable ·) && fn.resultTypes.all (fun t => P.readableRec t && decide (t < P.types.size)) && (c.ifacesOut == fn.resultTypes.toList.any (P.ifacesRec ·)) && (c.loopsOut == fn.resultTypes.toList.any (P.loopsFrom ·)) && (c.plainKeys == P.plainKeys) && c.shortTexts.isNone && P.stopsHeard && (c.kinds == (if c.domain.isEmpty then [] else fn.params.toList.map fun t => match P.underlying t with | some (.int k) => some k | _ => none)) && (c.pinned == c.pinnedBy) && (c.veiled == (fn.params.toList ++ s.plain.varTypes P ++ fn.resultTypes.toList).any (P.veiledRec ·)) && c.veiledFits P fn.params.toList (fn.params.toList ++ s.plain.varTypes P ++ fn.resultTypes.toList)
theorem facts_of {f : FuncId} {fn : Func} {s : ChangeSpec} {c : OpenClaim} (hl : c.lifted = false) (hm : c.make = .cut) (h : zbh_ Try.prog f fn s c = true) : joinedFacts Try.prog f fn s c = true := by
  unfold zbh_ at h
  unfold joinedFacts
  simp only [Bool.and_eq_true] at h ⊢
  obtain ⟨⟨⟨⟨⟨⟨⟨⟨⟨⟨⟨⟨⟨⟨⟨⟨⟨⟨⟨⟨⟨⟨⟨⟨⟨⟨k0, k3⟩, k4⟩, k5⟩, k6⟩, k7⟩, k8⟩, k9⟩, k10⟩, k11⟩, k12⟩, k13⟩, k14⟩, k15⟩, k16⟩, k17⟩, k18⟩, k19⟩, k20⟩, k21⟩, k22⟩, k23⟩, k24⟩, k28⟩, k29⟩, k30⟩, k31⟩ := h
  exact ⟨⟨⟨⟨⟨⟨⟨⟨⟨⟨⟨⟨⟨⟨⟨⟨⟨⟨⟨⟨⟨⟨⟨⟨⟨⟨⟨⟨⟨⟨⟨k0, laidOut⟩, rowed⟩, k3⟩, k4⟩, k5⟩, k6⟩, k7⟩, k8⟩, k9⟩, k10⟩, k11⟩, k12⟩, k13⟩, k14⟩, k15⟩, k16⟩, k17⟩, k18⟩, k19⟩, k20⟩, k21⟩, k22⟩, k23⟩, k24⟩, may⟩, (by rw [hl, fin]; rfl)⟩, (by rw [hm, mk]; rfl)⟩, k28⟩, k29⟩, k30⟩, k31⟩
end Go.Proofs.Yteabbgaffgpegaa
