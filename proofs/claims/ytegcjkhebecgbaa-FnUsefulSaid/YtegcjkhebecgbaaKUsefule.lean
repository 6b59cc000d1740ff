/- Texts of this repository put together: ShF2, ShF3, ShF4, ShF5, ShF6, ShB1, ShF7, ShX3, Bk, ShX5, ShX4, ShX6, ShX7, ShXA. -/
import Derived.Test.YtegcjkhebecgbaaKUsefuld
import Derived.Test.YtegcjkhebecgbaaKUsefulc
import Derived.Test.YtegcjkhebecgbaaKUsefulb
import Derived.WideKeyArr
import Derived.WideMake
import Derived.Test.YtegcjkhebecgbaaProg
import Derived.Test.YtegcjkhebecgbaaKUsefula

/- Contracts: what derives something, by the reference (l3Close, NullableOf, ProductiveOf). -/
set_option linter.unusedVariables false
set_option linter.unusedSimpArgs false
set_option maxRecDepth 100000
namespace Go.Sh
open Go
def tstC (tok : Bool) (out : List Int) (x : Int) : Bool := (decide (x < 0) && tok) || (decide (0 ≤ x) && decide (x ∈ out))
/-- A set that has what a predicate says at most. -/
structure SetOk (P : Nat → Prop) (nons : Nat) (out : List Int) : Prop where
  rise : RiseI out
  ok : ∀ x ∈ out, ∃ A : Nat, x = A ∧ A < nons ∧ P A
theorem SetOk.len {P : Nat → Prop} {nons : Nat} {out : List Int} (h : SetOk P nons out) : out.length ≤ nons := by
  have := rise_len (a := 0) (n := nons) h.rise (fun x hx => by obtain ⟨A, rfl, h1, _⟩ := h.ok x hx; omega) (by omega)
  omega
theorem SetOk.put {P : Nat → Prop} {nons A : Nat} {out : List Int} (h : SetOk P nons out) (hA : A < nons) (hP : P A) : SetOk P nons (putL (A : Int) out) :=
  ⟨putL_rise h.rise, fun x hx => by
    rcases putL_mem.1 hx with rfl | hx
    · exact ⟨A, rfl, hA, hP⟩
    · exact h.ok x hx⟩
theorem SetOk.eq {P : Nat → Prop} {nons : Nat} {out : List Int} (h : SetOk P nons out) (hc : ∀ A : Nat, A < nons → P A → (A : Int) ∈ out) : out = setL nons P := by
  refine rise_ext h.rise (setL_rise _ _) fun m => ?_
  rw [setL_mem]
  constructor
  · exact fun hm => by
      obtain ⟨A, e, h1, h2⟩ := h.ok m hm
      exact ⟨A, e, h1, h2⟩
  · rintro ⟨A, rfl, h1, h2⟩
    exact hc A h1 h2
theorem SetOk.nil (P : Nat → Prop) (nons : Nat) : SetOk P nons [] := ⟨.nil, fun x hx => by simp at hx⟩
theorem tstC_iff {P : Nat → Prop} {tok : Bool} {nons : Nat} {out : List Int} (h : SetOk P nons out) {xs : List Int} (ha : xs.all (tstC tok out) = true) : (∀ x ∈ xs, x < 0 → tok = true) ∧ ∀ x ∈ xs, ¬ x < 0 → P x.toNat := by
  rw [List.all_eq_true] at ha
  refine ⟨fun x hx h0 => ?_, fun x hx h0 => ?_⟩
  · have := ha x hx
    simp only [tstC, h0, decide_true, Bool.true_and, Bool.or_eq_true, Bool.and_eq_true, decide_eq_true_eq] at this
    rcases this with h1 | h1
    · exact h1
    · omega
  · have := ha x hx
    simp only [tstC, h0, decide_false, Bool.false_and, Bool.false_or, Bool.and_eq_true, decide_eq_true_eq] at this
    obtain ⟨A, e, _, h2⟩ := h.ok x this.2
    rw [e, Int.toNat_natCast]
    exact h2
/-- When no rule adds, nothing is missing. -/
theorem clo_in {rs : List RuleL} {tok : Bool} {out : List Int} (hc : ∀ r ∈ rs, r.1 ∉ out → r.2.all (tstC tok out) = false) {A : Nat} (h : Clo rs tok A) : (A : Int) ∈ out := by
  induction h with
  | @mk A r h1 h2 h3 _ ih =>
    by_cases hm : (A : Int) ∈ out
    · exact hm
    · have := hc r h1 (by rw [h2]; exact hm)
      rw [List.all_eq_false] at this
      obtain ⟨x, hx, hn⟩ := this
      exfalso
      apply hn
      by_cases h0 : x < 0
      · simp [tstC, h0, h3 x hx h0]
      · have := ih x hx h0
        rw [show ((x.toNat : Nat) : Int) = x from by omega] at this
        simp [tstC, h0, this]
        omega
noncomputable def cloV (gm : Gram) (tok : Bool) : List Int := setL gm.nons.toNat (Clo gm.rules tok)
theorem all_take_succ {p : Int → Bool} {xs : List Int} {j : Nat} (h : j < xs.length) : (xs.take (j + 1)).all p = ((xs.take j).all p && p (xs.getD j 0)) := by
  rw [take_snoc h, List.all_append]
  simp
end Go.Sh
namespace Go.Proofs.Ytegcjkhebecgbaa
open Go Go.Sh Go.RowKit
section
variable {w : World} {Y : Option Addr} {cy : Nat} {gm : Gram} {k : Value → World → Prop}
set_option maxHeartbeats 3200000 in
theorem l3Close_c {tok : Bool} (hG : kG Y cy gm.rules w) (hn : 0 ≤ gm.nons ∧ gm.nons ≤ 6) (hl : ∀ r ∈ gm.rules, 0 ≤ r.1 ∧ r.1 < gm.nons) (hr : ∀ r ∈ gm.rules, r.2.length ≤ 1000) (hk : ∀ w' X c, Gr w w' → kI X (cloV gm tok) c w' → k (.slice X (cloV gm tok).length c) w') :
    CallK Try.prog 192 [grv gm Y cy, .bool tok] k w := by
  refine enter192 ?_
  unfold S192
  have H := (Kn.nil w).addG hG.1 hG.2
  refine do_box fun b1 w1 g1 hb B1 => ?_
  have H := (H.step g1).addB B1
  simp only [List.cons_append, List.nil_append] at H
  have hrl := (H.get 1 rfl).2.le
  refine loop_ghost (σ := List Int × Bool) (fun s f w' => (∃ X c, f 5 = .slice X s.1.length c ∧ kI X s.1 c w') ∧ f 6 = .bool s.2 ∧ Gr w1 w' ∧ SetOk (Clo gm.rules tok) gm.nons.toNat s.1 ∧ (s.2 = false → ∀ r ∈ gm.rules, r.1 ∉ s.1 → r.2.all (tstC tok s.1) = false))
    (fun s => if s.2 = true then 8 - s.1.length else 0) ([], true) ⟨⟨none, 0, rfl, ⟨⟨by simp, fun h => by simp at h, fun j hj => by simp at hj⟩, Nat.le_refl _⟩⟩, rfl, Gr.refl _, SetOk.nil _ _, fun h => by cases h⟩ ?_
  rintro ⟨out, more⟩ f w2 N hag ⟨⟨X, c, h5, hX⟩, h6, g, hok, hcl⟩ hN
  dsimp only at h5 hX h6 hok hcl hN
  have f2 : f 2 = ptrv b1 := hag 2 (by decide)
  have f1 : f 1 = .bool tok := hag 1 (by decide)
  simp only [h5, h6, f2, bin_add, bin_sub, bin_mul, bin_eql, bin_neq, bin_lss, bin_leq, bin_gtr, bin_geq, un_not, un_neg, zq4, zq3, zq1, zq2, zq0, cond_true', cond_false', zq14, zq15, zq16, zq17, zq13, zq10, zq12, zq11, zq7, zq5, zq6, zq9, zq8, resK_nil, resK_tmp, ite_T, ite_F, upd_at, add_plain, add_zero', Nat.reduceEqDiff, fa8_0, fa8_1, fa8_2, fa8_3, fa14_0, fa14_1, fa19_0, len22, len24, fa26_0, fa26_1, fa26_2, len27, fa33_0, fa33_1, len35, fa77_0, fa77_1, fa88_0, fa88_1, fa88_2, fa88_3, fa88_4, fa88_5, fa114_0, fa114_1, fa114_2, fa124_0, fa124_1, len134, len136, len154, fa156_0, fa156_1, fa156_2, fa156_3, fa156_4, fa156_5, fa156_6, fa184_0, fa184_1, fa200_0, fa200_1, fa200_2, fa200_3, fa215_0, fa215_1, fa215_2, fa215_3, fa215_4, len218, len271, fa274_0, fa274_1, fa274_2, fa303_0, fa303_1, fa303_2, fa303_3, fa314_0, fa314_1, fa314_2, fa314_3, fa314_4, fa314_5, fa314_6, fa314_7, fa314_8, fa314_9, fa314_10]
  have H := H.step g
  have hlen := hok.len
  cases more
  · simp only [bin_add, bin_sub, bin_mul, bin_eql, bin_neq, bin_lss, bin_leq, bin_gtr, bin_geq, un_not, un_neg, zq4, zq3, zq1, zq2, zq0, cond_true', cond_false', zq14, zq15, zq16, zq17, zq13, zq10, zq12, zq11, zq7, zq5, zq6, zq9, zq8, resK_nil, resK_tmp, ite_T, ite_F, upd_at, add_plain, add_zero', Nat.reduceEqDiff, fa8_0, fa8_1, fa8_2, fa8_3, fa14_0, fa14_1, fa19_0, len22, len24, fa26_0, fa26_1, fa26_2, len27, fa33_0, fa33_1, len35, fa77_0, fa77_1, fa88_0, fa88_1, fa88_2, fa88_3, fa88_4, fa88_5, fa114_0, fa114_1, fa114_2, fa124_0, fa124_1, len134, len136, len154, fa156_0, fa156_1, fa156_2, fa156_3, fa156_4, fa156_5, fa156_6, fa184_0, fa184_1, fa200_0, fa200_1, fa200_2, fa200_3, fa215_0, fa215_1, fa215_2, fa215_3, fa215_4, len218, len271, fa274_0, fa274_1, fa274_2, fa303_0, fa303_1, fa303_2, fa303_3, fa314_0, fa314_1, fa314_2, fa314_3, fa314_4, fa314_5, fa314_6, fa314_7, fa314_8, fa314_9, fa314_10]
    have e : out = cloV gm tok := hok.eq fun A _ hA => clo_in (hcl rfl) hA
    subst e
    exact hk _ X c (H.get 0 rfl) hX
  simp only [bin_add, bin_sub, bin_mul, bin_eql, bin_neq, bin_lss, bin_leq, bin_gtr, bin_geq, un_not, un_neg, zq4, zq3, zq1, zq2, zq0, cond_true', cond_false', zq14, zq15, zq16, zq17, zq13, zq10, zq12, zq11, zq7, zq5, zq6, zq9, zq8, resK_nil, resK_tmp, ite_T, ite_F, upd_at, add_plain, add_zero', Nat.reduceEqDiff, fa8_0, fa8_1, fa8_2, fa8_3, fa14_0, fa14_1, fa19_0, len22, len24, fa26_0, fa26_1, fa26_2, len27, fa33_0, fa33_1, len35, fa77_0, fa77_1, fa88_0, fa88_1, fa88_2, fa88_3, fa88_4, fa88_5, fa114_0, fa114_1, fa114_2, fa124_0, fa124_1, len134, len136, len154, fa156_0, fa156_1, fa156_2, fa156_3, fa156_4, fa156_5, fa156_6, fa184_0, fa184_1, fa200_0, fa200_1, fa200_2, fa200_3, fa215_0, fa215_1, fa215_2, fa215_3, fa215_4, len218, len271, fa274_0, fa274_1, fa274_2, fa303_0, fa303_1, fa303_2, fa303_3, fa314_0, fa314_1, fa314_2, fa314_3, fa314_4, fa314_5, fa314_6, fa314_7, fa314_8, fa314_9, fa314_10]
  rw [ldB24 (H.get 2 rfl) rfl]
  simp only [bin_add, bin_sub, bin_mul, bin_eql, bin_neq, bin_lss, bin_leq, bin_gtr, bin_geq, un_not, un_neg, zq4, zq3, zq1, zq2, zq0, cond_true', cond_false', zq14, zq15, zq16, zq17, zq13, zq10, zq12, zq11, zq7, zq5, zq6, zq9, zq8, resK_nil, resK_tmp, ite_T, ite_F, upd_at, add_plain, add_zero', Nat.reduceEqDiff, fa8_0, fa8_1, fa8_2, fa8_3, fa14_0, fa14_1, fa19_0, len22, len24, fa26_0, fa26_1, fa26_2, len27, fa33_0, fa33_1, len35, fa77_0, fa77_1, fa88_0, fa88_1, fa88_2, fa88_3, fa88_4, fa88_5, fa114_0, fa114_1, fa114_2, fa124_0, fa124_1, len134, len136, len154, fa156_0, fa156_1, fa156_2, fa156_3, fa156_4, fa156_5, fa156_6, fa184_0, fa184_1, fa200_0, fa200_1, fa200_2, fa200_3, fa215_0, fa215_1, fa215_2, fa215_3, fa215_4, len218, len271, fa274_0, fa274_1, fa274_2, fa303_0, fa303_1, fa303_2, fa303_3, fa314_0, fa314_1, fa314_2, fa314_3, fa314_4, fa314_5, fa314_6, fa314_7, fa314_8, fa314_9, fa314_10]
  refine loop_to gm.rules.length 0 (fun i f w' => i ≤ gm.rules.length ∧ f 16 = .int .i64 (i : Int) ∧ ∃ (X : Option Addr) (c : Nat) (out2 : List Int) (more2 : Bool), f 5 = .slice X out2.length c ∧ kI X out2 c w' ∧ f 6 = .bool more2 ∧ Gr w2 w' ∧ SetOk (Clo gm.rules tok) gm.nons.toNat out2 ∧
      (more2 = false → out2 = out ∧ ∀ q, q < i → (rul gm.rules q).1 ∉ out → (rul gm.rules q).2.all (tstC tok out) = false) ∧ (more2 = true → out.length < out2.length))
    ⟨Nat.zero_le _, rfl, X, c, out, false, h5, hX, rfl, Gr.refl _, hok, fun _ => ⟨rfl, fun q hq => by omega⟩, fun h => by cases h⟩ ?_
  rintro i q w3 N2 hag2 ⟨hi, q16, X, c, out2, more2, q5, hX, q6, g2, hok2, hno, hyes⟩ hN2
  have q14 : q 14 = .slice Y gm.rules.length cy := hag2 14 (by decide)
  have q15 : q 15 = .int .i64 gm.rules.length := hag2 15 (by decide)
  have q1 : q 1 = .bool tok := (hag2 1 (by decide)).trans f1
  simp only [q14, q15, q16, q5, q6, bin_add, bin_sub, bin_mul, bin_eql, bin_neq, bin_lss, bin_leq, bin_gtr, bin_geq, un_not, un_neg, zq4, zq3, zq1, zq2, zq0, cond_true', cond_false', zq14, zq15, zq16, zq17, zq13, zq10, zq12, zq11, zq7, zq5, zq6, zq9, zq8, resK_nil, resK_tmp, ite_T, ite_F, upd_at, add_plain, add_zero', Nat.reduceEqDiff, fa8_0, fa8_1, fa8_2, fa8_3, fa14_0, fa14_1, fa19_0, len22, len24, fa26_0, fa26_1, fa26_2, len27, fa33_0, fa33_1, len35, fa77_0, fa77_1, fa88_0, fa88_1, fa88_2, fa88_3, fa88_4, fa88_5, fa114_0, fa114_1, fa114_2, fa124_0, fa124_1, len134, len136, len154, fa156_0, fa156_1, fa156_2, fa156_3, fa156_4, fa156_5, fa156_6, fa184_0, fa184_1, fa200_0, fa200_1, fa200_2, fa200_3, fa215_0, fa215_1, fa215_2, fa215_3, fa215_4, len218, len271, fa274_0, fa274_1, fa274_2, fa303_0, fa303_1, fa303_2, fa303_3, fa314_0, fa314_1, fa314_2, fa314_3, fa314_4, fa314_5, fa314_6, fa314_7, fa314_8, fa314_9, fa314_10]
  by_cases hlt : i < gm.rules.length
  case neg =>
    simp only [show ¬ ((i : Int) < (gm.rules.length : Int)) from by omega, decide_false, bin_add, bin_sub, bin_mul, bin_eql, bin_neq, bin_lss, bin_leq, bin_gtr, bin_geq, un_not, un_neg, zq4, zq3, zq1, zq2, zq0, cond_true', cond_false', zq14, zq15, zq16, zq17, zq13, zq10, zq12, zq11, zq7, zq5, zq6, zq9, zq8, resK_nil, resK_tmp, ite_T, ite_F, upd_at, add_plain, add_zero', Nat.reduceEqDiff, fa8_0, fa8_1, fa8_2, fa8_3, fa14_0, fa14_1, fa19_0, len22, len24, fa26_0, fa26_1, fa26_2, len27, fa33_0, fa33_1, len35, fa77_0, fa77_1, fa88_0, fa88_1, fa88_2, fa88_3, fa88_4, fa88_5, fa114_0, fa114_1, fa114_2, fa124_0, fa124_1, len134, len136, len154, fa156_0, fa156_1, fa156_2, fa156_3, fa156_4, fa156_5, fa156_6, fa184_0, fa184_1, fa200_0, fa200_1, fa200_2, fa200_3, fa215_0, fa215_1, fa215_2, fa215_3, fa215_4, len218, len271, fa274_0, fa274_1, fa274_2, fa303_0, fa303_1, fa303_2, fa303_3, fa314_0, fa314_1, fa314_2, fa314_3, fa314_4, fa314_5, fa314_6, fa314_7, fa314_8, fa314_9, fa314_10]
    refine hN (out2, more2) _ _ ⟨⟨X, c, q5, hX⟩, q6, gr_trans g g2, hok2, fun hm r hr' hnot => ?_⟩ ?_
    · dsimp only at hm ⊢
      obtain ⟨e, hall⟩ := hno hm
      subst e
      obtain ⟨z, hz, rfl⟩ := List.getElem_of_mem hr'
      have := hall z (by omega)
      rw [rul_eq hz] at this
      exact this hnot
    · cases more2
      · simp
        omega
      · have := hyes rfl
        have := hok2.len
        simp
        omega
  simp only [show ((i : Int) < (gm.rules.length : Int)) from by omega, decide_true, bin_add, bin_sub, bin_mul, bin_eql, bin_neq, bin_lss, bin_leq, bin_gtr, bin_geq, un_not, un_neg, zq4, zq3, zq1, zq2, zq0, cond_true', cond_false', zq14, zq15, zq16, zq17, zq13, zq10, zq12, zq11, zq7, zq5, zq6, zq9, zq8, resK_nil, resK_tmp, ite_T, ite_F, upd_at, add_plain, add_zero', Nat.reduceEqDiff, fa8_0, fa8_1, fa8_2, fa8_3, fa14_0, fa14_1, fa19_0, len22, len24, fa26_0, fa26_1, fa26_2, len27, fa33_0, fa33_1, len35, fa77_0, fa77_1, fa88_0, fa88_1, fa88_2, fa88_3, fa88_4, fa88_5, fa114_0, fa114_1, fa114_2, fa124_0, fa124_1, len134, len136, len154, fa156_0, fa156_1, fa156_2, fa156_3, fa156_4, fa156_5, fa156_6, fa184_0, fa184_1, fa200_0, fa200_1, fa200_2, fa200_3, fa215_0, fa215_1, fa215_2, fa215_3, fa215_4, len218, len271, fa274_0, fa274_1, fa274_2, fa303_0, fa303_1, fa303_2, fa303_3, fa314_0, fa314_1, fa314_2, fa314_3, fa314_4, fa314_5, fa314_6, fa314_7, fa314_8, fa314_9, fa314_10]
  have hrm : rul gm.rules i ∈ gm.rules := by rw [rul_eq hlt]; exact List.getElem_mem hlt
  have H := H.step g2
  have H := H.addI hX.1 hX.2
  simp only [List.cons_append, List.nil_append] at H
  refine join_as (fun f w' => f 16 = .int .i64 (i : Int) ∧ ∃ (X : Option Addr) (c : Nat) (out2 : List Int) (more2 : Bool), f 5 = .slice X out2.length c ∧ kI X out2 c w' ∧ f 6 = .bool more2 ∧ Gr w2 w' ∧ SetOk (Clo gm.rules tok) gm.nons.toNat out2 ∧
      (more2 = false → out2 = out ∧ ∀ q, q < i + 1 → (rul gm.rules q).1 ∉ out → (rul gm.rules q).2.all (tstC tok out) = false) ∧ (more2 = true → out.length < out2.length)) (fun K hK => ?_) ?_
  case refine_2 =>
    rintro f w' ⟨f16, h⟩
    simp only [f16, bin_add, bin_sub, bin_mul, bin_eql, bin_neq, bin_lss, bin_leq, bin_gtr, bin_geq, un_not, un_neg, zq4, zq3, zq1, zq2, zq0, cond_true', cond_false', zq14, zq15, zq16, zq17, zq13, zq10, zq12, zq11, zq7, zq5, zq6, zq9, zq8, resK_nil, resK_tmp, ite_T, ite_F, upd_at, add_plain, add_zero', Nat.reduceEqDiff, fa8_0, fa8_1, fa8_2, fa8_3, fa14_0, fa14_1, fa19_0, len22, len24, fa26_0, fa26_1, fa26_2, len27, fa33_0, fa33_1, len35, fa77_0, fa77_1, fa88_0, fa88_1, fa88_2, fa88_3, fa88_4, fa88_5, fa114_0, fa114_1, fa114_2, fa124_0, fa124_1, len134, len136, len154, fa156_0, fa156_1, fa156_2, fa156_3, fa156_4, fa156_5, fa156_6, fa184_0, fa184_1, fa200_0, fa200_1, fa200_2, fa200_3, fa215_0, fa215_1, fa215_2, fa215_3, fa215_4, len218, len271, fa274_0, fa274_1, fa274_2, fa303_0, fa303_1, fa303_2, fa303_3, fa314_0, fa314_1, fa314_2, fa314_3, fa314_4, fa314_5, fa314_6, fa314_7, fa314_8, fa314_9, fa314_10]
    rw [i64_of (by omega) (by omega)]
    exact hN2 _ _ hlt ⟨by omega, rfl, h⟩
  have H := H.add (P := fun w' => Gr w2 w') fun w' g' => gr_trans g2 g'
  simp only [List.cons_append, List.nil_append] at H
  have hRF := (H.get 1 rfl).2
  refine rdi (ixn24 hRF.ptr hlt) ?_
  refine ld_rule agg33 sz33 hRF hlt fun v hv => ?_
  obtain ⟨Z, cz, rfl, hcz, hZ⟩ := hv
  have H := H.addI hZ.is hcz
  refine newR H fun b9 w4 H => ?_
  simp only [List.cons_append, List.nil_append] at H
  simp only [bin_add, bin_sub, bin_mul, bin_eql, bin_neq, bin_lss, bin_leq, bin_gtr, bin_geq, un_not, un_neg, zq4, zq3, zq1, zq2, zq0, cond_true', cond_false', zq14, zq15, zq16, zq17, zq13, zq10, zq12, zq11, zq7, zq5, zq6, zq9, zq8, resK_nil, resK_tmp, ite_T, ite_F, upd_at, add_plain, add_zero', Nat.reduceEqDiff, fa8_0, fa8_1, fa8_2, fa8_3, fa14_0, fa14_1, fa19_0, len22, len24, fa26_0, fa26_1, fa26_2, len27, fa33_0, fa33_1, len35, fa77_0, fa77_1, fa88_0, fa88_1, fa88_2, fa88_3, fa88_4, fa88_5, fa114_0, fa114_1, fa114_2, fa124_0, fa124_1, len134, len136, len154, fa156_0, fa156_1, fa156_2, fa156_3, fa156_4, fa156_5, fa156_6, fa184_0, fa184_1, fa200_0, fa200_1, fa200_2, fa200_3, fa215_0, fa215_1, fa215_2, fa215_3, fa215_4, len218, len271, fa274_0, fa274_1, fa274_2, fa303_0, fa303_1, fa303_2, fa303_3, fa314_0, fa314_1, fa314_2, fa314_3, fa314_4, fa314_5, fa314_6, fa314_7, fa314_8, fa314_9, fa314_10]
  rw [ldB3 (H.get 6 rfl) rfl]
  refine l1Has_c (H.get 3 rfl).1 fun w5 g5 => ?_
  have H := H.step g5
  simp only [bin_add, bin_sub, bin_mul, bin_eql, bin_neq, bin_lss, bin_leq, bin_gtr, bin_geq, un_not, un_neg, zq4, zq3, zq1, zq2, zq0, cond_true', cond_false', zq14, zq15, zq16, zq17, zq13, zq10, zq12, zq11, zq7, zq5, zq6, zq9, zq8, resK_nil, resK_tmp, ite_T, ite_F, upd_at, add_plain, add_zero', Nat.reduceEqDiff, fa8_0, fa8_1, fa8_2, fa8_3, fa14_0, fa14_1, fa19_0, len22, len24, fa26_0, fa26_1, fa26_2, len27, fa33_0, fa33_1, len35, fa77_0, fa77_1, fa88_0, fa88_1, fa88_2, fa88_3, fa88_4, fa88_5, fa114_0, fa114_1, fa114_2, fa124_0, fa124_1, len134, len136, len154, fa156_0, fa156_1, fa156_2, fa156_3, fa156_4, fa156_5, fa156_6, fa184_0, fa184_1, fa200_0, fa200_1, fa200_2, fa200_3, fa215_0, fa215_1, fa215_2, fa215_3, fa215_4, len218, len271, fa274_0, fa274_1, fa274_2, fa303_0, fa303_1, fa303_2, fa303_3, fa314_0, fa314_1, fa314_2, fa314_3, fa314_4, fa314_5, fa314_6, fa314_7, fa314_8, fa314_9, fa314_10]
  rw [ldB27 (H.get 6 rfl) rfl]
  simp only [bin_add, bin_sub, bin_mul, bin_eql, bin_neq, bin_lss, bin_leq, bin_gtr, bin_geq, un_not, un_neg, zq4, zq3, zq1, zq2, zq0, cond_true', cond_false', zq14, zq15, zq16, zq17, zq13, zq10, zq12, zq11, zq7, zq5, zq6, zq9, zq8, resK_nil, resK_tmp, ite_T, ite_F, upd_at, add_plain, add_zero', Nat.reduceEqDiff, fa8_0, fa8_1, fa8_2, fa8_3, fa14_0, fa14_1, fa19_0, len22, len24, fa26_0, fa26_1, fa26_2, len27, fa33_0, fa33_1, len35, fa77_0, fa77_1, fa88_0, fa88_1, fa88_2, fa88_3, fa88_4, fa88_5, fa114_0, fa114_1, fa114_2, fa124_0, fa124_1, len134, len136, len154, fa156_0, fa156_1, fa156_2, fa156_3, fa156_4, fa156_5, fa156_6, fa184_0, fa184_1, fa200_0, fa200_1, fa200_2, fa200_3, fa215_0, fa215_1, fa215_2, fa215_3, fa215_4, len218, len271, fa274_0, fa274_1, fa274_2, fa303_0, fa303_1, fa303_2, fa303_3, fa314_0, fa314_1, fa314_2, fa314_3, fa314_4, fa314_5, fa314_6, fa314_7, fa314_8, fa314_9, fa314_10]
  have hr2 := hr _ hrm
  refine loop_to (rul gm.rules i).2.length 0 (fun j f w' => j ≤ (rul gm.rules i).2.length ∧ f 28 = .int .i64 (j : Int) ∧ f 9 = .bool ((!decide ((rul gm.rules i).1 ∈ out2)) && ((rul gm.rules i).2.take j).all (tstC tok out2)) ∧ Gr w5 w')
    ⟨Nat.zero_le _, rfl, by simp; rfl, Gr.refl _⟩ ?_
  rintro j r w6 N3 hag3 ⟨hj, r28, r9, g6⟩ hN3
  have r1 : r 1 = .bool tok := (hag3 1 (by decide)).trans q1
  have r5 : r 5 = .slice X out2.length c := (hag3 5 (by decide)).trans q5
  have r6 : r 6 = .bool more2 := (hag3 6 (by decide)).trans q6
  have r8 : r 8 = ptrv b9 := hag3 8 (by decide)
  have r16 : r 16 = .int .i64 (i : Int) := (hag3 16 (by decide)).trans q16
  have r26 : r 26 = .slice Z (rul gm.rules i).2.length cz := hag3 26 (by decide)
  have r27 : r 27 = .int .i64 ((rul gm.rules i).2.length : Int) := hag3 27 (by decide)
  simp only [r1, r5, r6, r8, r9, r26, r27, r28, bin_add, bin_sub, bin_mul, bin_eql, bin_neq, bin_lss, bin_leq, bin_gtr, bin_geq, un_not, un_neg, zq4, zq3, zq1, zq2, zq0, cond_true', cond_false', zq14, zq15, zq16, zq17, zq13, zq10, zq12, zq11, zq7, zq5, zq6, zq9, zq8, resK_nil, resK_tmp, ite_T, ite_F, upd_at, add_plain, add_zero', Nat.reduceEqDiff, fa8_0, fa8_1, fa8_2, fa8_3, fa14_0, fa14_1, fa19_0, len22, len24, fa26_0, fa26_1, fa26_2, len27, fa33_0, fa33_1, len35, fa77_0, fa77_1, fa88_0, fa88_1, fa88_2, fa88_3, fa88_4, fa88_5, fa114_0, fa114_1, fa114_2, fa124_0, fa124_1, len134, len136, len154, fa156_0, fa156_1, fa156_2, fa156_3, fa156_4, fa156_5, fa156_6, fa184_0, fa184_1, fa200_0, fa200_1, fa200_2, fa200_3, fa215_0, fa215_1, fa215_2, fa215_3, fa215_4, len218, len271, fa274_0, fa274_1, fa274_2, fa303_0, fa303_1, fa303_2, fa303_3, fa314_0, fa314_1, fa314_2, fa314_3, fa314_4, fa314_5, fa314_6, fa314_7, fa314_8, fa314_9, fa314_10]
  have H := H.step g6
  by_cases hlt2 : j < (rul gm.rules i).2.length
  case neg =>
    simp only [show ¬ ((j : Int) < ((rul gm.rules i).2.length : Int)) from by omega, decide_false, r5, r6, r8, r9, bin_add, bin_sub, bin_mul, bin_eql, bin_neq, bin_lss, bin_leq, bin_gtr, bin_geq, un_not, un_neg, zq4, zq3, zq1, zq2, zq0, cond_true', cond_false', zq14, zq15, zq16, zq17, zq13, zq10, zq12, zq11, zq7, zq5, zq6, zq9, zq8, resK_nil, resK_tmp, ite_T, ite_F, upd_at, add_plain, add_zero', Nat.reduceEqDiff, fa8_0, fa8_1, fa8_2, fa8_3, fa14_0, fa14_1, fa19_0, len22, len24, fa26_0, fa26_1, fa26_2, len27, fa33_0, fa33_1, len35, fa77_0, fa77_1, fa88_0, fa88_1, fa88_2, fa88_3, fa88_4, fa88_5, fa114_0, fa114_1, fa114_2, fa124_0, fa124_1, len134, len136, len154, fa156_0, fa156_1, fa156_2, fa156_3, fa156_4, fa156_5, fa156_6, fa184_0, fa184_1, fa200_0, fa200_1, fa200_2, fa200_3, fa215_0, fa215_1, fa215_2, fa215_3, fa215_4, len218, len271, fa274_0, fa274_1, fa274_2, fa303_0, fa303_1, fa303_2, fa303_3, fa314_0, fa314_1, fa314_2, fa314_3, fa314_4, fa314_5, fa314_6, fa314_7, fa314_8, fa314_9, fa314_10]
    rw [List.take_of_length_le (by omega)]
    cases hfire : ((!decide ((rul gm.rules i).1 ∈ out2)) && (rul gm.rules i).2.all (tstC tok out2))
    · simp only [bin_add, bin_sub, bin_mul, bin_eql, bin_neq, bin_lss, bin_leq, bin_gtr, bin_geq, un_not, un_neg, zq4, zq3, zq1, zq2, zq0, cond_true', cond_false', zq14, zq15, zq16, zq17, zq13, zq10, zq12, zq11, zq7, zq5, zq6, zq9, zq8, resK_nil, resK_tmp, ite_T, ite_F, upd_at, add_plain, add_zero', Nat.reduceEqDiff, fa8_0, fa8_1, fa8_2, fa8_3, fa14_0, fa14_1, fa19_0, len22, len24, fa26_0, fa26_1, fa26_2, len27, fa33_0, fa33_1, len35, fa77_0, fa77_1, fa88_0, fa88_1, fa88_2, fa88_3, fa88_4, fa88_5, fa114_0, fa114_1, fa114_2, fa124_0, fa124_1, len134, len136, len154, fa156_0, fa156_1, fa156_2, fa156_3, fa156_4, fa156_5, fa156_6, fa184_0, fa184_1, fa200_0, fa200_1, fa200_2, fa200_3, fa215_0, fa215_1, fa215_2, fa215_3, fa215_4, len218, len271, fa274_0, fa274_1, fa274_2, fa303_0, fa303_1, fa303_2, fa303_3, fa314_0, fa314_1, fa314_2, fa314_3, fa314_4, fa314_5, fa314_6, fa314_7, fa314_8, fa314_9, fa314_10]
      refine hK _ _ ⟨r16, X, c, out2, more2, r5, H.get 3 rfl, r6, H.get 4 rfl, hok2, fun hm => ⟨(hno hm).1, fun z hz hnot => ?_⟩, hyes⟩
      rcases Nat.lt_succ_iff_lt_or_eq.1 hz with hz | rfl
      · exact (hno hm).2 z hz hnot
      · obtain ⟨e, _⟩ := hno hm
        subst e
        rw [decide_eq_false hnot] at hfire
        simpa using hfire
    · simp only [bin_add, bin_sub, bin_mul, bin_eql, bin_neq, bin_lss, bin_leq, bin_gtr, bin_geq, un_not, un_neg, zq4, zq3, zq1, zq2, zq0, cond_true', cond_false', zq14, zq15, zq16, zq17, zq13, zq10, zq12, zq11, zq7, zq5, zq6, zq9, zq8, resK_nil, resK_tmp, ite_T, ite_F, upd_at, add_plain, add_zero', Nat.reduceEqDiff, fa8_0, fa8_1, fa8_2, fa8_3, fa14_0, fa14_1, fa19_0, len22, len24, fa26_0, fa26_1, fa26_2, len27, fa33_0, fa33_1, len35, fa77_0, fa77_1, fa88_0, fa88_1, fa88_2, fa88_3, fa88_4, fa88_5, fa114_0, fa114_1, fa114_2, fa124_0, fa124_1, len134, len136, len154, fa156_0, fa156_1, fa156_2, fa156_3, fa156_4, fa156_5, fa156_6, fa184_0, fa184_1, fa200_0, fa200_1, fa200_2, fa200_3, fa215_0, fa215_1, fa215_2, fa215_3, fa215_4, len218, len271, fa274_0, fa274_1, fa274_2, fa303_0, fa303_1, fa303_2, fa303_3, fa314_0, fa314_1, fa314_2, fa314_3, fa314_4, fa314_5, fa314_6, fa314_7, fa314_8, fa314_9, fa314_10]
      rw [ldB3 (H.get 6 rfl) rfl]
      have hlen2 := hok2.len
      refine l1Put_c (H.get 3 rfl) (by omega) fun w7 X' c' g7 hX' => ?_
      have H := H.step g7
      simp only [Bool.and_eq_true, Bool.not_eq_true', decide_eq_false_iff_not] at hfire
      have hb := hl _ hrm
      have hti := tstC_iff hok2 hfire.2
      have hP : Clo gm.rules tok (rul gm.rules i).1.toNat := .mk hrm (by omega) hti.1 hti.2
      have hput := hok2.put (A := (rul gm.rules i).1.toNat) (by omega) hP
      rw [show (((rul gm.rules i).1.toNat : Nat) : Int) = (rul gm.rules i).1 from by omega] at hput
      have hpl := putL_more hok2.rise hfire.1
      refine hK _ _ ⟨r16, X', c', _, true, rfl, hX', rfl, H.get 4 rfl, hput, (fun h => by cases h), fun _ => ?_⟩
      cases more2
      · rw [(hno rfl).1] at hpl
        rw [(hno rfl).1]
        omega
      · have := hyes rfl
        omega
  simp only [show ((j : Int) < ((rul gm.rules i).2.length : Int)) from by omega, decide_true, bin_add, bin_sub, bin_mul, bin_eql, bin_neq, bin_lss, bin_leq, bin_gtr, bin_geq, un_not, un_neg, zq4, zq3, zq1, zq2, zq0, cond_true', cond_false', zq14, zq15, zq16, zq17, zq13, zq10, zq12, zq11, zq7, zq5, zq6, zq9, zq8, resK_nil, resK_tmp, ite_T, ite_F, upd_at, add_plain, add_zero', Nat.reduceEqDiff, fa8_0, fa8_1, fa8_2, fa8_3, fa14_0, fa14_1, fa19_0, len22, len24, fa26_0, fa26_1, fa26_2, len27, fa33_0, fa33_1, len35, fa77_0, fa77_1, fa88_0, fa88_1, fa88_2, fa88_3, fa88_4, fa88_5, fa114_0, fa114_1, fa114_2, fa124_0, fa124_1, len134, len136, len154, fa156_0, fa156_1, fa156_2, fa156_3, fa156_4, fa156_5, fa156_6, fa184_0, fa184_1, fa200_0, fa200_1, fa200_2, fa200_3, fa215_0, fa215_1, fa215_2, fa215_3, fa215_4, len218, len271, fa274_0, fa274_1, fa274_2, fa303_0, fa303_1, fa303_2, fa303_3, fa314_0, fa314_1, fa314_2, fa314_3, fa314_4, fa314_5, fa314_6, fa314_7, fa314_8, fa314_9, fa314_10]
  have hZ' := (H.get 5 rfl).1
  refine rdi (ixn27 hZ'.ptr hlt2) (rdi (ld3 (hZ'.cell j hlt2)) ?_)
  have hall := all_take_succ (p := tstC tok out2) hlt2
  have hle27 := hZ'.le
  generalize hx : (rul gm.rules i).2.getD j 0 = x at *
  have step : ∀ (bb : Bool) (w' : World) (f' : F), Gr w6 w' → f' 28 = .int .i64 ((j : Int) + 1) → f' 9 = .bool bb → bb = ((!decide ((rul gm.rules i).1 ∈ out2)) && ((rul gm.rules i).2.take (j + 1)).all (tstC tok out2)) → N3 f' w' := fun bb w' f' g' e1 e2 e3 => by
    refine hN3 f' w' hlt2 ⟨by omega, by rw [e1]; rfl, by rw [e2, e3], gr_trans g6 g'⟩
  cases hacc : ((!decide ((rul gm.rules i).1 ∈ out2)) && ((rul gm.rules i).2.take j).all (tstC tok out2))
  · simp only [bin_add, bin_sub, bin_mul, bin_eql, bin_neq, bin_lss, bin_leq, bin_gtr, bin_geq, un_not, un_neg, zq4, zq3, zq1, zq2, zq0, cond_true', cond_false', zq14, zq15, zq16, zq17, zq13, zq10, zq12, zq11, zq7, zq5, zq6, zq9, zq8, resK_nil, resK_tmp, ite_T, ite_F, upd_at, add_plain, add_zero', Nat.reduceEqDiff, fa8_0, fa8_1, fa8_2, fa8_3, fa14_0, fa14_1, fa19_0, len22, len24, fa26_0, fa26_1, fa26_2, len27, fa33_0, fa33_1, len35, fa77_0, fa77_1, fa88_0, fa88_1, fa88_2, fa88_3, fa88_4, fa88_5, fa114_0, fa114_1, fa114_2, fa124_0, fa124_1, len134, len136, len154, fa156_0, fa156_1, fa156_2, fa156_3, fa156_4, fa156_5, fa156_6, fa184_0, fa184_1, fa200_0, fa200_1, fa200_2, fa200_3, fa215_0, fa215_1, fa215_2, fa215_3, fa215_4, len218, len271, fa274_0, fa274_1, fa274_2, fa303_0, fa303_1, fa303_2, fa303_3, fa314_0, fa314_1, fa314_2, fa314_3, fa314_4, fa314_5, fa314_6, fa314_7, fa314_8, fa314_9, fa314_10]
    rw [i64_of (by omega) (by omega)]
    refine step false _ _ (Gr.refl _) rfl rfl ?_
    rw [hall, ← Bool.and_assoc, hacc, Bool.false_and]
  · simp only [bin_add, bin_sub, bin_mul, bin_eql, bin_neq, bin_lss, bin_leq, bin_gtr, bin_geq, un_not, un_neg, zq4, zq3, zq1, zq2, zq0, cond_true', cond_false', zq14, zq15, zq16, zq17, zq13, zq10, zq12, zq11, zq7, zq5, zq6, zq9, zq8, resK_nil, resK_tmp, ite_T, ite_F, upd_at, add_plain, add_zero', Nat.reduceEqDiff, fa8_0, fa8_1, fa8_2, fa8_3, fa14_0, fa14_1, fa19_0, len22, len24, fa26_0, fa26_1, fa26_2, len27, fa33_0, fa33_1, len35, fa77_0, fa77_1, fa88_0, fa88_1, fa88_2, fa88_3, fa88_4, fa88_5, fa114_0, fa114_1, fa114_2, fa124_0, fa124_1, len134, len136, len154, fa156_0, fa156_1, fa156_2, fa156_3, fa156_4, fa156_5, fa156_6, fa184_0, fa184_1, fa200_0, fa200_1, fa200_2, fa200_3, fa215_0, fa215_1, fa215_2, fa215_3, fa215_4, len218, len271, fa274_0, fa274_1, fa274_2, fa303_0, fa303_1, fa303_2, fa303_3, fa314_0, fa314_1, fa314_2, fa314_3, fa314_4, fa314_5, fa314_6, fa314_7, fa314_8, fa314_9, fa314_10]
    by_cases hx0 : x < 0
    · simp only [hx0, decide_true, bin_add, bin_sub, bin_mul, bin_eql, bin_neq, bin_lss, bin_leq, bin_gtr, bin_geq, un_not, un_neg, zq4, zq3, zq1, zq2, zq0, cond_true', cond_false', zq14, zq15, zq16, zq17, zq13, zq10, zq12, zq11, zq7, zq5, zq6, zq9, zq8, resK_nil, resK_tmp, ite_T, ite_F, upd_at, add_plain, add_zero', Nat.reduceEqDiff, fa8_0, fa8_1, fa8_2, fa8_3, fa14_0, fa14_1, fa19_0, len22, len24, fa26_0, fa26_1, fa26_2, len27, fa33_0, fa33_1, len35, fa77_0, fa77_1, fa88_0, fa88_1, fa88_2, fa88_3, fa88_4, fa88_5, fa114_0, fa114_1, fa114_2, fa124_0, fa124_1, len134, len136, len154, fa156_0, fa156_1, fa156_2, fa156_3, fa156_4, fa156_5, fa156_6, fa184_0, fa184_1, fa200_0, fa200_1, fa200_2, fa200_3, fa215_0, fa215_1, fa215_2, fa215_3, fa215_4, len218, len271, fa274_0, fa274_1, fa274_2, fa303_0, fa303_1, fa303_2, fa303_3, fa314_0, fa314_1, fa314_2, fa314_3, fa314_4, fa314_5, fa314_6, fa314_7, fa314_8, fa314_9, fa314_10]
      cases tok
      · simp only [show ¬ ((0 : Int) ≤ x) from by omega, decide_false, bin_add, bin_sub, bin_mul, bin_eql, bin_neq, bin_lss, bin_leq, bin_gtr, bin_geq, un_not, un_neg, zq4, zq3, zq1, zq2, zq0, cond_true', cond_false', zq14, zq15, zq16, zq17, zq13, zq10, zq12, zq11, zq7, zq5, zq6, zq9, zq8, resK_nil, resK_tmp, ite_T, ite_F, upd_at, add_plain, add_zero', Nat.reduceEqDiff, fa8_0, fa8_1, fa8_2, fa8_3, fa14_0, fa14_1, fa19_0, len22, len24, fa26_0, fa26_1, fa26_2, len27, fa33_0, fa33_1, len35, fa77_0, fa77_1, fa88_0, fa88_1, fa88_2, fa88_3, fa88_4, fa88_5, fa114_0, fa114_1, fa114_2, fa124_0, fa124_1, len134, len136, len154, fa156_0, fa156_1, fa156_2, fa156_3, fa156_4, fa156_5, fa156_6, fa184_0, fa184_1, fa200_0, fa200_1, fa200_2, fa200_3, fa215_0, fa215_1, fa215_2, fa215_3, fa215_4, len218, len271, fa274_0, fa274_1, fa274_2, fa303_0, fa303_1, fa303_2, fa303_3, fa314_0, fa314_1, fa314_2, fa314_3, fa314_4, fa314_5, fa314_6, fa314_7, fa314_8, fa314_9, fa314_10]
        rw [i64_of (by omega) (by omega)]
        refine step false _ _ (Gr.refl _) rfl rfl ?_
        rw [hall, ← Bool.and_assoc, hacc]
        simp [tstC, hx0]
        omega
      · simp only [bin_add, bin_sub, bin_mul, bin_eql, bin_neq, bin_lss, bin_leq, bin_gtr, bin_geq, un_not, un_neg, zq4, zq3, zq1, zq2, zq0, cond_true', cond_false', zq14, zq15, zq16, zq17, zq13, zq10, zq12, zq11, zq7, zq5, zq6, zq9, zq8, resK_nil, resK_tmp, ite_T, ite_F, upd_at, add_plain, add_zero', Nat.reduceEqDiff, fa8_0, fa8_1, fa8_2, fa8_3, fa14_0, fa14_1, fa19_0, len22, len24, fa26_0, fa26_1, fa26_2, len27, fa33_0, fa33_1, len35, fa77_0, fa77_1, fa88_0, fa88_1, fa88_2, fa88_3, fa88_4, fa88_5, fa114_0, fa114_1, fa114_2, fa124_0, fa124_1, len134, len136, len154, fa156_0, fa156_1, fa156_2, fa156_3, fa156_4, fa156_5, fa156_6, fa184_0, fa184_1, fa200_0, fa200_1, fa200_2, fa200_3, fa215_0, fa215_1, fa215_2, fa215_3, fa215_4, len218, len271, fa274_0, fa274_1, fa274_2, fa303_0, fa303_1, fa303_2, fa303_3, fa314_0, fa314_1, fa314_2, fa314_3, fa314_4, fa314_5, fa314_6, fa314_7, fa314_8, fa314_9, fa314_10]
        rw [i64_of (by omega) (by omega)]
        refine step true _ _ (Gr.refl _) rfl rfl ?_
        rw [hall, ← Bool.and_assoc, hacc]
        simp [tstC, hx0]
    · simp only [hx0, decide_false, show ((0 : Int) ≤ x) from by omega, decide_true, bin_add, bin_sub, bin_mul, bin_eql, bin_neq, bin_lss, bin_leq, bin_gtr, bin_geq, un_not, un_neg, zq4, zq3, zq1, zq2, zq0, cond_true', cond_false', zq14, zq15, zq16, zq17, zq13, zq10, zq12, zq11, zq7, zq5, zq6, zq9, zq8, resK_nil, resK_tmp, ite_T, ite_F, upd_at, add_plain, add_zero', Nat.reduceEqDiff, fa8_0, fa8_1, fa8_2, fa8_3, fa14_0, fa14_1, fa19_0, len22, len24, fa26_0, fa26_1, fa26_2, len27, fa33_0, fa33_1, len35, fa77_0, fa77_1, fa88_0, fa88_1, fa88_2, fa88_3, fa88_4, fa88_5, fa114_0, fa114_1, fa114_2, fa124_0, fa124_1, len134, len136, len154, fa156_0, fa156_1, fa156_2, fa156_3, fa156_4, fa156_5, fa156_6, fa184_0, fa184_1, fa200_0, fa200_1, fa200_2, fa200_3, fa215_0, fa215_1, fa215_2, fa215_3, fa215_4, len218, len271, fa274_0, fa274_1, fa274_2, fa303_0, fa303_1, fa303_2, fa303_3, fa314_0, fa314_1, fa314_2, fa314_3, fa314_4, fa314_5, fa314_6, fa314_7, fa314_8, fa314_9, fa314_10]
      refine l1Has_c (H.get 3 rfl).1 fun w7 g7 => ?_
      rw [i64_of (by omega) (by omega)]
      refine step (decide (x ∈ out2)) _ _ g7 rfl rfl ?_
      rw [hall, ← Bool.and_assoc, hacc]
      simp [tstC, hx0]
      omega
end
end Go.Proofs.Ytegcjkhebecgbaa

/- Contracts: what is reached, what grows, by the reference (l3Reached, l3Growing). -/
set_option linter.unusedVariables false
set_option linter.unusedSimpArgs false
set_option maxRecDepth 100000
namespace Go.Sh
open Go
noncomputable def rchV (gm : Gram) : List Int := setL gm.nons.toNat (Rch gm.rules)
theorem rch_in {rs : List RuleL} {out : List Int} (h0 : (0 : Int) ∈ out) (hc : ∀ r ∈ rs, r.1 ∈ out → ∀ x ∈ r.2, ¬ x < 0 → x ∈ out) {A : Nat} (h : Rch rs A) : (A : Int) ∈ out := by
  induction h with
  | zero => exact h0
  | @step A r x h1 h2 _ h4 h5 ih =>
    rw [show ((x.toNat : Nat) : Int) = x from by omega]
    exact hc r h1 (by rw [h2]; exact ih) x h4 h5
/-- Derives some word that is not empty. -/
inductive Gro (rs : List RuleL) : Nat → Prop
  | tok {A : Nat} {r : RuleL} {x : Int} : r ∈ rs → r.1 = (A : Int) → (∀ x ∈ r.2, ¬ x < 0 → Clo rs true x.toNat) → x ∈ r.2 → x < 0 → Gro rs A
  | non {A : Nat} {r : RuleL} {x : Int} : r ∈ rs → r.1 = (A : Int) → (∀ x ∈ r.2, ¬ x < 0 → Clo rs true x.toNat) → x ∈ r.2 → ¬ x < 0 → Gro rs x.toNat → Gro rs A
noncomputable def groV (gm : Gram) : List Int := setL gm.nons.toNat (Gro gm.rules)
def tstM (made : List Int) (x : Int) : Bool := decide (x < 0) || decide (x ∈ made)
theorem tstM_iff {gm : Gram} {xs : List Int} (hb : ∀ x ∈ xs, x < gm.nons) : xs.all (tstM (cloV gm true)) = true ↔ ∀ x ∈ xs, ¬ x < 0 → Clo gm.rules true x.toNat := by
  rw [List.all_eq_true]
  constructor
  · intro h x hx h0
    have := h x hx
    simp only [tstM, h0, decide_false, Bool.false_or, decide_eq_true_eq] at this
    obtain ⟨A, e, _, h2⟩ := setL_mem.1 this
    rw [e, Int.toNat_natCast]
    exact h2
  · intro h x hx
    by_cases h0 : x < 0
    · simp [tstM, h0]
    · have := hb x hx
      simp only [tstM, h0, decide_false, Bool.false_or, decide_eq_true_eq]
      exact setL_mem.2 ⟨x.toNat, by omega, by omega, h x hx h0⟩
theorem gro_in {gm : Gram} {out : List Int} (hb : ∀ r ∈ gm.rules, ∀ x ∈ r.2, x < gm.nons) (hc : ∀ r ∈ gm.rules, r.1 ∉ out → (r.2.all (tstM (cloV gm true)) && r.2.any (tstM out)) = false) {A : Nat} (h : Gro gm.rules A) : (A : Int) ∈ out := by
  have key : ∀ {A : Nat} {r : RuleL} {x : Int}, r ∈ gm.rules → r.1 = (A : Int) → (∀ x ∈ r.2, ¬ x < 0 → Clo gm.rules true x.toNat) → x ∈ r.2 → tstM out x = true → (A : Int) ∈ out := fun {A r x} h1 h2 h3 h4 h5 => by
    by_cases hm : (A : Int) ∈ out
    · exact hm
    · have := hc r h1 (by rw [h2]; exact hm)
      rw [(tstM_iff (hb r h1)).2 h3, Bool.true_and, List.any_eq_false] at this
      exact absurd h5 (this x h4)
  induction h with
  | tok h1 h2 h3 h4 h5 => exact key h1 h2 h3 h4 (by simp [tstM, h5])
  | @non A r x h1 h2 h3 h4 h5 _ ih =>
    rw [show ((x.toNat : Nat) : Int) = x from by omega] at ih
    exact key h1 h2 h3 h4 (by simp [tstM, ih])
theorem any_take_succ' {p : Int → Bool} {xs : List Int} {j : Nat} (h : j < xs.length) : (xs.take (j + 1)).any p = ((xs.take j).any p || p (xs.getD j 0)) := by
  rw [take_snoc h, List.any_append]
  simp
end Go.Sh
namespace Go.Proofs.Ytegcjkhebecgbaa
open Go Go.Sh Go.RowKit
section
variable {w : World} {Y : Option Addr} {cy : Nat} {gm : Gram} {k : Value → World → Prop}
set_option maxHeartbeats 3200000 in
theorem l3Reached_c (hG : kG Y cy gm.rules w) (hn : 1 ≤ gm.nons ∧ gm.nons ≤ 6) (hb : ∀ r ∈ gm.rules, ∀ x ∈ r.2, x < gm.nons) (hl : ∀ r ∈ gm.rules, 0 ≤ r.1) (hr : ∀ r ∈ gm.rules, r.2.length ≤ 1000) (hk : ∀ w' X c, Gr w w' → kI X (rchV gm) c w' → k (.slice X (rchV gm).length c) w') :
    CallK Try.prog 193 [grv gm Y cy] k w := by
  refine enter193 ?_
  unfold S193
  have H := (Kn.nil w).addG hG.1 hG.2
  refine do_box fun b1 w0 g1 hb0 B1 => ?_
  have H := (H.step g1).addB B1
  simp only [List.cons_append, List.nil_append] at H
  have hrl := (H.get 1 rfl).2.le
  refine do_build_of u27 inf3 (cells := ints [0]) (by decide) (by decide) (by simp [Instr.fill, madeCells, Value.cells, rng1, ints]) rfl fun b2 w1 _ _ gz _ r9 => ?_
  have H := H.step gz
  have hI : kI (some ⟨b2, 0, none⟩) [(0 : Int)] 1 w1 := ⟨Own.ints (e := 3) (r9 _ (Nat.le_refl _)), by simp⟩
  refine loop_ghost (σ := List Int × Bool) (fun s f w' => (∃ X c, f 3 = .slice X s.1.length c ∧ kI X s.1 c w') ∧ f 4 = .bool s.2 ∧ Gr w1 w' ∧ SetOk (Rch gm.rules) gm.nons.toNat s.1 ∧ (0 : Int) ∈ s.1 ∧ (s.2 = false → ∀ r ∈ gm.rules, r.1 ∈ s.1 → ∀ x ∈ r.2, ¬ x < 0 → x ∈ s.1))
    (fun s => if s.2 = true then 8 - s.1.length else 0) ([0], true) ⟨⟨_, _, rfl, hI⟩, rfl, Gr.refl _, ⟨by simp, fun x hx => by
      rw [List.mem_singleton] at hx
      subst hx
      exact ⟨0, rfl, by omega, .zero⟩⟩, by simp, fun h => by cases h⟩ ?_
  rintro ⟨out, more⟩ f w2 N hag ⟨⟨X, c, h3, hX⟩, h4, g, hok, hz, hcl⟩ hN
  dsimp only at h3 hX h4 hok hz hcl hN
  have f1 : f 1 = ptrv b1 := hag 1 (by decide)
  simp only [h3, h4, f1, bin_add, bin_sub, bin_mul, bin_eql, bin_neq, bin_lss, bin_leq, bin_gtr, bin_geq, un_not, un_neg, zq4, zq3, zq1, zq2, zq0, cond_true', cond_false', zq14, zq15, zq16, zq17, zq13, zq10, zq12, zq11, zq7, zq5, zq6, zq9, zq8, resK_nil, resK_tmp, ite_T, ite_F, upd_at, add_plain, add_zero', Nat.reduceEqDiff, fa8_0, fa8_1, fa8_2, fa8_3, fa14_0, fa14_1, fa19_0, len22, len24, fa26_0, fa26_1, fa26_2, len27, fa33_0, fa33_1, len35, fa77_0, fa77_1, fa88_0, fa88_1, fa88_2, fa88_3, fa88_4, fa88_5, fa114_0, fa114_1, fa114_2, fa124_0, fa124_1, len134, len136, len154, fa156_0, fa156_1, fa156_2, fa156_3, fa156_4, fa156_5, fa156_6, fa184_0, fa184_1, fa200_0, fa200_1, fa200_2, fa200_3, fa215_0, fa215_1, fa215_2, fa215_3, fa215_4, len218, len271, fa274_0, fa274_1, fa274_2, fa303_0, fa303_1, fa303_2, fa303_3, fa314_0, fa314_1, fa314_2, fa314_3, fa314_4, fa314_5, fa314_6, fa314_7, fa314_8, fa314_9, fa314_10]
  have H := H.step g
  have hlen := hok.len
  cases more
  · simp only [bin_add, bin_sub, bin_mul, bin_eql, bin_neq, bin_lss, bin_leq, bin_gtr, bin_geq, un_not, un_neg, zq4, zq3, zq1, zq2, zq0, cond_true', cond_false', zq14, zq15, zq16, zq17, zq13, zq10, zq12, zq11, zq7, zq5, zq6, zq9, zq8, resK_nil, resK_tmp, ite_T, ite_F, upd_at, add_plain, add_zero', Nat.reduceEqDiff, fa8_0, fa8_1, fa8_2, fa8_3, fa14_0, fa14_1, fa19_0, len22, len24, fa26_0, fa26_1, fa26_2, len27, fa33_0, fa33_1, len35, fa77_0, fa77_1, fa88_0, fa88_1, fa88_2, fa88_3, fa88_4, fa88_5, fa114_0, fa114_1, fa114_2, fa124_0, fa124_1, len134, len136, len154, fa156_0, fa156_1, fa156_2, fa156_3, fa156_4, fa156_5, fa156_6, fa184_0, fa184_1, fa200_0, fa200_1, fa200_2, fa200_3, fa215_0, fa215_1, fa215_2, fa215_3, fa215_4, len218, len271, fa274_0, fa274_1, fa274_2, fa303_0, fa303_1, fa303_2, fa303_3, fa314_0, fa314_1, fa314_2, fa314_3, fa314_4, fa314_5, fa314_6, fa314_7, fa314_8, fa314_9, fa314_10]
    have e : out = rchV gm := hok.eq fun A _ hA => rch_in hz (hcl rfl) hA
    subst e
    exact hk _ X c (H.get 0 rfl) hX
  simp only [bin_add, bin_sub, bin_mul, bin_eql, bin_neq, bin_lss, bin_leq, bin_gtr, bin_geq, un_not, un_neg, zq4, zq3, zq1, zq2, zq0, cond_true', cond_false', zq14, zq15, zq16, zq17, zq13, zq10, zq12, zq11, zq7, zq5, zq6, zq9, zq8, resK_nil, resK_tmp, ite_T, ite_F, upd_at, add_plain, add_zero', Nat.reduceEqDiff, fa8_0, fa8_1, fa8_2, fa8_3, fa14_0, fa14_1, fa19_0, len22, len24, fa26_0, fa26_1, fa26_2, len27, fa33_0, fa33_1, len35, fa77_0, fa77_1, fa88_0, fa88_1, fa88_2, fa88_3, fa88_4, fa88_5, fa114_0, fa114_1, fa114_2, fa124_0, fa124_1, len134, len136, len154, fa156_0, fa156_1, fa156_2, fa156_3, fa156_4, fa156_5, fa156_6, fa184_0, fa184_1, fa200_0, fa200_1, fa200_2, fa200_3, fa215_0, fa215_1, fa215_2, fa215_3, fa215_4, len218, len271, fa274_0, fa274_1, fa274_2, fa303_0, fa303_1, fa303_2, fa303_3, fa314_0, fa314_1, fa314_2, fa314_3, fa314_4, fa314_5, fa314_6, fa314_7, fa314_8, fa314_9, fa314_10]
  rw [ldB24 (H.get 2 rfl) rfl]
  simp only [bin_add, bin_sub, bin_mul, bin_eql, bin_neq, bin_lss, bin_leq, bin_gtr, bin_geq, un_not, un_neg, zq4, zq3, zq1, zq2, zq0, cond_true', cond_false', zq14, zq15, zq16, zq17, zq13, zq10, zq12, zq11, zq7, zq5, zq6, zq9, zq8, resK_nil, resK_tmp, ite_T, ite_F, upd_at, add_plain, add_zero', Nat.reduceEqDiff, fa8_0, fa8_1, fa8_2, fa8_3, fa14_0, fa14_1, fa19_0, len22, len24, fa26_0, fa26_1, fa26_2, len27, fa33_0, fa33_1, len35, fa77_0, fa77_1, fa88_0, fa88_1, fa88_2, fa88_3, fa88_4, fa88_5, fa114_0, fa114_1, fa114_2, fa124_0, fa124_1, len134, len136, len154, fa156_0, fa156_1, fa156_2, fa156_3, fa156_4, fa156_5, fa156_6, fa184_0, fa184_1, fa200_0, fa200_1, fa200_2, fa200_3, fa215_0, fa215_1, fa215_2, fa215_3, fa215_4, len218, len271, fa274_0, fa274_1, fa274_2, fa303_0, fa303_1, fa303_2, fa303_3, fa314_0, fa314_1, fa314_2, fa314_3, fa314_4, fa314_5, fa314_6, fa314_7, fa314_8, fa314_9, fa314_10]
  refine loop_to gm.rules.length 0 (fun i f w' => i ≤ gm.rules.length ∧ f 14 = .int .i64 (i : Int) ∧ ∃ (X : Option Addr) (c : Nat) (out2 : List Int) (more2 : Bool), f 3 = .slice X out2.length c ∧ kI X out2 c w' ∧ f 4 = .bool more2 ∧ Gr w2 w' ∧ SetOk (Rch gm.rules) gm.nons.toNat out2 ∧ (0 : Int) ∈ out2 ∧
      (more2 = false → out2 = out ∧ ∀ q, q < i → (rul gm.rules q).1 ∈ out → ∀ x ∈ (rul gm.rules q).2, ¬ x < 0 → x ∈ out) ∧ (more2 = true → out.length < out2.length))
    ⟨Nat.zero_le _, rfl, X, c, out, false, h3, hX, rfl, Gr.refl _, hok, hz, fun _ => ⟨rfl, fun q hq => by omega⟩, fun h => by cases h⟩ ?_
  rintro i q w3 N2 hag2 ⟨hi, q14, X, c, out2, more2, q3, hX, q4, g2, hok2, hz2, hno, hyes⟩ hN2
  have q12 : q 12 = .slice Y gm.rules.length cy := hag2 12 (by decide)
  have q13 : q 13 = .int .i64 gm.rules.length := hag2 13 (by decide)
  simp only [q12, q13, q14, q3, q4, bin_add, bin_sub, bin_mul, bin_eql, bin_neq, bin_lss, bin_leq, bin_gtr, bin_geq, un_not, un_neg, zq4, zq3, zq1, zq2, zq0, cond_true', cond_false', zq14, zq15, zq16, zq17, zq13, zq10, zq12, zq11, zq7, zq5, zq6, zq9, zq8, resK_nil, resK_tmp, ite_T, ite_F, upd_at, add_plain, add_zero', Nat.reduceEqDiff, fa8_0, fa8_1, fa8_2, fa8_3, fa14_0, fa14_1, fa19_0, len22, len24, fa26_0, fa26_1, fa26_2, len27, fa33_0, fa33_1, len35, fa77_0, fa77_1, fa88_0, fa88_1, fa88_2, fa88_3, fa88_4, fa88_5, fa114_0, fa114_1, fa114_2, fa124_0, fa124_1, len134, len136, len154, fa156_0, fa156_1, fa156_2, fa156_3, fa156_4, fa156_5, fa156_6, fa184_0, fa184_1, fa200_0, fa200_1, fa200_2, fa200_3, fa215_0, fa215_1, fa215_2, fa215_3, fa215_4, len218, len271, fa274_0, fa274_1, fa274_2, fa303_0, fa303_1, fa303_2, fa303_3, fa314_0, fa314_1, fa314_2, fa314_3, fa314_4, fa314_5, fa314_6, fa314_7, fa314_8, fa314_9, fa314_10]
  by_cases hlt : i < gm.rules.length
  case neg =>
    simp only [show ¬ ((i : Int) < (gm.rules.length : Int)) from by omega, decide_false, bin_add, bin_sub, bin_mul, bin_eql, bin_neq, bin_lss, bin_leq, bin_gtr, bin_geq, un_not, un_neg, zq4, zq3, zq1, zq2, zq0, cond_true', cond_false', zq14, zq15, zq16, zq17, zq13, zq10, zq12, zq11, zq7, zq5, zq6, zq9, zq8, resK_nil, resK_tmp, ite_T, ite_F, upd_at, add_plain, add_zero', Nat.reduceEqDiff, fa8_0, fa8_1, fa8_2, fa8_3, fa14_0, fa14_1, fa19_0, len22, len24, fa26_0, fa26_1, fa26_2, len27, fa33_0, fa33_1, len35, fa77_0, fa77_1, fa88_0, fa88_1, fa88_2, fa88_3, fa88_4, fa88_5, fa114_0, fa114_1, fa114_2, fa124_0, fa124_1, len134, len136, len154, fa156_0, fa156_1, fa156_2, fa156_3, fa156_4, fa156_5, fa156_6, fa184_0, fa184_1, fa200_0, fa200_1, fa200_2, fa200_3, fa215_0, fa215_1, fa215_2, fa215_3, fa215_4, len218, len271, fa274_0, fa274_1, fa274_2, fa303_0, fa303_1, fa303_2, fa303_3, fa314_0, fa314_1, fa314_2, fa314_3, fa314_4, fa314_5, fa314_6, fa314_7, fa314_8, fa314_9, fa314_10]
    refine hN (out2, more2) _ _ ⟨⟨X, c, q3, hX⟩, q4, gr_trans g g2, hok2, hz2, fun hm r hr' hin => ?_⟩ ?_
    · dsimp only at hm hin ⊢
      obtain ⟨e, hall⟩ := hno hm
      subst e
      obtain ⟨z, hz, rfl⟩ := List.getElem_of_mem hr'
      have := hall z (by omega)
      rw [rul_eq hz] at this
      exact this hin
    · cases more2
      · simp
        omega
      · have := hyes rfl
        have := hok2.len
        simp
        omega
  simp only [show ((i : Int) < (gm.rules.length : Int)) from by omega, decide_true, bin_add, bin_sub, bin_mul, bin_eql, bin_neq, bin_lss, bin_leq, bin_gtr, bin_geq, un_not, un_neg, zq4, zq3, zq1, zq2, zq0, cond_true', cond_false', zq14, zq15, zq16, zq17, zq13, zq10, zq12, zq11, zq7, zq5, zq6, zq9, zq8, resK_nil, resK_tmp, ite_T, ite_F, upd_at, add_plain, add_zero', Nat.reduceEqDiff, fa8_0, fa8_1, fa8_2, fa8_3, fa14_0, fa14_1, fa19_0, len22, len24, fa26_0, fa26_1, fa26_2, len27, fa33_0, fa33_1, len35, fa77_0, fa77_1, fa88_0, fa88_1, fa88_2, fa88_3, fa88_4, fa88_5, fa114_0, fa114_1, fa114_2, fa124_0, fa124_1, len134, len136, len154, fa156_0, fa156_1, fa156_2, fa156_3, fa156_4, fa156_5, fa156_6, fa184_0, fa184_1, fa200_0, fa200_1, fa200_2, fa200_3, fa215_0, fa215_1, fa215_2, fa215_3, fa215_4, len218, len271, fa274_0, fa274_1, fa274_2, fa303_0, fa303_1, fa303_2, fa303_3, fa314_0, fa314_1, fa314_2, fa314_3, fa314_4, fa314_5, fa314_6, fa314_7, fa314_8, fa314_9, fa314_10]
  have hrm : rul gm.rules i ∈ gm.rules := by rw [rul_eq hlt]; exact List.getElem_mem hlt
  have H := H.step g2
  have H := H.add (P := fun w' => Gr w2 w') fun w' g' => gr_trans g2 g'
  simp only [List.cons_append, List.nil_append] at H
  have hRF := (H.get 1 rfl).2
  refine rdi (ixn24 hRF.ptr hlt) ?_
  refine ld_rule agg33 sz33 hRF hlt fun v hv => ?_
  obtain ⟨Z, cz, rfl, hcz, hZ⟩ := hv
  have H := H.addI hZ.is hcz
  have H := H.addI hX.1 hX.2
  refine newR H fun b9 w4 H => ?_
  simp only [List.cons_append, List.nil_append] at H
  simp only [bin_add, bin_sub, bin_mul, bin_eql, bin_neq, bin_lss, bin_leq, bin_gtr, bin_geq, un_not, un_neg, zq4, zq3, zq1, zq2, zq0, cond_true', cond_false', zq14, zq15, zq16, zq17, zq13, zq10, zq12, zq11, zq7, zq5, zq6, zq9, zq8, resK_nil, resK_tmp, ite_T, ite_F, upd_at, add_plain, add_zero', Nat.reduceEqDiff, fa8_0, fa8_1, fa8_2, fa8_3, fa14_0, fa14_1, fa19_0, len22, len24, fa26_0, fa26_1, fa26_2, len27, fa33_0, fa33_1, len35, fa77_0, fa77_1, fa88_0, fa88_1, fa88_2, fa88_3, fa88_4, fa88_5, fa114_0, fa114_1, fa114_2, fa124_0, fa124_1, len134, len136, len154, fa156_0, fa156_1, fa156_2, fa156_3, fa156_4, fa156_5, fa156_6, fa184_0, fa184_1, fa200_0, fa200_1, fa200_2, fa200_3, fa215_0, fa215_1, fa215_2, fa215_3, fa215_4, len218, len271, fa274_0, fa274_1, fa274_2, fa303_0, fa303_1, fa303_2, fa303_3, fa314_0, fa314_1, fa314_2, fa314_3, fa314_4, fa314_5, fa314_6, fa314_7, fa314_8, fa314_9, fa314_10]
  rw [ldB27 (H.get 6 rfl) rfl]
  simp only [bin_add, bin_sub, bin_mul, bin_eql, bin_neq, bin_lss, bin_leq, bin_gtr, bin_geq, un_not, un_neg, zq4, zq3, zq1, zq2, zq0, cond_true', cond_false', zq14, zq15, zq16, zq17, zq13, zq10, zq12, zq11, zq7, zq5, zq6, zq9, zq8, resK_nil, resK_tmp, ite_T, ite_F, upd_at, add_plain, add_zero', Nat.reduceEqDiff, fa8_0, fa8_1, fa8_2, fa8_3, fa14_0, fa14_1, fa19_0, len22, len24, fa26_0, fa26_1, fa26_2, len27, fa33_0, fa33_1, len35, fa77_0, fa77_1, fa88_0, fa88_1, fa88_2, fa88_3, fa88_4, fa88_5, fa114_0, fa114_1, fa114_2, fa124_0, fa124_1, len134, len136, len154, fa156_0, fa156_1, fa156_2, fa156_3, fa156_4, fa156_5, fa156_6, fa184_0, fa184_1, fa200_0, fa200_1, fa200_2, fa200_3, fa215_0, fa215_1, fa215_2, fa215_3, fa215_4, len218, len271, fa274_0, fa274_1, fa274_2, fa303_0, fa303_1, fa303_2, fa303_3, fa314_0, fa314_1, fa314_2, fa314_3, fa314_4, fa314_5, fa314_6, fa314_7, fa314_8, fa314_9, fa314_10]
  have hr2 := hr _ hrm
  refine loop_to (rul gm.rules i).2.length 0 (fun j f w' => j ≤ (rul gm.rules i).2.length ∧ f 21 = .int .i64 (j : Int) ∧ ∃ (X : Option Addr) (c : Nat) (out2 : List Int) (more2 : Bool), f 3 = .slice X out2.length c ∧ kI X out2 c w' ∧ f 4 = .bool more2 ∧ Gr w4 w' ∧ SetOk (Rch gm.rules) gm.nons.toNat out2 ∧ (0 : Int) ∈ out2 ∧
      (more2 = false → out2 = out ∧ (∀ q, q < i → (rul gm.rules q).1 ∈ out → ∀ x ∈ (rul gm.rules q).2, ¬ x < 0 → x ∈ out) ∧ ((rul gm.rules i).1 ∈ out → ∀ x ∈ (rul gm.rules i).2.take j, ¬ x < 0 → x ∈ out)) ∧ (more2 = true → out.length < out2.length))
    ⟨Nat.zero_le _, rfl, X, c, out2, more2, q3, H.get 5 rfl, q4, Gr.refl _, hok2, hz2, fun h => ⟨(hno h).1, (hno h).2, fun _ x hx => by simp at hx⟩, hyes⟩ ?_
  clear hX
  rintro j r w6 N3 hag3 ⟨hj, r21, X, c, out3, more3, r3, hX, r4, g6, hok3, hz3, hno3, hyes3⟩ hN3
  have r6 : r 6 = ptrv b9 := hag3 6 (by decide)
  have r14 : r 14 = .int .i64 (i : Int) := (hag3 14 (by decide)).trans q14
  have r19 : r 19 = .slice Z (rul gm.rules i).2.length cz := hag3 19 (by decide)
  have r20 : r 20 = .int .i64 ((rul gm.rules i).2.length : Int) := hag3 20 (by decide)
  simp only [r3, r6, r19, r20, r21, bin_add, bin_sub, bin_mul, bin_eql, bin_neq, bin_lss, bin_leq, bin_gtr, bin_geq, un_not, un_neg, zq4, zq3, zq1, zq2, zq0, cond_true', cond_false', zq14, zq15, zq16, zq17, zq13, zq10, zq12, zq11, zq7, zq5, zq6, zq9, zq8, resK_nil, resK_tmp, ite_T, ite_F, upd_at, add_plain, add_zero', Nat.reduceEqDiff, fa8_0, fa8_1, fa8_2, fa8_3, fa14_0, fa14_1, fa19_0, len22, len24, fa26_0, fa26_1, fa26_2, len27, fa33_0, fa33_1, len35, fa77_0, fa77_1, fa88_0, fa88_1, fa88_2, fa88_3, fa88_4, fa88_5, fa114_0, fa114_1, fa114_2, fa124_0, fa124_1, len134, len136, len154, fa156_0, fa156_1, fa156_2, fa156_3, fa156_4, fa156_5, fa156_6, fa184_0, fa184_1, fa200_0, fa200_1, fa200_2, fa200_3, fa215_0, fa215_1, fa215_2, fa215_3, fa215_4, len218, len271, fa274_0, fa274_1, fa274_2, fa303_0, fa303_1, fa303_2, fa303_3, fa314_0, fa314_1, fa314_2, fa314_3, fa314_4, fa314_5, fa314_6, fa314_7, fa314_8, fa314_9, fa314_10]
  have H := H.step g6
  by_cases hlt2 : j < (rul gm.rules i).2.length
  case neg =>
    simp only [show ¬ ((j : Int) < ((rul gm.rules i).2.length : Int)) from by omega, decide_false, r14, bin_add, bin_sub, bin_mul, bin_eql, bin_neq, bin_lss, bin_leq, bin_gtr, bin_geq, un_not, un_neg, zq4, zq3, zq1, zq2, zq0, cond_true', cond_false', zq14, zq15, zq16, zq17, zq13, zq10, zq12, zq11, zq7, zq5, zq6, zq9, zq8, resK_nil, resK_tmp, ite_T, ite_F, upd_at, add_plain, add_zero', Nat.reduceEqDiff, fa8_0, fa8_1, fa8_2, fa8_3, fa14_0, fa14_1, fa19_0, len22, len24, fa26_0, fa26_1, fa26_2, len27, fa33_0, fa33_1, len35, fa77_0, fa77_1, fa88_0, fa88_1, fa88_2, fa88_3, fa88_4, fa88_5, fa114_0, fa114_1, fa114_2, fa124_0, fa124_1, len134, len136, len154, fa156_0, fa156_1, fa156_2, fa156_3, fa156_4, fa156_5, fa156_6, fa184_0, fa184_1, fa200_0, fa200_1, fa200_2, fa200_3, fa215_0, fa215_1, fa215_2, fa215_3, fa215_4, len218, len271, fa274_0, fa274_1, fa274_2, fa303_0, fa303_1, fa303_2, fa303_3, fa314_0, fa314_1, fa314_2, fa314_3, fa314_4, fa314_5, fa314_6, fa314_7, fa314_8, fa314_9, fa314_10]
    rw [i64_of (by omega) (by omega)]
    rw [List.take_of_length_le (by omega)] at hno3
    refine hN2 _ _ hlt ⟨by omega, rfl, X, c, out3, more3, r3, hX, r4, H.get 3 rfl, hok3, hz3, fun hm => ⟨(hno3 hm).1, fun z hz' hin => ?_⟩, hyes3⟩
    rcases Nat.lt_succ_iff_lt_or_eq.1 hz' with hz' | rfl
    · exact (hno3 hm).2.1 z hz' hin
    · exact (hno3 hm).2.2 hin
  simp only [show ((j : Int) < ((rul gm.rules i).2.length : Int)) from by omega, decide_true, bin_add, bin_sub, bin_mul, bin_eql, bin_neq, bin_lss, bin_leq, bin_gtr, bin_geq, un_not, un_neg, zq4, zq3, zq1, zq2, zq0, cond_true', cond_false', zq14, zq15, zq16, zq17, zq13, zq10, zq12, zq11, zq7, zq5, zq6, zq9, zq8, resK_nil, resK_tmp, ite_T, ite_F, upd_at, add_plain, add_zero', Nat.reduceEqDiff, fa8_0, fa8_1, fa8_2, fa8_3, fa14_0, fa14_1, fa19_0, len22, len24, fa26_0, fa26_1, fa26_2, len27, fa33_0, fa33_1, len35, fa77_0, fa77_1, fa88_0, fa88_1, fa88_2, fa88_3, fa88_4, fa88_5, fa114_0, fa114_1, fa114_2, fa124_0, fa124_1, len134, len136, len154, fa156_0, fa156_1, fa156_2, fa156_3, fa156_4, fa156_5, fa156_6, fa184_0, fa184_1, fa200_0, fa200_1, fa200_2, fa200_3, fa215_0, fa215_1, fa215_2, fa215_3, fa215_4, len218, len271, fa274_0, fa274_1, fa274_2, fa303_0, fa303_1, fa303_2, fa303_3, fa314_0, fa314_1, fa314_2, fa314_3, fa314_4, fa314_5, fa314_6, fa314_7, fa314_8, fa314_9, fa314_10]
  have H := H.addI hX.1 hX.2
  have H := H.add (P := fun w' => Gr w4 w') fun w' g' => gr_trans g6 g'
  simp only [List.cons_append, List.nil_append] at H
  refine join_as (fun f w' => f 21 = .int .i64 (j : Int) ∧ ∃ (X : Option Addr) (c : Nat) (out2 : List Int) (more2 : Bool), f 3 = .slice X out2.length c ∧ kI X out2 c w' ∧ f 4 = .bool more2 ∧ Gr w4 w' ∧ SetOk (Rch gm.rules) gm.nons.toNat out2 ∧ (0 : Int) ∈ out2 ∧
      (more2 = false → out2 = out ∧ (∀ q, q < i → (rul gm.rules q).1 ∈ out → ∀ x ∈ (rul gm.rules q).2, ¬ x < 0 → x ∈ out) ∧ ((rul gm.rules i).1 ∈ out → ∀ x ∈ (rul gm.rules i).2.take (j + 1), ¬ x < 0 → x ∈ out)) ∧ (more2 = true → out.length < out2.length)) (fun K hK => ?_) ?_
  case refine_2 =>
    rintro f w' ⟨f21, h⟩
    simp only [f21, bin_add, bin_sub, bin_mul, bin_eql, bin_neq, bin_lss, bin_leq, bin_gtr, bin_geq, un_not, un_neg, zq4, zq3, zq1, zq2, zq0, cond_true', cond_false', zq14, zq15, zq16, zq17, zq13, zq10, zq12, zq11, zq7, zq5, zq6, zq9, zq8, resK_nil, resK_tmp, ite_T, ite_F, upd_at, add_plain, add_zero', Nat.reduceEqDiff, fa8_0, fa8_1, fa8_2, fa8_3, fa14_0, fa14_1, fa19_0, len22, len24, fa26_0, fa26_1, fa26_2, len27, fa33_0, fa33_1, len35, fa77_0, fa77_1, fa88_0, fa88_1, fa88_2, fa88_3, fa88_4, fa88_5, fa114_0, fa114_1, fa114_2, fa124_0, fa124_1, len134, len136, len154, fa156_0, fa156_1, fa156_2, fa156_3, fa156_4, fa156_5, fa156_6, fa184_0, fa184_1, fa200_0, fa200_1, fa200_2, fa200_3, fa215_0, fa215_1, fa215_2, fa215_3, fa215_4, len218, len271, fa274_0, fa274_1, fa274_2, fa303_0, fa303_1, fa303_2, fa303_3, fa314_0, fa314_1, fa314_2, fa314_3, fa314_4, fa314_5, fa314_6, fa314_7, fa314_8, fa314_9, fa314_10]
    rw [i64_of (by omega) (by omega)]
    exact hN3 _ _ hlt2 ⟨by omega, rfl, h⟩
  have hZ' := (H.get 4 rfl).1
  refine rdi (ixn27 hZ'.ptr hlt2) (rdi (ld3 (hZ'.cell j hlt2)) ?_)
  have htk := take_snoc hlt2
  have hmem : (rul gm.rules i).2.getD j 0 ∈ (rul gm.rules i).2 := getD_mem hlt2
  generalize hx : (rul gm.rules i).2.getD j 0 = x at *
  -- nothing comes
  have skip : ∀ (w' : World) (f' : F), Gr w6 w' → f' 21 = .int .i64 (j : Int) → f' 3 = .slice X out3.length c → f' 4 = .bool more3 → ((rul gm.rules i).1 ∈ out3 → ¬ x < 0 → x ∈ out3) → K f' w' := fun w' f' g' e1 e2 e3 hsk => by
    have H := H.step g'
    refine hK f' w' ⟨e1, X, c, out3, more3, e2, H.get 7 rfl, e3, H.get 8 rfl, hok3, hz3, fun hm => ?_, hyes3⟩
    obtain ⟨a1, a2, a3⟩ := hno3 hm
    refine ⟨a1, a2, fun hin y hy h0 => ?_⟩
    rw [htk, List.mem_append, List.mem_singleton] at hy
    rcases hy with hy | rfl
    · exact a3 hin y hy h0
    · rw [← a1] at hin ⊢
      exact hsk hin h0
  by_cases hx0 : x < 0
  · simp only [show ¬ ((0 : Int) ≤ x) from by omega, decide_false, bin_add, bin_sub, bin_mul, bin_eql, bin_neq, bin_lss, bin_leq, bin_gtr, bin_geq, un_not, un_neg, zq4, zq3, zq1, zq2, zq0, cond_true', cond_false', zq14, zq15, zq16, zq17, zq13, zq10, zq12, zq11, zq7, zq5, zq6, zq9, zq8, resK_nil, resK_tmp, ite_T, ite_F, upd_at, add_plain, add_zero', Nat.reduceEqDiff, fa8_0, fa8_1, fa8_2, fa8_3, fa14_0, fa14_1, fa19_0, len22, len24, fa26_0, fa26_1, fa26_2, len27, fa33_0, fa33_1, len35, fa77_0, fa77_1, fa88_0, fa88_1, fa88_2, fa88_3, fa88_4, fa88_5, fa114_0, fa114_1, fa114_2, fa124_0, fa124_1, len134, len136, len154, fa156_0, fa156_1, fa156_2, fa156_3, fa156_4, fa156_5, fa156_6, fa184_0, fa184_1, fa200_0, fa200_1, fa200_2, fa200_3, fa215_0, fa215_1, fa215_2, fa215_3, fa215_4, len218, len271, fa274_0, fa274_1, fa274_2, fa303_0, fa303_1, fa303_2, fa303_3, fa314_0, fa314_1, fa314_2, fa314_3, fa314_4, fa314_5, fa314_6, fa314_7, fa314_8, fa314_9, fa314_10]
    exact skip _ _ (Gr.refl _) r21 r3 r4 (fun _ h => absurd hx0 h)
  simp only [show ((0 : Int) ≤ x) from by omega, decide_true, bin_add, bin_sub, bin_mul, bin_eql, bin_neq, bin_lss, bin_leq, bin_gtr, bin_geq, un_not, un_neg, zq4, zq3, zq1, zq2, zq0, cond_true', cond_false', zq14, zq15, zq16, zq17, zq13, zq10, zq12, zq11, zq7, zq5, zq6, zq9, zq8, resK_nil, resK_tmp, ite_T, ite_F, upd_at, add_plain, add_zero', Nat.reduceEqDiff, fa8_0, fa8_1, fa8_2, fa8_3, fa14_0, fa14_1, fa19_0, len22, len24, fa26_0, fa26_1, fa26_2, len27, fa33_0, fa33_1, len35, fa77_0, fa77_1, fa88_0, fa88_1, fa88_2, fa88_3, fa88_4, fa88_5, fa114_0, fa114_1, fa114_2, fa124_0, fa124_1, len134, len136, len154, fa156_0, fa156_1, fa156_2, fa156_3, fa156_4, fa156_5, fa156_6, fa184_0, fa184_1, fa200_0, fa200_1, fa200_2, fa200_3, fa215_0, fa215_1, fa215_2, fa215_3, fa215_4, len218, len271, fa274_0, fa274_1, fa274_2, fa303_0, fa303_1, fa303_2, fa303_3, fa314_0, fa314_1, fa314_2, fa314_3, fa314_4, fa314_5, fa314_6, fa314_7, fa314_8, fa314_9, fa314_10]
  rw [ldB3 (H.get 6 rfl) rfl]
  refine l1Has_c (H.get 7 rfl).1 fun w7 g7 => ?_
  have H := H.step g7
  by_cases hin : (rul gm.rules i).1 ∈ out3
  case neg =>
    simp only [hin, decide_false, bin_add, bin_sub, bin_mul, bin_eql, bin_neq, bin_lss, bin_leq, bin_gtr, bin_geq, un_not, un_neg, zq4, zq3, zq1, zq2, zq0, cond_true', cond_false', zq14, zq15, zq16, zq17, zq13, zq10, zq12, zq11, zq7, zq5, zq6, zq9, zq8, resK_nil, resK_tmp, ite_T, ite_F, upd_at, add_plain, add_zero', Nat.reduceEqDiff, fa8_0, fa8_1, fa8_2, fa8_3, fa14_0, fa14_1, fa19_0, len22, len24, fa26_0, fa26_1, fa26_2, len27, fa33_0, fa33_1, len35, fa77_0, fa77_1, fa88_0, fa88_1, fa88_2, fa88_3, fa88_4, fa88_5, fa114_0, fa114_1, fa114_2, fa124_0, fa124_1, len134, len136, len154, fa156_0, fa156_1, fa156_2, fa156_3, fa156_4, fa156_5, fa156_6, fa184_0, fa184_1, fa200_0, fa200_1, fa200_2, fa200_3, fa215_0, fa215_1, fa215_2, fa215_3, fa215_4, len218, len271, fa274_0, fa274_1, fa274_2, fa303_0, fa303_1, fa303_2, fa303_3, fa314_0, fa314_1, fa314_2, fa314_3, fa314_4, fa314_5, fa314_6, fa314_7, fa314_8, fa314_9, fa314_10]
    exact skip _ _ g7 r21 r3 r4 (fun h => absurd h hin)
  simp only [hin, decide_true, bin_add, bin_sub, bin_mul, bin_eql, bin_neq, bin_lss, bin_leq, bin_gtr, bin_geq, un_not, un_neg, zq4, zq3, zq1, zq2, zq0, cond_true', cond_false', zq14, zq15, zq16, zq17, zq13, zq10, zq12, zq11, zq7, zq5, zq6, zq9, zq8, resK_nil, resK_tmp, ite_T, ite_F, upd_at, add_plain, add_zero', Nat.reduceEqDiff, fa8_0, fa8_1, fa8_2, fa8_3, fa14_0, fa14_1, fa19_0, len22, len24, fa26_0, fa26_1, fa26_2, len27, fa33_0, fa33_1, len35, fa77_0, fa77_1, fa88_0, fa88_1, fa88_2, fa88_3, fa88_4, fa88_5, fa114_0, fa114_1, fa114_2, fa124_0, fa124_1, len134, len136, len154, fa156_0, fa156_1, fa156_2, fa156_3, fa156_4, fa156_5, fa156_6, fa184_0, fa184_1, fa200_0, fa200_1, fa200_2, fa200_3, fa215_0, fa215_1, fa215_2, fa215_3, fa215_4, len218, len271, fa274_0, fa274_1, fa274_2, fa303_0, fa303_1, fa303_2, fa303_3, fa314_0, fa314_1, fa314_2, fa314_3, fa314_4, fa314_5, fa314_6, fa314_7, fa314_8, fa314_9, fa314_10]
  refine l1Has_c (H.get 7 rfl).1 fun w8 g8 => ?_
  have H := H.step g8
  by_cases hxin : x ∈ out3
  · simp only [hxin, decide_true, Bool.not_true, bin_add, bin_sub, bin_mul, bin_eql, bin_neq, bin_lss, bin_leq, bin_gtr, bin_geq, un_not, un_neg, zq4, zq3, zq1, zq2, zq0, cond_true', cond_false', zq14, zq15, zq16, zq17, zq13, zq10, zq12, zq11, zq7, zq5, zq6, zq9, zq8, resK_nil, resK_tmp, ite_T, ite_F, upd_at, add_plain, add_zero', Nat.reduceEqDiff, fa8_0, fa8_1, fa8_2, fa8_3, fa14_0, fa14_1, fa19_0, len22, len24, fa26_0, fa26_1, fa26_2, len27, fa33_0, fa33_1, len35, fa77_0, fa77_1, fa88_0, fa88_1, fa88_2, fa88_3, fa88_4, fa88_5, fa114_0, fa114_1, fa114_2, fa124_0, fa124_1, len134, len136, len154, fa156_0, fa156_1, fa156_2, fa156_3, fa156_4, fa156_5, fa156_6, fa184_0, fa184_1, fa200_0, fa200_1, fa200_2, fa200_3, fa215_0, fa215_1, fa215_2, fa215_3, fa215_4, len218, len271, fa274_0, fa274_1, fa274_2, fa303_0, fa303_1, fa303_2, fa303_3, fa314_0, fa314_1, fa314_2, fa314_3, fa314_4, fa314_5, fa314_6, fa314_7, fa314_8, fa314_9, fa314_10]
    exact skip _ _ (gr_trans g7 g8) r21 r3 r4 (fun _ _ => hxin)
  simp only [hxin, decide_false, Bool.not_false, bin_add, bin_sub, bin_mul, bin_eql, bin_neq, bin_lss, bin_leq, bin_gtr, bin_geq, un_not, un_neg, zq4, zq3, zq1, zq2, zq0, cond_true', cond_false', zq14, zq15, zq16, zq17, zq13, zq10, zq12, zq11, zq7, zq5, zq6, zq9, zq8, resK_nil, resK_tmp, ite_T, ite_F, upd_at, add_plain, add_zero', Nat.reduceEqDiff, fa8_0, fa8_1, fa8_2, fa8_3, fa14_0, fa14_1, fa19_0, len22, len24, fa26_0, fa26_1, fa26_2, len27, fa33_0, fa33_1, len35, fa77_0, fa77_1, fa88_0, fa88_1, fa88_2, fa88_3, fa88_4, fa88_5, fa114_0, fa114_1, fa114_2, fa124_0, fa124_1, len134, len136, len154, fa156_0, fa156_1, fa156_2, fa156_3, fa156_4, fa156_5, fa156_6, fa184_0, fa184_1, fa200_0, fa200_1, fa200_2, fa200_3, fa215_0, fa215_1, fa215_2, fa215_3, fa215_4, len218, len271, fa274_0, fa274_1, fa274_2, fa303_0, fa303_1, fa303_2, fa303_3, fa314_0, fa314_1, fa314_2, fa314_3, fa314_4, fa314_5, fa314_6, fa314_7, fa314_8, fa314_9, fa314_10]
  have hlen3 := hok3.len
  refine l1Put_c (H.get 7 rfl) (by omega) fun w9 X' c' g9 hX' => ?_
  have H := H.step g9
  obtain ⟨A, eA, hA, hR⟩ := hok3.ok _ hin
  have hput := hok3.put (A := x.toNat) (by have := hb _ hrm x hmem; omega) (.step hrm eA hR hmem hx0)
  rw [show ((x.toNat : Nat) : Int) = x from by omega] at hput
  have hpl := putL_more hok3.rise hxin
  refine hK _ _ ⟨r21, X', c', _, true, rfl, hX', rfl, H.get 8 rfl, hput, putL_mem.2 (.inr hz3), (fun h => by cases h), fun _ => ?_⟩
  cases more3
  · rw [(hno3 rfl).1] at hpl
    rw [(hno3 rfl).1]
    omega
  · have := hyes3 rfl
    omega
end
end Go.Proofs.Ytegcjkhebecgbaa

/- Contracts: what grows, by the reference (l3Growing); NullableOf, ProductiveOf, ReachedOf, GrowingOf of the reference. -/
set_option linter.unusedVariables false
set_option linter.unusedSimpArgs false
set_option maxRecDepth 100000
namespace Go.Sh
open Go
theorem goodRules {gm : Gram} (hg : goodG gm = true) : ∀ r ∈ gm.rules, (0 ≤ r.1 ∧ r.1 < gm.nons) ∧ r.2.length ≤ 4 ∧ ∀ x ∈ r.2, -gm.toks ≤ x ∧ x < gm.nons := fun r hr => by
  obtain ⟨i, hi, rfl⟩ := List.getElem_of_mem hr
  have h1 := good_left hg hi
  have h2 := good_rights hg hi
  rw [rul_eq hi] at h1 h2
  exact ⟨by omega, h2.1, fun x hx => by have := h2.2 x hx; omega⟩
theorem gro_lt {gm : Gram} (hg : goodG gm = true) {A : Nat} (h : Gro gm.rules A) : A < gm.nons.toNat := by
  cases h with
  | tok h1 h2 _ _ _ => have := (goodRules hg _ h1).1; omega
  | non h1 h2 _ _ _ _ => have := (goodRules hg _ h1).1; omega
noncomputable def listV (gm : Gram) (l : List Int) : List Int × Bool := if goodG gm = true then (l, true) else ([], false)
end Go.Sh
namespace Go.Proofs.Ytegcjkhebecgbaa
open Go Go.Sh Go.RowKit
section
variable {w : World} {Y : Option Addr} {cy : Nat} {gm : Gram} {k : Value → World → Prop}
set_option maxHeartbeats 3200000 in
theorem l3Growing_c (hG : kG Y cy gm.rules w) (hg : goodG gm = true) (hk : ∀ w' X c, Gr w w' → kI X (groV gm) c w' → k (.slice X (groV gm).length c) w') :
    CallK Try.prog 195 [grv gm Y cy] k w := by
  have hgr := goodRules hg
  have hn := good_nons hg
  refine enter195 ?_
  unfold S195
  have H := (Kn.nil w).addG hG.1 hG.2
  refine do_box fun b1 w0 g1 hb0 B1 => ?_
  have H := (H.step g1).addB B1
  simp only [List.cons_append, List.nil_append] at H
  have hrl := (H.get 1 rfl).2.le
  rw [ldB_agg agg26 sz26 rfl (H.get 2 rfl)]
  refine l3Close_c (tok := true) (H.get 1 rfl) (by omega) (fun r hr => (hgr r hr).1) (fun r hr => by have := (hgr r hr).2.1; omega) fun w1 XM cM gM hM => ?_
  have H := (H.step gM).addI hM.1 hM.2
  simp only [List.cons_append, List.nil_append] at H
  refine loop_ghost (σ := List Int × Bool) (fun s f w' => (∃ X c, f 4 = .slice X s.1.length c ∧ kI X s.1 c w') ∧ f 5 = .bool s.2 ∧ Gr w1 w' ∧ SetOk (Gro gm.rules) gm.nons.toNat s.1 ∧ (s.2 = false → ∀ r ∈ gm.rules, r.1 ∉ s.1 → (r.2.all (tstM (cloV gm true)) && r.2.any (tstM s.1)) = false))
    (fun s => if s.2 = true then 8 - s.1.length else 0) ([], true) ⟨⟨none, 0, rfl, ⟨⟨by simp, fun h => by simp at h, fun j hj => by simp at hj⟩, Nat.le_refl _⟩⟩, rfl, Gr.refl _, SetOk.nil _ _, fun h => by cases h⟩ ?_
  rintro ⟨out, more⟩ f w2 N hag ⟨⟨X, c, h4, hX⟩, h5, g, hok, hcl⟩ hN
  dsimp only at h4 hX h5 hok hcl hN
  have f1 : f 1 = ptrv b1 := hag 1 (by decide)
  have f3 : f 3 = .slice XM (cloV gm true).length cM := hag 3 (by decide)
  simp only [h4, h5, f1, bin_add, bin_sub, bin_mul, bin_eql, bin_neq, bin_lss, bin_leq, bin_gtr, bin_geq, un_not, un_neg, zq4, zq3, zq1, zq2, zq0, cond_true', cond_false', zq14, zq15, zq16, zq17, zq13, zq10, zq12, zq11, zq7, zq5, zq6, zq9, zq8, resK_nil, resK_tmp, ite_T, ite_F, upd_at, add_plain, add_zero', Nat.reduceEqDiff, fa8_0, fa8_1, fa8_2, fa8_3, fa14_0, fa14_1, fa19_0, len22, len24, fa26_0, fa26_1, fa26_2, len27, fa33_0, fa33_1, len35, fa77_0, fa77_1, fa88_0, fa88_1, fa88_2, fa88_3, fa88_4, fa88_5, fa114_0, fa114_1, fa114_2, fa124_0, fa124_1, len134, len136, len154, fa156_0, fa156_1, fa156_2, fa156_3, fa156_4, fa156_5, fa156_6, fa184_0, fa184_1, fa200_0, fa200_1, fa200_2, fa200_3, fa215_0, fa215_1, fa215_2, fa215_3, fa215_4, len218, len271, fa274_0, fa274_1, fa274_2, fa303_0, fa303_1, fa303_2, fa303_3, fa314_0, fa314_1, fa314_2, fa314_3, fa314_4, fa314_5, fa314_6, fa314_7, fa314_8, fa314_9, fa314_10]
  have H := H.step g
  have hlen := hok.len
  cases more
  · simp only [bin_add, bin_sub, bin_mul, bin_eql, bin_neq, bin_lss, bin_leq, bin_gtr, bin_geq, un_not, un_neg, zq4, zq3, zq1, zq2, zq0, cond_true', cond_false', zq14, zq15, zq16, zq17, zq13, zq10, zq12, zq11, zq7, zq5, zq6, zq9, zq8, resK_nil, resK_tmp, ite_T, ite_F, upd_at, add_plain, add_zero', Nat.reduceEqDiff, fa8_0, fa8_1, fa8_2, fa8_3, fa14_0, fa14_1, fa19_0, len22, len24, fa26_0, fa26_1, fa26_2, len27, fa33_0, fa33_1, len35, fa77_0, fa77_1, fa88_0, fa88_1, fa88_2, fa88_3, fa88_4, fa88_5, fa114_0, fa114_1, fa114_2, fa124_0, fa124_1, len134, len136, len154, fa156_0, fa156_1, fa156_2, fa156_3, fa156_4, fa156_5, fa156_6, fa184_0, fa184_1, fa200_0, fa200_1, fa200_2, fa200_3, fa215_0, fa215_1, fa215_2, fa215_3, fa215_4, len218, len271, fa274_0, fa274_1, fa274_2, fa303_0, fa303_1, fa303_2, fa303_3, fa314_0, fa314_1, fa314_2, fa314_3, fa314_4, fa314_5, fa314_6, fa314_7, fa314_8, fa314_9, fa314_10]
    have e : out = groV gm := hok.eq fun A _ hA => gro_in (fun r hr x hx => ((hgr r hr).2.2 x hx).2) (hcl rfl) hA
    subst e
    exact hk _ X c (H.get 0 rfl) hX
  simp only [bin_add, bin_sub, bin_mul, bin_eql, bin_neq, bin_lss, bin_leq, bin_gtr, bin_geq, un_not, un_neg, zq4, zq3, zq1, zq2, zq0, cond_true', cond_false', zq14, zq15, zq16, zq17, zq13, zq10, zq12, zq11, zq7, zq5, zq6, zq9, zq8, resK_nil, resK_tmp, ite_T, ite_F, upd_at, add_plain, add_zero', Nat.reduceEqDiff, fa8_0, fa8_1, fa8_2, fa8_3, fa14_0, fa14_1, fa19_0, len22, len24, fa26_0, fa26_1, fa26_2, len27, fa33_0, fa33_1, len35, fa77_0, fa77_1, fa88_0, fa88_1, fa88_2, fa88_3, fa88_4, fa88_5, fa114_0, fa114_1, fa114_2, fa124_0, fa124_1, len134, len136, len154, fa156_0, fa156_1, fa156_2, fa156_3, fa156_4, fa156_5, fa156_6, fa184_0, fa184_1, fa200_0, fa200_1, fa200_2, fa200_3, fa215_0, fa215_1, fa215_2, fa215_3, fa215_4, len218, len271, fa274_0, fa274_1, fa274_2, fa303_0, fa303_1, fa303_2, fa303_3, fa314_0, fa314_1, fa314_2, fa314_3, fa314_4, fa314_5, fa314_6, fa314_7, fa314_8, fa314_9, fa314_10]
  rw [ldB24 (H.get 2 rfl) rfl]
  simp only [bin_add, bin_sub, bin_mul, bin_eql, bin_neq, bin_lss, bin_leq, bin_gtr, bin_geq, un_not, un_neg, zq4, zq3, zq1, zq2, zq0, cond_true', cond_false', zq14, zq15, zq16, zq17, zq13, zq10, zq12, zq11, zq7, zq5, zq6, zq9, zq8, resK_nil, resK_tmp, ite_T, ite_F, upd_at, add_plain, add_zero', Nat.reduceEqDiff, fa8_0, fa8_1, fa8_2, fa8_3, fa14_0, fa14_1, fa19_0, len22, len24, fa26_0, fa26_1, fa26_2, len27, fa33_0, fa33_1, len35, fa77_0, fa77_1, fa88_0, fa88_1, fa88_2, fa88_3, fa88_4, fa88_5, fa114_0, fa114_1, fa114_2, fa124_0, fa124_1, len134, len136, len154, fa156_0, fa156_1, fa156_2, fa156_3, fa156_4, fa156_5, fa156_6, fa184_0, fa184_1, fa200_0, fa200_1, fa200_2, fa200_3, fa215_0, fa215_1, fa215_2, fa215_3, fa215_4, len218, len271, fa274_0, fa274_1, fa274_2, fa303_0, fa303_1, fa303_2, fa303_3, fa314_0, fa314_1, fa314_2, fa314_3, fa314_4, fa314_5, fa314_6, fa314_7, fa314_8, fa314_9, fa314_10]
  refine loop_to gm.rules.length 0 (fun i f w' => i ≤ gm.rules.length ∧ f 18 = .int .i64 (i : Int) ∧ ∃ (X : Option Addr) (c : Nat) (out2 : List Int) (more2 : Bool), f 4 = .slice X out2.length c ∧ kI X out2 c w' ∧ f 5 = .bool more2 ∧ Gr w2 w' ∧ SetOk (Gro gm.rules) gm.nons.toNat out2 ∧
      (more2 = false → out2 = out ∧ ∀ q, q < i → (rul gm.rules q).1 ∉ out → ((rul gm.rules q).2.all (tstM (cloV gm true)) && (rul gm.rules q).2.any (tstM out)) = false) ∧ (more2 = true → out.length < out2.length))
    ⟨Nat.zero_le _, rfl, X, c, out, false, h4, hX, rfl, Gr.refl _, hok, fun _ => ⟨rfl, fun q hq => by omega⟩, fun h => by cases h⟩ ?_
  rintro i q w3 N2 hag2 ⟨hi, q18, X, c, out2, more2, q4, hX, q5, g2, hok2, hno, hyes⟩ hN2
  have q16 : q 16 = .slice Y gm.rules.length cy := hag2 16 (by decide)
  have q17 : q 17 = .int .i64 gm.rules.length := hag2 17 (by decide)
  have q3 : q 3 = .slice XM (cloV gm true).length cM := (hag2 3 (by decide)).trans f3
  simp only [q16, q17, q18, q4, q5, bin_add, bin_sub, bin_mul, bin_eql, bin_neq, bin_lss, bin_leq, bin_gtr, bin_geq, un_not, un_neg, zq4, zq3, zq1, zq2, zq0, cond_true', cond_false', zq14, zq15, zq16, zq17, zq13, zq10, zq12, zq11, zq7, zq5, zq6, zq9, zq8, resK_nil, resK_tmp, ite_T, ite_F, upd_at, add_plain, add_zero', Nat.reduceEqDiff, fa8_0, fa8_1, fa8_2, fa8_3, fa14_0, fa14_1, fa19_0, len22, len24, fa26_0, fa26_1, fa26_2, len27, fa33_0, fa33_1, len35, fa77_0, fa77_1, fa88_0, fa88_1, fa88_2, fa88_3, fa88_4, fa88_5, fa114_0, fa114_1, fa114_2, fa124_0, fa124_1, len134, len136, len154, fa156_0, fa156_1, fa156_2, fa156_3, fa156_4, fa156_5, fa156_6, fa184_0, fa184_1, fa200_0, fa200_1, fa200_2, fa200_3, fa215_0, fa215_1, fa215_2, fa215_3, fa215_4, len218, len271, fa274_0, fa274_1, fa274_2, fa303_0, fa303_1, fa303_2, fa303_3, fa314_0, fa314_1, fa314_2, fa314_3, fa314_4, fa314_5, fa314_6, fa314_7, fa314_8, fa314_9, fa314_10]
  by_cases hlt : i < gm.rules.length
  case neg =>
    simp only [show ¬ ((i : Int) < (gm.rules.length : Int)) from by omega, decide_false, bin_add, bin_sub, bin_mul, bin_eql, bin_neq, bin_lss, bin_leq, bin_gtr, bin_geq, un_not, un_neg, zq4, zq3, zq1, zq2, zq0, cond_true', cond_false', zq14, zq15, zq16, zq17, zq13, zq10, zq12, zq11, zq7, zq5, zq6, zq9, zq8, resK_nil, resK_tmp, ite_T, ite_F, upd_at, add_plain, add_zero', Nat.reduceEqDiff, fa8_0, fa8_1, fa8_2, fa8_3, fa14_0, fa14_1, fa19_0, len22, len24, fa26_0, fa26_1, fa26_2, len27, fa33_0, fa33_1, len35, fa77_0, fa77_1, fa88_0, fa88_1, fa88_2, fa88_3, fa88_4, fa88_5, fa114_0, fa114_1, fa114_2, fa124_0, fa124_1, len134, len136, len154, fa156_0, fa156_1, fa156_2, fa156_3, fa156_4, fa156_5, fa156_6, fa184_0, fa184_1, fa200_0, fa200_1, fa200_2, fa200_3, fa215_0, fa215_1, fa215_2, fa215_3, fa215_4, len218, len271, fa274_0, fa274_1, fa274_2, fa303_0, fa303_1, fa303_2, fa303_3, fa314_0, fa314_1, fa314_2, fa314_3, fa314_4, fa314_5, fa314_6, fa314_7, fa314_8, fa314_9, fa314_10]
    refine hN (out2, more2) _ _ ⟨⟨X, c, q4, hX⟩, q5, gr_trans g g2, hok2, fun hm r hr' hnot => ?_⟩ ?_
    · dsimp only at hm hnot ⊢
      obtain ⟨e, hall⟩ := hno hm
      subst e
      obtain ⟨z, hz, rfl⟩ := List.getElem_of_mem hr'
      have := hall z (by omega)
      rw [rul_eq hz] at this
      exact this hnot
    · cases more2
      · simp
        omega
      · have := hyes rfl
        have := hok2.len
        simp
        omega
  simp only [show ((i : Int) < (gm.rules.length : Int)) from by omega, decide_true, bin_add, bin_sub, bin_mul, bin_eql, bin_neq, bin_lss, bin_leq, bin_gtr, bin_geq, un_not, un_neg, zq4, zq3, zq1, zq2, zq0, cond_true', cond_false', zq14, zq15, zq16, zq17, zq13, zq10, zq12, zq11, zq7, zq5, zq6, zq9, zq8, resK_nil, resK_tmp, ite_T, ite_F, upd_at, add_plain, add_zero', Nat.reduceEqDiff, fa8_0, fa8_1, fa8_2, fa8_3, fa14_0, fa14_1, fa19_0, len22, len24, fa26_0, fa26_1, fa26_2, len27, fa33_0, fa33_1, len35, fa77_0, fa77_1, fa88_0, fa88_1, fa88_2, fa88_3, fa88_4, fa88_5, fa114_0, fa114_1, fa114_2, fa124_0, fa124_1, len134, len136, len154, fa156_0, fa156_1, fa156_2, fa156_3, fa156_4, fa156_5, fa156_6, fa184_0, fa184_1, fa200_0, fa200_1, fa200_2, fa200_3, fa215_0, fa215_1, fa215_2, fa215_3, fa215_4, len218, len271, fa274_0, fa274_1, fa274_2, fa303_0, fa303_1, fa303_2, fa303_3, fa314_0, fa314_1, fa314_2, fa314_3, fa314_4, fa314_5, fa314_6, fa314_7, fa314_8, fa314_9, fa314_10]
  have hrm : rul gm.rules i ∈ gm.rules := by rw [rul_eq hlt]; exact List.getElem_mem hlt
  have H := H.step g2
  have H := H.add (P := fun w' => Gr w2 w') fun w' g' => gr_trans g2 g'
  have H := H.addI hX.1 hX.2
  simp only [List.cons_append, List.nil_append] at H
  refine join_as (fun f w' => f 18 = .int .i64 (i : Int) ∧ ∃ (X : Option Addr) (c : Nat) (out2 : List Int) (more2 : Bool), f 4 = .slice X out2.length c ∧ kI X out2 c w' ∧ f 5 = .bool more2 ∧ Gr w2 w' ∧ SetOk (Gro gm.rules) gm.nons.toNat out2 ∧
      (more2 = false → out2 = out ∧ ∀ q, q < i + 1 → (rul gm.rules q).1 ∉ out → ((rul gm.rules q).2.all (tstM (cloV gm true)) && (rul gm.rules q).2.any (tstM out)) = false) ∧ (more2 = true → out.length < out2.length)) (fun K hK => ?_) ?_
  case refine_2 =>
    rintro f w' ⟨f18, h⟩
    simp only [f18, bin_add, bin_sub, bin_mul, bin_eql, bin_neq, bin_lss, bin_leq, bin_gtr, bin_geq, un_not, un_neg, zq4, zq3, zq1, zq2, zq0, cond_true', cond_false', zq14, zq15, zq16, zq17, zq13, zq10, zq12, zq11, zq7, zq5, zq6, zq9, zq8, resK_nil, resK_tmp, ite_T, ite_F, upd_at, add_plain, add_zero', Nat.reduceEqDiff, fa8_0, fa8_1, fa8_2, fa8_3, fa14_0, fa14_1, fa19_0, len22, len24, fa26_0, fa26_1, fa26_2, len27, fa33_0, fa33_1, len35, fa77_0, fa77_1, fa88_0, fa88_1, fa88_2, fa88_3, fa88_4, fa88_5, fa114_0, fa114_1, fa114_2, fa124_0, fa124_1, len134, len136, len154, fa156_0, fa156_1, fa156_2, fa156_3, fa156_4, fa156_5, fa156_6, fa184_0, fa184_1, fa200_0, fa200_1, fa200_2, fa200_3, fa215_0, fa215_1, fa215_2, fa215_3, fa215_4, len218, len271, fa274_0, fa274_1, fa274_2, fa303_0, fa303_1, fa303_2, fa303_3, fa314_0, fa314_1, fa314_2, fa314_3, fa314_4, fa314_5, fa314_6, fa314_7, fa314_8, fa314_9, fa314_10]
    rw [i64_of (by omega) (by omega)]
    exact hN2 _ _ hlt ⟨by omega, rfl, h⟩
  have hRF := (H.get 1 rfl).2
  refine rdi (ixn24 hRF.ptr hlt) ?_
  refine ld_rule agg33 sz33 hRF hlt fun v hv => ?_
  obtain ⟨Z, cz, rfl, hcz, hZ⟩ := hv
  have H := H.addI hZ.is hcz
  refine newR H fun b9 w4 H => ?_
  simp only [List.cons_append, List.nil_append] at H
  simp only [bin_add, bin_sub, bin_mul, bin_eql, bin_neq, bin_lss, bin_leq, bin_gtr, bin_geq, un_not, un_neg, zq4, zq3, zq1, zq2, zq0, cond_true', cond_false', zq14, zq15, zq16, zq17, zq13, zq10, zq12, zq11, zq7, zq5, zq6, zq9, zq8, resK_nil, resK_tmp, ite_T, ite_F, upd_at, add_plain, add_zero', Nat.reduceEqDiff, fa8_0, fa8_1, fa8_2, fa8_3, fa14_0, fa14_1, fa19_0, len22, len24, fa26_0, fa26_1, fa26_2, len27, fa33_0, fa33_1, len35, fa77_0, fa77_1, fa88_0, fa88_1, fa88_2, fa88_3, fa88_4, fa88_5, fa114_0, fa114_1, fa114_2, fa124_0, fa124_1, len134, len136, len154, fa156_0, fa156_1, fa156_2, fa156_3, fa156_4, fa156_5, fa156_6, fa184_0, fa184_1, fa200_0, fa200_1, fa200_2, fa200_3, fa215_0, fa215_1, fa215_2, fa215_3, fa215_4, len218, len271, fa274_0, fa274_1, fa274_2, fa303_0, fa303_1, fa303_2, fa303_3, fa314_0, fa314_1, fa314_2, fa314_3, fa314_4, fa314_5, fa314_6, fa314_7, fa314_8, fa314_9, fa314_10]
  rw [ldB27 (H.get 7 rfl) rfl]
  simp only [bin_add, bin_sub, bin_mul, bin_eql, bin_neq, bin_lss, bin_leq, bin_gtr, bin_geq, un_not, un_neg, zq4, zq3, zq1, zq2, zq0, cond_true', cond_false', zq14, zq15, zq16, zq17, zq13, zq10, zq12, zq11, zq7, zq5, zq6, zq9, zq8, resK_nil, resK_tmp, ite_T, ite_F, upd_at, add_plain, add_zero', Nat.reduceEqDiff, fa8_0, fa8_1, fa8_2, fa8_3, fa14_0, fa14_1, fa19_0, len22, len24, fa26_0, fa26_1, fa26_2, len27, fa33_0, fa33_1, len35, fa77_0, fa77_1, fa88_0, fa88_1, fa88_2, fa88_3, fa88_4, fa88_5, fa114_0, fa114_1, fa114_2, fa124_0, fa124_1, len134, len136, len154, fa156_0, fa156_1, fa156_2, fa156_3, fa156_4, fa156_5, fa156_6, fa184_0, fa184_1, fa200_0, fa200_1, fa200_2, fa200_3, fa215_0, fa215_1, fa215_2, fa215_3, fa215_4, len218, len271, fa274_0, fa274_1, fa274_2, fa303_0, fa303_1, fa303_2, fa303_3, fa314_0, fa314_1, fa314_2, fa314_3, fa314_4, fa314_5, fa314_6, fa314_7, fa314_8, fa314_9, fa314_10]
  have hr2 := (hgr _ hrm).2.1
  refine loop_to (rul gm.rules i).2.length 0 (fun j f w' => j ≤ (rul gm.rules i).2.length ∧ f 25 = .int .i64 (j : Int) ∧ f 8 = .bool (((rul gm.rules i).2.take j).all (tstM (cloV gm true))) ∧ f 9 = .bool (((rul gm.rules i).2.take j).any (tstM out2)) ∧ Gr w4 w')
    ⟨Nat.zero_le _, rfl, by simp; rfl, by simp; rfl, Gr.refl _⟩ ?_
  rintro j r w6 N3 hag3 ⟨hj, r25, r8, r9, g6⟩ hN3
  have r3 : r 3 = .slice XM (cloV gm true).length cM := (hag3 3 (by decide)).trans q3
  have r4 : r 4 = .slice X out2.length c := (hag3 4 (by decide)).trans q4
  have r5 : r 5 = .bool more2 := (hag3 5 (by decide)).trans q5
  have r7 : r 7 = ptrv b9 := hag3 7 (by decide)
  have r18 : r 18 = .int .i64 (i : Int) := (hag3 18 (by decide)).trans q18
  have r23 : r 23 = .slice Z (rul gm.rules i).2.length cz := hag3 23 (by decide)
  have r24 : r 24 = .int .i64 ((rul gm.rules i).2.length : Int) := hag3 24 (by decide)
  simp only [r3, r4, r7, r8, r9, r23, r24, r25, bin_add, bin_sub, bin_mul, bin_eql, bin_neq, bin_lss, bin_leq, bin_gtr, bin_geq, un_not, un_neg, zq4, zq3, zq1, zq2, zq0, cond_true', cond_false', zq14, zq15, zq16, zq17, zq13, zq10, zq12, zq11, zq7, zq5, zq6, zq9, zq8, resK_nil, resK_tmp, ite_T, ite_F, upd_at, add_plain, add_zero', Nat.reduceEqDiff, fa8_0, fa8_1, fa8_2, fa8_3, fa14_0, fa14_1, fa19_0, len22, len24, fa26_0, fa26_1, fa26_2, len27, fa33_0, fa33_1, len35, fa77_0, fa77_1, fa88_0, fa88_1, fa88_2, fa88_3, fa88_4, fa88_5, fa114_0, fa114_1, fa114_2, fa124_0, fa124_1, len134, len136, len154, fa156_0, fa156_1, fa156_2, fa156_3, fa156_4, fa156_5, fa156_6, fa184_0, fa184_1, fa200_0, fa200_1, fa200_2, fa200_3, fa215_0, fa215_1, fa215_2, fa215_3, fa215_4, len218, len271, fa274_0, fa274_1, fa274_2, fa303_0, fa303_1, fa303_2, fa303_3, fa314_0, fa314_1, fa314_2, fa314_3, fa314_4, fa314_5, fa314_6, fa314_7, fa314_8, fa314_9, fa314_10]
  have H := H.step g6
  by_cases hlt2 : j < (rul gm.rules i).2.length
  case neg =>
    simp only [show ¬ ((j : Int) < ((rul gm.rules i).2.length : Int)) from by omega, decide_false, r4, r7, r8, r9, bin_add, bin_sub, bin_mul, bin_eql, bin_neq, bin_lss, bin_leq, bin_gtr, bin_geq, un_not, un_neg, zq4, zq3, zq1, zq2, zq0, cond_true', cond_false', zq14, zq15, zq16, zq17, zq13, zq10, zq12, zq11, zq7, zq5, zq6, zq9, zq8, resK_nil, resK_tmp, ite_T, ite_F, upd_at, add_plain, add_zero', Nat.reduceEqDiff, fa8_0, fa8_1, fa8_2, fa8_3, fa14_0, fa14_1, fa19_0, len22, len24, fa26_0, fa26_1, fa26_2, len27, fa33_0, fa33_1, len35, fa77_0, fa77_1, fa88_0, fa88_1, fa88_2, fa88_3, fa88_4, fa88_5, fa114_0, fa114_1, fa114_2, fa124_0, fa124_1, len134, len136, len154, fa156_0, fa156_1, fa156_2, fa156_3, fa156_4, fa156_5, fa156_6, fa184_0, fa184_1, fa200_0, fa200_1, fa200_2, fa200_3, fa215_0, fa215_1, fa215_2, fa215_3, fa215_4, len218, len271, fa274_0, fa274_1, fa274_2, fa303_0, fa303_1, fa303_2, fa303_3, fa314_0, fa314_1, fa314_2, fa314_3, fa314_4, fa314_5, fa314_6, fa314_7, fa314_8, fa314_9, fa314_10]
    rw [List.take_of_length_le (by omega)]
    have skip : ∀ (w' : World) (f' : F), Gr w6 w' → f' 18 = .int .i64 (i : Int) → f' 4 = .slice X out2.length c → f' 5 = .bool more2 → ((rul gm.rules i).1 ∉ out2 → ((rul gm.rules i).2.all (tstM (cloV gm true)) && (rul gm.rules i).2.any (tstM out2)) = false) → K f' w' := fun w' f' g' e1 e2 e3 hsk => by
      have H := H.step g'
      refine hK f' w' ⟨e1, X, c, out2, more2, e2, H.get 5 rfl, e3, H.get 4 rfl, hok2, fun hm => ⟨(hno hm).1, fun z hz hnot => ?_⟩, hyes⟩
      rcases Nat.lt_succ_iff_lt_or_eq.1 hz with hz | rfl
      · exact (hno hm).2 z hz hnot
      · have e := (hno hm).1
        rw [← e] at hnot ⊢
        exact hsk hnot
    cases ha : (rul gm.rules i).2.all (tstM (cloV gm true))
    · simp only [bin_add, bin_sub, bin_mul, bin_eql, bin_neq, bin_lss, bin_leq, bin_gtr, bin_geq, un_not, un_neg, zq4, zq3, zq1, zq2, zq0, cond_true', cond_false', zq14, zq15, zq16, zq17, zq13, zq10, zq12, zq11, zq7, zq5, zq6, zq9, zq8, resK_nil, resK_tmp, ite_T, ite_F, upd_at, add_plain, add_zero', Nat.reduceEqDiff, fa8_0, fa8_1, fa8_2, fa8_3, fa14_0, fa14_1, fa19_0, len22, len24, fa26_0, fa26_1, fa26_2, len27, fa33_0, fa33_1, len35, fa77_0, fa77_1, fa88_0, fa88_1, fa88_2, fa88_3, fa88_4, fa88_5, fa114_0, fa114_1, fa114_2, fa124_0, fa124_1, len134, len136, len154, fa156_0, fa156_1, fa156_2, fa156_3, fa156_4, fa156_5, fa156_6, fa184_0, fa184_1, fa200_0, fa200_1, fa200_2, fa200_3, fa215_0, fa215_1, fa215_2, fa215_3, fa215_4, len218, len271, fa274_0, fa274_1, fa274_2, fa303_0, fa303_1, fa303_2, fa303_3, fa314_0, fa314_1, fa314_2, fa314_3, fa314_4, fa314_5, fa314_6, fa314_7, fa314_8, fa314_9, fa314_10]
      exact skip _ _ (Gr.refl _) r18 r4 r5 (fun _ => by rw [ha, Bool.false_and])
    simp only [bin_add, bin_sub, bin_mul, bin_eql, bin_neq, bin_lss, bin_leq, bin_gtr, bin_geq, un_not, un_neg, zq4, zq3, zq1, zq2, zq0, cond_true', cond_false', zq14, zq15, zq16, zq17, zq13, zq10, zq12, zq11, zq7, zq5, zq6, zq9, zq8, resK_nil, resK_tmp, ite_T, ite_F, upd_at, add_plain, add_zero', Nat.reduceEqDiff, fa8_0, fa8_1, fa8_2, fa8_3, fa14_0, fa14_1, fa19_0, len22, len24, fa26_0, fa26_1, fa26_2, len27, fa33_0, fa33_1, len35, fa77_0, fa77_1, fa88_0, fa88_1, fa88_2, fa88_3, fa88_4, fa88_5, fa114_0, fa114_1, fa114_2, fa124_0, fa124_1, len134, len136, len154, fa156_0, fa156_1, fa156_2, fa156_3, fa156_4, fa156_5, fa156_6, fa184_0, fa184_1, fa200_0, fa200_1, fa200_2, fa200_3, fa215_0, fa215_1, fa215_2, fa215_3, fa215_4, len218, len271, fa274_0, fa274_1, fa274_2, fa303_0, fa303_1, fa303_2, fa303_3, fa314_0, fa314_1, fa314_2, fa314_3, fa314_4, fa314_5, fa314_6, fa314_7, fa314_8, fa314_9, fa314_10]
    cases hs : (rul gm.rules i).2.any (tstM out2)
    · simp only [bin_add, bin_sub, bin_mul, bin_eql, bin_neq, bin_lss, bin_leq, bin_gtr, bin_geq, un_not, un_neg, zq4, zq3, zq1, zq2, zq0, cond_true', cond_false', zq14, zq15, zq16, zq17, zq13, zq10, zq12, zq11, zq7, zq5, zq6, zq9, zq8, resK_nil, resK_tmp, ite_T, ite_F, upd_at, add_plain, add_zero', Nat.reduceEqDiff, fa8_0, fa8_1, fa8_2, fa8_3, fa14_0, fa14_1, fa19_0, len22, len24, fa26_0, fa26_1, fa26_2, len27, fa33_0, fa33_1, len35, fa77_0, fa77_1, fa88_0, fa88_1, fa88_2, fa88_3, fa88_4, fa88_5, fa114_0, fa114_1, fa114_2, fa124_0, fa124_1, len134, len136, len154, fa156_0, fa156_1, fa156_2, fa156_3, fa156_4, fa156_5, fa156_6, fa184_0, fa184_1, fa200_0, fa200_1, fa200_2, fa200_3, fa215_0, fa215_1, fa215_2, fa215_3, fa215_4, len218, len271, fa274_0, fa274_1, fa274_2, fa303_0, fa303_1, fa303_2, fa303_3, fa314_0, fa314_1, fa314_2, fa314_3, fa314_4, fa314_5, fa314_6, fa314_7, fa314_8, fa314_9, fa314_10]
      exact skip _ _ (Gr.refl _) r18 r4 r5 (fun _ => by rw [hs, Bool.and_false])
    simp only [bin_add, bin_sub, bin_mul, bin_eql, bin_neq, bin_lss, bin_leq, bin_gtr, bin_geq, un_not, un_neg, zq4, zq3, zq1, zq2, zq0, cond_true', cond_false', zq14, zq15, zq16, zq17, zq13, zq10, zq12, zq11, zq7, zq5, zq6, zq9, zq8, resK_nil, resK_tmp, ite_T, ite_F, upd_at, add_plain, add_zero', Nat.reduceEqDiff, fa8_0, fa8_1, fa8_2, fa8_3, fa14_0, fa14_1, fa19_0, len22, len24, fa26_0, fa26_1, fa26_2, len27, fa33_0, fa33_1, len35, fa77_0, fa77_1, fa88_0, fa88_1, fa88_2, fa88_3, fa88_4, fa88_5, fa114_0, fa114_1, fa114_2, fa124_0, fa124_1, len134, len136, len154, fa156_0, fa156_1, fa156_2, fa156_3, fa156_4, fa156_5, fa156_6, fa184_0, fa184_1, fa200_0, fa200_1, fa200_2, fa200_3, fa215_0, fa215_1, fa215_2, fa215_3, fa215_4, len218, len271, fa274_0, fa274_1, fa274_2, fa303_0, fa303_1, fa303_2, fa303_3, fa314_0, fa314_1, fa314_2, fa314_3, fa314_4, fa314_5, fa314_6, fa314_7, fa314_8, fa314_9, fa314_10]
    rw [ldB3 (H.get 7 rfl) rfl]
    refine l1Has_c (H.get 5 rfl).1 fun w7 g7 => ?_
    have H := H.step g7
    by_cases hin : (rul gm.rules i).1 ∈ out2
    · simp only [hin, decide_true, Bool.not_true, bin_add, bin_sub, bin_mul, bin_eql, bin_neq, bin_lss, bin_leq, bin_gtr, bin_geq, un_not, un_neg, zq4, zq3, zq1, zq2, zq0, cond_true', cond_false', zq14, zq15, zq16, zq17, zq13, zq10, zq12, zq11, zq7, zq5, zq6, zq9, zq8, resK_nil, resK_tmp, ite_T, ite_F, upd_at, add_plain, add_zero', Nat.reduceEqDiff, fa8_0, fa8_1, fa8_2, fa8_3, fa14_0, fa14_1, fa19_0, len22, len24, fa26_0, fa26_1, fa26_2, len27, fa33_0, fa33_1, len35, fa77_0, fa77_1, fa88_0, fa88_1, fa88_2, fa88_3, fa88_4, fa88_5, fa114_0, fa114_1, fa114_2, fa124_0, fa124_1, len134, len136, len154, fa156_0, fa156_1, fa156_2, fa156_3, fa156_4, fa156_5, fa156_6, fa184_0, fa184_1, fa200_0, fa200_1, fa200_2, fa200_3, fa215_0, fa215_1, fa215_2, fa215_3, fa215_4, len218, len271, fa274_0, fa274_1, fa274_2, fa303_0, fa303_1, fa303_2, fa303_3, fa314_0, fa314_1, fa314_2, fa314_3, fa314_4, fa314_5, fa314_6, fa314_7, fa314_8, fa314_9, fa314_10]
      exact skip _ _ g7 r18 r4 r5 (fun h => absurd hin h)
    simp only [hin, decide_false, Bool.not_false, bin_add, bin_sub, bin_mul, bin_eql, bin_neq, bin_lss, bin_leq, bin_gtr, bin_geq, un_not, un_neg, zq4, zq3, zq1, zq2, zq0, cond_true', cond_false', zq14, zq15, zq16, zq17, zq13, zq10, zq12, zq11, zq7, zq5, zq6, zq9, zq8, resK_nil, resK_tmp, ite_T, ite_F, upd_at, add_plain, add_zero', Nat.reduceEqDiff, fa8_0, fa8_1, fa8_2, fa8_3, fa14_0, fa14_1, fa19_0, len22, len24, fa26_0, fa26_1, fa26_2, len27, fa33_0, fa33_1, len35, fa77_0, fa77_1, fa88_0, fa88_1, fa88_2, fa88_3, fa88_4, fa88_5, fa114_0, fa114_1, fa114_2, fa124_0, fa124_1, len134, len136, len154, fa156_0, fa156_1, fa156_2, fa156_3, fa156_4, fa156_5, fa156_6, fa184_0, fa184_1, fa200_0, fa200_1, fa200_2, fa200_3, fa215_0, fa215_1, fa215_2, fa215_3, fa215_4, len218, len271, fa274_0, fa274_1, fa274_2, fa303_0, fa303_1, fa303_2, fa303_3, fa314_0, fa314_1, fa314_2, fa314_3, fa314_4, fa314_5, fa314_6, fa314_7, fa314_8, fa314_9, fa314_10]
    rw [ldB3 (H.get 7 rfl) rfl]
    have hlen2 := hok2.len
    refine l1Put_c (H.get 5 rfl) (by omega) fun w8 X' c' g8 hX' => ?_
    have H := H.step g8
    have hb := (hgr _ hrm).1
    have hmade := (tstM_iff (fun x hx => ((hgr _ hrm).2.2 x hx).2)).1 ha
    have hgro : Gro gm.rules (rul gm.rules i).1.toNat := by
      rw [List.any_eq_true] at hs
      obtain ⟨x, hx, hs⟩ := hs
      simp only [tstM, Bool.or_eq_true, decide_eq_true_eq] at hs
      by_cases h0 : x < 0
      · exact .tok hrm (by omega) hmade hx h0
      · have hs := hs.resolve_left h0
        obtain ⟨A, e, _, hA⟩ := hok2.ok x hs
        exact .non hrm (by omega) hmade hx h0 (by rw [e, Int.toNat_natCast]; exact hA)
    have hput := hok2.put (A := (rul gm.rules i).1.toNat) (by omega) hgro
    rw [show (((rul gm.rules i).1.toNat : Nat) : Int) = (rul gm.rules i).1 from by omega] at hput
    have hpl := putL_more hok2.rise hin
    refine hK _ _ ⟨r18, X', c', _, true, rfl, hX', rfl, H.get 4 rfl, hput, (fun h => by cases h), fun _ => ?_⟩
    cases more2
    · rw [(hno rfl).1] at hpl
      rw [(hno rfl).1]
      omega
    · have := hyes rfl
      omega
  simp only [show ((j : Int) < ((rul gm.rules i).2.length : Int)) from by omega, decide_true, bin_add, bin_sub, bin_mul, bin_eql, bin_neq, bin_lss, bin_leq, bin_gtr, bin_geq, un_not, un_neg, zq4, zq3, zq1, zq2, zq0, cond_true', cond_false', zq14, zq15, zq16, zq17, zq13, zq10, zq12, zq11, zq7, zq5, zq6, zq9, zq8, resK_nil, resK_tmp, ite_T, ite_F, upd_at, add_plain, add_zero', Nat.reduceEqDiff, fa8_0, fa8_1, fa8_2, fa8_3, fa14_0, fa14_1, fa19_0, len22, len24, fa26_0, fa26_1, fa26_2, len27, fa33_0, fa33_1, len35, fa77_0, fa77_1, fa88_0, fa88_1, fa88_2, fa88_3, fa88_4, fa88_5, fa114_0, fa114_1, fa114_2, fa124_0, fa124_1, len134, len136, len154, fa156_0, fa156_1, fa156_2, fa156_3, fa156_4, fa156_5, fa156_6, fa184_0, fa184_1, fa200_0, fa200_1, fa200_2, fa200_3, fa215_0, fa215_1, fa215_2, fa215_3, fa215_4, len218, len271, fa274_0, fa274_1, fa274_2, fa303_0, fa303_1, fa303_2, fa303_3, fa314_0, fa314_1, fa314_2, fa314_3, fa314_4, fa314_5, fa314_6, fa314_7, fa314_8, fa314_9, fa314_10]
  have hZ' := (H.get 6 rfl).1
  refine rdi (ixn27 hZ'.ptr hlt2) (rdi (ld3 (hZ'.cell j hlt2)) ?_)
  have hall := all_take_succ (p := tstM (cloV gm true)) hlt2
  have hany := any_take_succ' (p := tstM out2) hlt2
  have hle27 := hZ'.le
  generalize hx : (rul gm.rules i).2.getD j 0 = x at *
  have step : ∀ (b1 b2 : Bool) (w' : World) (f' : F), Gr w6 w' → f' 25 = .int .i64 ((j : Int) + 1) → f' 8 = .bool b1 → f' 9 = .bool b2 → b1 = ((rul gm.rules i).2.take (j + 1)).all (tstM (cloV gm true)) → b2 = ((rul gm.rules i).2.take (j + 1)).any (tstM out2) → N3 f' w' := fun b1 b2 w' f' g' e1 e2 e3 e4 e5 => by
    refine hN3 f' w' hlt2 ⟨by omega, by rw [e1]; rfl, by rw [e2, e4], by rw [e3, e5], gr_trans g6 g'⟩
  cases hacc : ((rul gm.rules i).2.take j).all (tstM (cloV gm true))
  · simp only [bin_add, bin_sub, bin_mul, bin_eql, bin_neq, bin_lss, bin_leq, bin_gtr, bin_geq, un_not, un_neg, zq4, zq3, zq1, zq2, zq0, cond_true', cond_false', zq14, zq15, zq16, zq17, zq13, zq10, zq12, zq11, zq7, zq5, zq6, zq9, zq8, resK_nil, resK_tmp, ite_T, ite_F, upd_at, add_plain, add_zero', Nat.reduceEqDiff, fa8_0, fa8_1, fa8_2, fa8_3, fa14_0, fa14_1, fa19_0, len22, len24, fa26_0, fa26_1, fa26_2, len27, fa33_0, fa33_1, len35, fa77_0, fa77_1, fa88_0, fa88_1, fa88_2, fa88_3, fa88_4, fa88_5, fa114_0, fa114_1, fa114_2, fa124_0, fa124_1, len134, len136, len154, fa156_0, fa156_1, fa156_2, fa156_3, fa156_4, fa156_5, fa156_6, fa184_0, fa184_1, fa200_0, fa200_1, fa200_2, fa200_3, fa215_0, fa215_1, fa215_2, fa215_3, fa215_4, len218, len271, fa274_0, fa274_1, fa274_2, fa303_0, fa303_1, fa303_2, fa303_3, fa314_0, fa314_1, fa314_2, fa314_3, fa314_4, fa314_5, fa314_6, fa314_7, fa314_8, fa314_9, fa314_10]
    have ea : false = ((rul gm.rules i).2.take (j + 1)).all (tstM (cloV gm true)) := by rw [hall, hacc, Bool.false_and]
    cases hb : ((rul gm.rules i).2.take j).any (tstM out2)
    · simp only [bin_add, bin_sub, bin_mul, bin_eql, bin_neq, bin_lss, bin_leq, bin_gtr, bin_geq, un_not, un_neg, zq4, zq3, zq1, zq2, zq0, cond_true', cond_false', zq14, zq15, zq16, zq17, zq13, zq10, zq12, zq11, zq7, zq5, zq6, zq9, zq8, resK_nil, resK_tmp, ite_T, ite_F, upd_at, add_plain, add_zero', Nat.reduceEqDiff, fa8_0, fa8_1, fa8_2, fa8_3, fa14_0, fa14_1, fa19_0, len22, len24, fa26_0, fa26_1, fa26_2, len27, fa33_0, fa33_1, len35, fa77_0, fa77_1, fa88_0, fa88_1, fa88_2, fa88_3, fa88_4, fa88_5, fa114_0, fa114_1, fa114_2, fa124_0, fa124_1, len134, len136, len154, fa156_0, fa156_1, fa156_2, fa156_3, fa156_4, fa156_5, fa156_6, fa184_0, fa184_1, fa200_0, fa200_1, fa200_2, fa200_3, fa215_0, fa215_1, fa215_2, fa215_3, fa215_4, len218, len271, fa274_0, fa274_1, fa274_2, fa303_0, fa303_1, fa303_2, fa303_3, fa314_0, fa314_1, fa314_2, fa314_3, fa314_4, fa314_5, fa314_6, fa314_7, fa314_8, fa314_9, fa314_10]
      by_cases h0 : x < 0
      · simp only [h0, decide_true, bin_add, bin_sub, bin_mul, bin_eql, bin_neq, bin_lss, bin_leq, bin_gtr, bin_geq, un_not, un_neg, zq4, zq3, zq1, zq2, zq0, cond_true', cond_false', zq14, zq15, zq16, zq17, zq13, zq10, zq12, zq11, zq7, zq5, zq6, zq9, zq8, resK_nil, resK_tmp, ite_T, ite_F, upd_at, add_plain, add_zero', Nat.reduceEqDiff, fa8_0, fa8_1, fa8_2, fa8_3, fa14_0, fa14_1, fa19_0, len22, len24, fa26_0, fa26_1, fa26_2, len27, fa33_0, fa33_1, len35, fa77_0, fa77_1, fa88_0, fa88_1, fa88_2, fa88_3, fa88_4, fa88_5, fa114_0, fa114_1, fa114_2, fa124_0, fa124_1, len134, len136, len154, fa156_0, fa156_1, fa156_2, fa156_3, fa156_4, fa156_5, fa156_6, fa184_0, fa184_1, fa200_0, fa200_1, fa200_2, fa200_3, fa215_0, fa215_1, fa215_2, fa215_3, fa215_4, len218, len271, fa274_0, fa274_1, fa274_2, fa303_0, fa303_1, fa303_2, fa303_3, fa314_0, fa314_1, fa314_2, fa314_3, fa314_4, fa314_5, fa314_6, fa314_7, fa314_8, fa314_9, fa314_10]
        rw [i64_of (by omega) (by omega)]
        exact step false true _ _ (Gr.refl _) rfl rfl rfl ea (by rw [hany, hb, show tstM out2 x = true from by simp [tstM, h0]]; rfl)
      · simp only [h0, decide_false, bin_add, bin_sub, bin_mul, bin_eql, bin_neq, bin_lss, bin_leq, bin_gtr, bin_geq, un_not, un_neg, zq4, zq3, zq1, zq2, zq0, cond_true', cond_false', zq14, zq15, zq16, zq17, zq13, zq10, zq12, zq11, zq7, zq5, zq6, zq9, zq8, resK_nil, resK_tmp, ite_T, ite_F, upd_at, add_plain, add_zero', Nat.reduceEqDiff, fa8_0, fa8_1, fa8_2, fa8_3, fa14_0, fa14_1, fa19_0, len22, len24, fa26_0, fa26_1, fa26_2, len27, fa33_0, fa33_1, len35, fa77_0, fa77_1, fa88_0, fa88_1, fa88_2, fa88_3, fa88_4, fa88_5, fa114_0, fa114_1, fa114_2, fa124_0, fa124_1, len134, len136, len154, fa156_0, fa156_1, fa156_2, fa156_3, fa156_4, fa156_5, fa156_6, fa184_0, fa184_1, fa200_0, fa200_1, fa200_2, fa200_3, fa215_0, fa215_1, fa215_2, fa215_3, fa215_4, len218, len271, fa274_0, fa274_1, fa274_2, fa303_0, fa303_1, fa303_2, fa303_3, fa314_0, fa314_1, fa314_2, fa314_3, fa314_4, fa314_5, fa314_6, fa314_7, fa314_8, fa314_9, fa314_10]
        refine l1Has_c ((H.get 5 rfl).1.gr (Gr.refl _)) fun w7 g7 => ?_
        rw [i64_of (by omega) (by omega)]
        exact step false _ _ _ (gr_trans (Gr.refl _) g7) rfl rfl rfl ea (by rw [hany, hb, show tstM out2 x = decide (x ∈ out2) from by simp [tstM, h0], Bool.false_or])
    · simp only [bin_add, bin_sub, bin_mul, bin_eql, bin_neq, bin_lss, bin_leq, bin_gtr, bin_geq, un_not, un_neg, zq4, zq3, zq1, zq2, zq0, cond_true', cond_false', zq14, zq15, zq16, zq17, zq13, zq10, zq12, zq11, zq7, zq5, zq6, zq9, zq8, resK_nil, resK_tmp, ite_T, ite_F, upd_at, add_plain, add_zero', Nat.reduceEqDiff, fa8_0, fa8_1, fa8_2, fa8_3, fa14_0, fa14_1, fa19_0, len22, len24, fa26_0, fa26_1, fa26_2, len27, fa33_0, fa33_1, len35, fa77_0, fa77_1, fa88_0, fa88_1, fa88_2, fa88_3, fa88_4, fa88_5, fa114_0, fa114_1, fa114_2, fa124_0, fa124_1, len134, len136, len154, fa156_0, fa156_1, fa156_2, fa156_3, fa156_4, fa156_5, fa156_6, fa184_0, fa184_1, fa200_0, fa200_1, fa200_2, fa200_3, fa215_0, fa215_1, fa215_2, fa215_3, fa215_4, len218, len271, fa274_0, fa274_1, fa274_2, fa303_0, fa303_1, fa303_2, fa303_3, fa314_0, fa314_1, fa314_2, fa314_3, fa314_4, fa314_5, fa314_6, fa314_7, fa314_8, fa314_9, fa314_10]
      rw [i64_of (by omega) (by omega)]
      exact step false true _ _ (Gr.refl _) rfl rfl rfl ea (by rw [hany, hb, Bool.true_or])
  · simp only [bin_add, bin_sub, bin_mul, bin_eql, bin_neq, bin_lss, bin_leq, bin_gtr, bin_geq, un_not, un_neg, zq4, zq3, zq1, zq2, zq0, cond_true', cond_false', zq14, zq15, zq16, zq17, zq13, zq10, zq12, zq11, zq7, zq5, zq6, zq9, zq8, resK_nil, resK_tmp, ite_T, ite_F, upd_at, add_plain, add_zero', Nat.reduceEqDiff, fa8_0, fa8_1, fa8_2, fa8_3, fa14_0, fa14_1, fa19_0, len22, len24, fa26_0, fa26_1, fa26_2, len27, fa33_0, fa33_1, len35, fa77_0, fa77_1, fa88_0, fa88_1, fa88_2, fa88_3, fa88_4, fa88_5, fa114_0, fa114_1, fa114_2, fa124_0, fa124_1, len134, len136, len154, fa156_0, fa156_1, fa156_2, fa156_3, fa156_4, fa156_5, fa156_6, fa184_0, fa184_1, fa200_0, fa200_1, fa200_2, fa200_3, fa215_0, fa215_1, fa215_2, fa215_3, fa215_4, len218, len271, fa274_0, fa274_1, fa274_2, fa303_0, fa303_1, fa303_2, fa303_3, fa314_0, fa314_1, fa314_2, fa314_3, fa314_4, fa314_5, fa314_6, fa314_7, fa314_8, fa314_9, fa314_10]
    by_cases hx0 : x < 0
    · simp only [hx0, decide_true, bin_add, bin_sub, bin_mul, bin_eql, bin_neq, bin_lss, bin_leq, bin_gtr, bin_geq, un_not, un_neg, zq4, zq3, zq1, zq2, zq0, cond_true', cond_false', zq14, zq15, zq16, zq17, zq13, zq10, zq12, zq11, zq7, zq5, zq6, zq9, zq8, resK_nil, resK_tmp, ite_T, ite_F, upd_at, add_plain, add_zero', Nat.reduceEqDiff, fa8_0, fa8_1, fa8_2, fa8_3, fa14_0, fa14_1, fa19_0, len22, len24, fa26_0, fa26_1, fa26_2, len27, fa33_0, fa33_1, len35, fa77_0, fa77_1, fa88_0, fa88_1, fa88_2, fa88_3, fa88_4, fa88_5, fa114_0, fa114_1, fa114_2, fa124_0, fa124_1, len134, len136, len154, fa156_0, fa156_1, fa156_2, fa156_3, fa156_4, fa156_5, fa156_6, fa184_0, fa184_1, fa200_0, fa200_1, fa200_2, fa200_3, fa215_0, fa215_1, fa215_2, fa215_3, fa215_4, len218, len271, fa274_0, fa274_1, fa274_2, fa303_0, fa303_1, fa303_2, fa303_3, fa314_0, fa314_1, fa314_2, fa314_3, fa314_4, fa314_5, fa314_6, fa314_7, fa314_8, fa314_9, fa314_10]
      have ea : true = ((rul gm.rules i).2.take (j + 1)).all (tstM (cloV gm true)) := by rw [hall, hacc, show tstM (cloV gm true) x = true from by simp [tstM, hx0]]; rfl
      cases hb : ((rul gm.rules i).2.take j).any (tstM out2)
      · simp only [bin_add, bin_sub, bin_mul, bin_eql, bin_neq, bin_lss, bin_leq, bin_gtr, bin_geq, un_not, un_neg, zq4, zq3, zq1, zq2, zq0, cond_true', cond_false', zq14, zq15, zq16, zq17, zq13, zq10, zq12, zq11, zq7, zq5, zq6, zq9, zq8, resK_nil, resK_tmp, ite_T, ite_F, upd_at, add_plain, add_zero', Nat.reduceEqDiff, fa8_0, fa8_1, fa8_2, fa8_3, fa14_0, fa14_1, fa19_0, len22, len24, fa26_0, fa26_1, fa26_2, len27, fa33_0, fa33_1, len35, fa77_0, fa77_1, fa88_0, fa88_1, fa88_2, fa88_3, fa88_4, fa88_5, fa114_0, fa114_1, fa114_2, fa124_0, fa124_1, len134, len136, len154, fa156_0, fa156_1, fa156_2, fa156_3, fa156_4, fa156_5, fa156_6, fa184_0, fa184_1, fa200_0, fa200_1, fa200_2, fa200_3, fa215_0, fa215_1, fa215_2, fa215_3, fa215_4, len218, len271, fa274_0, fa274_1, fa274_2, fa303_0, fa303_1, fa303_2, fa303_3, fa314_0, fa314_1, fa314_2, fa314_3, fa314_4, fa314_5, fa314_6, fa314_7, fa314_8, fa314_9, fa314_10]
        by_cases h0 : x < 0
        · simp only [h0, decide_true, bin_add, bin_sub, bin_mul, bin_eql, bin_neq, bin_lss, bin_leq, bin_gtr, bin_geq, un_not, un_neg, zq4, zq3, zq1, zq2, zq0, cond_true', cond_false', zq14, zq15, zq16, zq17, zq13, zq10, zq12, zq11, zq7, zq5, zq6, zq9, zq8, resK_nil, resK_tmp, ite_T, ite_F, upd_at, add_plain, add_zero', Nat.reduceEqDiff, fa8_0, fa8_1, fa8_2, fa8_3, fa14_0, fa14_1, fa19_0, len22, len24, fa26_0, fa26_1, fa26_2, len27, fa33_0, fa33_1, len35, fa77_0, fa77_1, fa88_0, fa88_1, fa88_2, fa88_3, fa88_4, fa88_5, fa114_0, fa114_1, fa114_2, fa124_0, fa124_1, len134, len136, len154, fa156_0, fa156_1, fa156_2, fa156_3, fa156_4, fa156_5, fa156_6, fa184_0, fa184_1, fa200_0, fa200_1, fa200_2, fa200_3, fa215_0, fa215_1, fa215_2, fa215_3, fa215_4, len218, len271, fa274_0, fa274_1, fa274_2, fa303_0, fa303_1, fa303_2, fa303_3, fa314_0, fa314_1, fa314_2, fa314_3, fa314_4, fa314_5, fa314_6, fa314_7, fa314_8, fa314_9, fa314_10]
          rw [i64_of (by omega) (by omega)]
          exact step true true _ _ (Gr.refl _) rfl rfl rfl ea (by rw [hany, hb, show tstM out2 x = true from by simp [tstM, h0]]; rfl)
        · simp only [h0, decide_false, bin_add, bin_sub, bin_mul, bin_eql, bin_neq, bin_lss, bin_leq, bin_gtr, bin_geq, un_not, un_neg, zq4, zq3, zq1, zq2, zq0, cond_true', cond_false', zq14, zq15, zq16, zq17, zq13, zq10, zq12, zq11, zq7, zq5, zq6, zq9, zq8, resK_nil, resK_tmp, ite_T, ite_F, upd_at, add_plain, add_zero', Nat.reduceEqDiff, fa8_0, fa8_1, fa8_2, fa8_3, fa14_0, fa14_1, fa19_0, len22, len24, fa26_0, fa26_1, fa26_2, len27, fa33_0, fa33_1, len35, fa77_0, fa77_1, fa88_0, fa88_1, fa88_2, fa88_3, fa88_4, fa88_5, fa114_0, fa114_1, fa114_2, fa124_0, fa124_1, len134, len136, len154, fa156_0, fa156_1, fa156_2, fa156_3, fa156_4, fa156_5, fa156_6, fa184_0, fa184_1, fa200_0, fa200_1, fa200_2, fa200_3, fa215_0, fa215_1, fa215_2, fa215_3, fa215_4, len218, len271, fa274_0, fa274_1, fa274_2, fa303_0, fa303_1, fa303_2, fa303_3, fa314_0, fa314_1, fa314_2, fa314_3, fa314_4, fa314_5, fa314_6, fa314_7, fa314_8, fa314_9, fa314_10]
          refine l1Has_c ((H.get 5 rfl).1.gr (Gr.refl _)) fun w7 g7 => ?_
          rw [i64_of (by omega) (by omega)]
          exact step true _ _ _ (gr_trans (Gr.refl _) g7) rfl rfl rfl ea (by rw [hany, hb, show tstM out2 x = decide (x ∈ out2) from by simp [tstM, h0], Bool.false_or])
      · simp only [bin_add, bin_sub, bin_mul, bin_eql, bin_neq, bin_lss, bin_leq, bin_gtr, bin_geq, un_not, un_neg, zq4, zq3, zq1, zq2, zq0, cond_true', cond_false', zq14, zq15, zq16, zq17, zq13, zq10, zq12, zq11, zq7, zq5, zq6, zq9, zq8, resK_nil, resK_tmp, ite_T, ite_F, upd_at, add_plain, add_zero', Nat.reduceEqDiff, fa8_0, fa8_1, fa8_2, fa8_3, fa14_0, fa14_1, fa19_0, len22, len24, fa26_0, fa26_1, fa26_2, len27, fa33_0, fa33_1, len35, fa77_0, fa77_1, fa88_0, fa88_1, fa88_2, fa88_3, fa88_4, fa88_5, fa114_0, fa114_1, fa114_2, fa124_0, fa124_1, len134, len136, len154, fa156_0, fa156_1, fa156_2, fa156_3, fa156_4, fa156_5, fa156_6, fa184_0, fa184_1, fa200_0, fa200_1, fa200_2, fa200_3, fa215_0, fa215_1, fa215_2, fa215_3, fa215_4, len218, len271, fa274_0, fa274_1, fa274_2, fa303_0, fa303_1, fa303_2, fa303_3, fa314_0, fa314_1, fa314_2, fa314_3, fa314_4, fa314_5, fa314_6, fa314_7, fa314_8, fa314_9, fa314_10]
        rw [i64_of (by omega) (by omega)]
        exact step true true _ _ (Gr.refl _) rfl rfl rfl ea (by rw [hany, hb, Bool.true_or])
    · simp only [hx0, decide_false, bin_add, bin_sub, bin_mul, bin_eql, bin_neq, bin_lss, bin_leq, bin_gtr, bin_geq, un_not, un_neg, zq4, zq3, zq1, zq2, zq0, cond_true', cond_false', zq14, zq15, zq16, zq17, zq13, zq10, zq12, zq11, zq7, zq5, zq6, zq9, zq8, resK_nil, resK_tmp, ite_T, ite_F, upd_at, add_plain, add_zero', Nat.reduceEqDiff, fa8_0, fa8_1, fa8_2, fa8_3, fa14_0, fa14_1, fa19_0, len22, len24, fa26_0, fa26_1, fa26_2, len27, fa33_0, fa33_1, len35, fa77_0, fa77_1, fa88_0, fa88_1, fa88_2, fa88_3, fa88_4, fa88_5, fa114_0, fa114_1, fa114_2, fa124_0, fa124_1, len134, len136, len154, fa156_0, fa156_1, fa156_2, fa156_3, fa156_4, fa156_5, fa156_6, fa184_0, fa184_1, fa200_0, fa200_1, fa200_2, fa200_3, fa215_0, fa215_1, fa215_2, fa215_3, fa215_4, len218, len271, fa274_0, fa274_1, fa274_2, fa303_0, fa303_1, fa303_2, fa303_3, fa314_0, fa314_1, fa314_2, fa314_3, fa314_4, fa314_5, fa314_6, fa314_7, fa314_8, fa314_9, fa314_10]
      refine l1Has_c (H.get 3 rfl).1 fun w8 g8 => ?_
      have ea : decide (x ∈ cloV gm true) = ((rul gm.rules i).2.take (j + 1)).all (tstM (cloV gm true)) := by rw [hall, hacc, show tstM (cloV gm true) x = decide (x ∈ cloV gm true) from by simp [tstM, hx0], Bool.true_and]
      cases hb : ((rul gm.rules i).2.take j).any (tstM out2)
      · simp only [bin_add, bin_sub, bin_mul, bin_eql, bin_neq, bin_lss, bin_leq, bin_gtr, bin_geq, un_not, un_neg, zq4, zq3, zq1, zq2, zq0, cond_true', cond_false', zq14, zq15, zq16, zq17, zq13, zq10, zq12, zq11, zq7, zq5, zq6, zq9, zq8, resK_nil, resK_tmp, ite_T, ite_F, upd_at, add_plain, add_zero', Nat.reduceEqDiff, fa8_0, fa8_1, fa8_2, fa8_3, fa14_0, fa14_1, fa19_0, len22, len24, fa26_0, fa26_1, fa26_2, len27, fa33_0, fa33_1, len35, fa77_0, fa77_1, fa88_0, fa88_1, fa88_2, fa88_3, fa88_4, fa88_5, fa114_0, fa114_1, fa114_2, fa124_0, fa124_1, len134, len136, len154, fa156_0, fa156_1, fa156_2, fa156_3, fa156_4, fa156_5, fa156_6, fa184_0, fa184_1, fa200_0, fa200_1, fa200_2, fa200_3, fa215_0, fa215_1, fa215_2, fa215_3, fa215_4, len218, len271, fa274_0, fa274_1, fa274_2, fa303_0, fa303_1, fa303_2, fa303_3, fa314_0, fa314_1, fa314_2, fa314_3, fa314_4, fa314_5, fa314_6, fa314_7, fa314_8, fa314_9, fa314_10]
        by_cases h0 : x < 0
        · simp only [h0, decide_true, bin_add, bin_sub, bin_mul, bin_eql, bin_neq, bin_lss, bin_leq, bin_gtr, bin_geq, un_not, un_neg, zq4, zq3, zq1, zq2, zq0, cond_true', cond_false', zq14, zq15, zq16, zq17, zq13, zq10, zq12, zq11, zq7, zq5, zq6, zq9, zq8, resK_nil, resK_tmp, ite_T, ite_F, upd_at, add_plain, add_zero', Nat.reduceEqDiff, fa8_0, fa8_1, fa8_2, fa8_3, fa14_0, fa14_1, fa19_0, len22, len24, fa26_0, fa26_1, fa26_2, len27, fa33_0, fa33_1, len35, fa77_0, fa77_1, fa88_0, fa88_1, fa88_2, fa88_3, fa88_4, fa88_5, fa114_0, fa114_1, fa114_2, fa124_0, fa124_1, len134, len136, len154, fa156_0, fa156_1, fa156_2, fa156_3, fa156_4, fa156_5, fa156_6, fa184_0, fa184_1, fa200_0, fa200_1, fa200_2, fa200_3, fa215_0, fa215_1, fa215_2, fa215_3, fa215_4, len218, len271, fa274_0, fa274_1, fa274_2, fa303_0, fa303_1, fa303_2, fa303_3, fa314_0, fa314_1, fa314_2, fa314_3, fa314_4, fa314_5, fa314_6, fa314_7, fa314_8, fa314_9, fa314_10]
          rw [i64_of (by omega) (by omega)]
          exact step _ true _ _ g8 rfl rfl rfl ea (by rw [hany, hb, show tstM out2 x = true from by simp [tstM, h0]]; rfl)
        · simp only [h0, decide_false, bin_add, bin_sub, bin_mul, bin_eql, bin_neq, bin_lss, bin_leq, bin_gtr, bin_geq, un_not, un_neg, zq4, zq3, zq1, zq2, zq0, cond_true', cond_false', zq14, zq15, zq16, zq17, zq13, zq10, zq12, zq11, zq7, zq5, zq6, zq9, zq8, resK_nil, resK_tmp, ite_T, ite_F, upd_at, add_plain, add_zero', Nat.reduceEqDiff, fa8_0, fa8_1, fa8_2, fa8_3, fa14_0, fa14_1, fa19_0, len22, len24, fa26_0, fa26_1, fa26_2, len27, fa33_0, fa33_1, len35, fa77_0, fa77_1, fa88_0, fa88_1, fa88_2, fa88_3, fa88_4, fa88_5, fa114_0, fa114_1, fa114_2, fa124_0, fa124_1, len134, len136, len154, fa156_0, fa156_1, fa156_2, fa156_3, fa156_4, fa156_5, fa156_6, fa184_0, fa184_1, fa200_0, fa200_1, fa200_2, fa200_3, fa215_0, fa215_1, fa215_2, fa215_3, fa215_4, len218, len271, fa274_0, fa274_1, fa274_2, fa303_0, fa303_1, fa303_2, fa303_3, fa314_0, fa314_1, fa314_2, fa314_3, fa314_4, fa314_5, fa314_6, fa314_7, fa314_8, fa314_9, fa314_10]
          refine l1Has_c ((H.get 5 rfl).1.gr g8) fun w7 g7 => ?_
          rw [i64_of (by omega) (by omega)]
          exact step _ _ _ _ (gr_trans g8 g7) rfl rfl rfl ea (by rw [hany, hb, show tstM out2 x = decide (x ∈ out2) from by simp [tstM, h0], Bool.false_or])
      · simp only [bin_add, bin_sub, bin_mul, bin_eql, bin_neq, bin_lss, bin_leq, bin_gtr, bin_geq, un_not, un_neg, zq4, zq3, zq1, zq2, zq0, cond_true', cond_false', zq14, zq15, zq16, zq17, zq13, zq10, zq12, zq11, zq7, zq5, zq6, zq9, zq8, resK_nil, resK_tmp, ite_T, ite_F, upd_at, add_plain, add_zero', Nat.reduceEqDiff, fa8_0, fa8_1, fa8_2, fa8_3, fa14_0, fa14_1, fa19_0, len22, len24, fa26_0, fa26_1, fa26_2, len27, fa33_0, fa33_1, len35, fa77_0, fa77_1, fa88_0, fa88_1, fa88_2, fa88_3, fa88_4, fa88_5, fa114_0, fa114_1, fa114_2, fa124_0, fa124_1, len134, len136, len154, fa156_0, fa156_1, fa156_2, fa156_3, fa156_4, fa156_5, fa156_6, fa184_0, fa184_1, fa200_0, fa200_1, fa200_2, fa200_3, fa215_0, fa215_1, fa215_2, fa215_3, fa215_4, len218, len271, fa274_0, fa274_1, fa274_2, fa303_0, fa303_1, fa303_2, fa303_3, fa314_0, fa314_1, fa314_2, fa314_3, fa314_4, fa314_5, fa314_6, fa314_7, fa314_8, fa314_9, fa314_10]
        rw [i64_of (by omega) (by omega)]
        exact step _ true _ _ g8 rfl rfl rfl ea (by rw [hany, hb, Bool.true_or])
theorem specNullableOf_c (hG : kG Y cy gm.rules w) (hk : ∀ w' X c, Gr w w' → kI X (listV gm (cloV gm false)).1 c w' → k (.tuple #[.slice X (listV gm (cloV gm false)).1.length c, .bool (listV gm (cloV gm false)).2]) w') :
    CallK Try.prog 69 [grv gm Y cy] k w := by
  refine enter69 ?_
  unfold S69
  have H := (Kn.nil w).addG hG.1 hG.2
  refine do_box fun b1 w1 g1 hb B1 => ?_
  have H := (H.step g1).addB B1
  rw [ldB_agg agg26 sz26 rfl (H.get 2 rfl)]
  refine goodGrammar_c (gvK (H.get 1 rfl)) fun w2 g => ?_
  have H := H.step g
  unfold listV at hk
  cases hg : goodG gm
  · simp only [Bool.not_false, bin_add, bin_sub, bin_mul, bin_eql, bin_neq, bin_lss, bin_leq, bin_gtr, bin_geq, un_not, un_neg, zq4, zq3, zq1, zq2, zq0, cond_true', cond_false', zq14, zq15, zq16, zq17, zq13, zq10, zq12, zq11, zq7, zq5, zq6, zq9, zq8, resK_nil, resK_tmp, ite_T, ite_F, upd_at, add_plain, add_zero', Nat.reduceEqDiff, fa8_0, fa8_1, fa8_2, fa8_3, fa14_0, fa14_1, fa19_0, len22, len24, fa26_0, fa26_1, fa26_2, len27, fa33_0, fa33_1, len35, fa77_0, fa77_1, fa88_0, fa88_1, fa88_2, fa88_3, fa88_4, fa88_5, fa114_0, fa114_1, fa114_2, fa124_0, fa124_1, len134, len136, len154, fa156_0, fa156_1, fa156_2, fa156_3, fa156_4, fa156_5, fa156_6, fa184_0, fa184_1, fa200_0, fa200_1, fa200_2, fa200_3, fa215_0, fa215_1, fa215_2, fa215_3, fa215_4, len218, len271, fa274_0, fa274_1, fa274_2, fa303_0, fa303_1, fa303_2, fa303_3, fa314_0, fa314_1, fa314_2, fa314_3, fa314_4, fa314_5, fa314_6, fa314_7, fa314_8, fa314_9, fa314_10]
    rw [hg, if_neg Bool.false_ne_true] at hk
    exact hk _ none 0 (H.get 0 rfl) ⟨⟨by simp, fun h => by simp at h, fun j hj => by simp at hj⟩, Nat.le_refl _⟩
  rw [hg, if_pos rfl] at hk
  have hgr := goodRules hg
  have hn := good_nons hg
  simp only [Bool.not_true, bin_add, bin_sub, bin_mul, bin_eql, bin_neq, bin_lss, bin_leq, bin_gtr, bin_geq, un_not, un_neg, zq4, zq3, zq1, zq2, zq0, cond_true', cond_false', zq14, zq15, zq16, zq17, zq13, zq10, zq12, zq11, zq7, zq5, zq6, zq9, zq8, resK_nil, resK_tmp, ite_T, ite_F, upd_at, add_plain, add_zero', Nat.reduceEqDiff, fa8_0, fa8_1, fa8_2, fa8_3, fa14_0, fa14_1, fa19_0, len22, len24, fa26_0, fa26_1, fa26_2, len27, fa33_0, fa33_1, len35, fa77_0, fa77_1, fa88_0, fa88_1, fa88_2, fa88_3, fa88_4, fa88_5, fa114_0, fa114_1, fa114_2, fa124_0, fa124_1, len134, len136, len154, fa156_0, fa156_1, fa156_2, fa156_3, fa156_4, fa156_5, fa156_6, fa184_0, fa184_1, fa200_0, fa200_1, fa200_2, fa200_3, fa215_0, fa215_1, fa215_2, fa215_3, fa215_4, len218, len271, fa274_0, fa274_1, fa274_2, fa303_0, fa303_1, fa303_2, fa303_3, fa314_0, fa314_1, fa314_2, fa314_3, fa314_4, fa314_5, fa314_6, fa314_7, fa314_8, fa314_9, fa314_10]
  rw [ldB_agg agg26 sz26 rfl (H.get 2 rfl)]
  refine l3Close_c (tok := false) (H.get 1 rfl) (by omega) (fun r hr => (hgr r hr).1) (fun r hr => by have := (hgr r hr).2.1; omega) fun w3 X c g hX => ?_
  have H := H.step g
  exact hk _ X c (H.get 0 rfl) hX
theorem specProductiveOf_c (hG : kG Y cy gm.rules w) (hk : ∀ w' X c, Gr w w' → kI X (listV gm (cloV gm true)).1 c w' → k (.tuple #[.slice X (listV gm (cloV gm true)).1.length c, .bool (listV gm (cloV gm true)).2]) w') :
    CallK Try.prog 70 [grv gm Y cy] k w := by
  refine enter70 ?_
  unfold S70
  have H := (Kn.nil w).addG hG.1 hG.2
  refine do_box fun b1 w1 g1 hb B1 => ?_
  have H := (H.step g1).addB B1
  rw [ldB_agg agg26 sz26 rfl (H.get 2 rfl)]
  refine goodGrammar_c (gvK (H.get 1 rfl)) fun w2 g => ?_
  have H := H.step g
  unfold listV at hk
  cases hg : goodG gm
  · simp only [Bool.not_false, bin_add, bin_sub, bin_mul, bin_eql, bin_neq, bin_lss, bin_leq, bin_gtr, bin_geq, un_not, un_neg, zq4, zq3, zq1, zq2, zq0, cond_true', cond_false', zq14, zq15, zq16, zq17, zq13, zq10, zq12, zq11, zq7, zq5, zq6, zq9, zq8, resK_nil, resK_tmp, ite_T, ite_F, upd_at, add_plain, add_zero', Nat.reduceEqDiff, fa8_0, fa8_1, fa8_2, fa8_3, fa14_0, fa14_1, fa19_0, len22, len24, fa26_0, fa26_1, fa26_2, len27, fa33_0, fa33_1, len35, fa77_0, fa77_1, fa88_0, fa88_1, fa88_2, fa88_3, fa88_4, fa88_5, fa114_0, fa114_1, fa114_2, fa124_0, fa124_1, len134, len136, len154, fa156_0, fa156_1, fa156_2, fa156_3, fa156_4, fa156_5, fa156_6, fa184_0, fa184_1, fa200_0, fa200_1, fa200_2, fa200_3, fa215_0, fa215_1, fa215_2, fa215_3, fa215_4, len218, len271, fa274_0, fa274_1, fa274_2, fa303_0, fa303_1, fa303_2, fa303_3, fa314_0, fa314_1, fa314_2, fa314_3, fa314_4, fa314_5, fa314_6, fa314_7, fa314_8, fa314_9, fa314_10]
    rw [hg, if_neg Bool.false_ne_true] at hk
    exact hk _ none 0 (H.get 0 rfl) ⟨⟨by simp, fun h => by simp at h, fun j hj => by simp at hj⟩, Nat.le_refl _⟩
  rw [hg, if_pos rfl] at hk
  have hgr := goodRules hg
  have hn := good_nons hg
  simp only [Bool.not_true, bin_add, bin_sub, bin_mul, bin_eql, bin_neq, bin_lss, bin_leq, bin_gtr, bin_geq, un_not, un_neg, zq4, zq3, zq1, zq2, zq0, cond_true', cond_false', zq14, zq15, zq16, zq17, zq13, zq10, zq12, zq11, zq7, zq5, zq6, zq9, zq8, resK_nil, resK_tmp, ite_T, ite_F, upd_at, add_plain, add_zero', Nat.reduceEqDiff, fa8_0, fa8_1, fa8_2, fa8_3, fa14_0, fa14_1, fa19_0, len22, len24, fa26_0, fa26_1, fa26_2, len27, fa33_0, fa33_1, len35, fa77_0, fa77_1, fa88_0, fa88_1, fa88_2, fa88_3, fa88_4, fa88_5, fa114_0, fa114_1, fa114_2, fa124_0, fa124_1, len134, len136, len154, fa156_0, fa156_1, fa156_2, fa156_3, fa156_4, fa156_5, fa156_6, fa184_0, fa184_1, fa200_0, fa200_1, fa200_2, fa200_3, fa215_0, fa215_1, fa215_2, fa215_3, fa215_4, len218, len271, fa274_0, fa274_1, fa274_2, fa303_0, fa303_1, fa303_2, fa303_3, fa314_0, fa314_1, fa314_2, fa314_3, fa314_4, fa314_5, fa314_6, fa314_7, fa314_8, fa314_9, fa314_10]
  rw [ldB_agg agg26 sz26 rfl (H.get 2 rfl)]
  refine l3Close_c (tok := true) (H.get 1 rfl) (by omega) (fun r hr => (hgr r hr).1) (fun r hr => by have := (hgr r hr).2.1; omega) fun w3 X c g hX => ?_
  have H := H.step g
  exact hk _ X c (H.get 0 rfl) hX
theorem specReachedOf_c (hG : kG Y cy gm.rules w) (hk : ∀ w' X c, Gr w w' → kI X (listV gm (rchV gm)).1 c w' → k (.tuple #[.slice X (listV gm (rchV gm)).1.length c, .bool (listV gm (rchV gm)).2]) w') :
    CallK Try.prog 71 [grv gm Y cy] k w := by
  refine enter71 ?_
  unfold S71
  have H := (Kn.nil w).addG hG.1 hG.2
  refine do_box fun b1 w1 g1 hb B1 => ?_
  have H := (H.step g1).addB B1
  rw [ldB_agg agg26 sz26 rfl (H.get 2 rfl)]
  refine goodGrammar_c (gvK (H.get 1 rfl)) fun w2 g => ?_
  have H := H.step g
  unfold listV at hk
  cases hg : goodG gm
  · simp only [Bool.not_false, bin_add, bin_sub, bin_mul, bin_eql, bin_neq, bin_lss, bin_leq, bin_gtr, bin_geq, un_not, un_neg, zq4, zq3, zq1, zq2, zq0, cond_true', cond_false', zq14, zq15, zq16, zq17, zq13, zq10, zq12, zq11, zq7, zq5, zq6, zq9, zq8, resK_nil, resK_tmp, ite_T, ite_F, upd_at, add_plain, add_zero', Nat.reduceEqDiff, fa8_0, fa8_1, fa8_2, fa8_3, fa14_0, fa14_1, fa19_0, len22, len24, fa26_0, fa26_1, fa26_2, len27, fa33_0, fa33_1, len35, fa77_0, fa77_1, fa88_0, fa88_1, fa88_2, fa88_3, fa88_4, fa88_5, fa114_0, fa114_1, fa114_2, fa124_0, fa124_1, len134, len136, len154, fa156_0, fa156_1, fa156_2, fa156_3, fa156_4, fa156_5, fa156_6, fa184_0, fa184_1, fa200_0, fa200_1, fa200_2, fa200_3, fa215_0, fa215_1, fa215_2, fa215_3, fa215_4, len218, len271, fa274_0, fa274_1, fa274_2, fa303_0, fa303_1, fa303_2, fa303_3, fa314_0, fa314_1, fa314_2, fa314_3, fa314_4, fa314_5, fa314_6, fa314_7, fa314_8, fa314_9, fa314_10]
    rw [hg, if_neg Bool.false_ne_true] at hk
    exact hk _ none 0 (H.get 0 rfl) ⟨⟨by simp, fun h => by simp at h, fun j hj => by simp at hj⟩, Nat.le_refl _⟩
  rw [hg, if_pos rfl] at hk
  have hgr := goodRules hg
  have hn := good_nons hg
  simp only [Bool.not_true, bin_add, bin_sub, bin_mul, bin_eql, bin_neq, bin_lss, bin_leq, bin_gtr, bin_geq, un_not, un_neg, zq4, zq3, zq1, zq2, zq0, cond_true', cond_false', zq14, zq15, zq16, zq17, zq13, zq10, zq12, zq11, zq7, zq5, zq6, zq9, zq8, resK_nil, resK_tmp, ite_T, ite_F, upd_at, add_plain, add_zero', Nat.reduceEqDiff, fa8_0, fa8_1, fa8_2, fa8_3, fa14_0, fa14_1, fa19_0, len22, len24, fa26_0, fa26_1, fa26_2, len27, fa33_0, fa33_1, len35, fa77_0, fa77_1, fa88_0, fa88_1, fa88_2, fa88_3, fa88_4, fa88_5, fa114_0, fa114_1, fa114_2, fa124_0, fa124_1, len134, len136, len154, fa156_0, fa156_1, fa156_2, fa156_3, fa156_4, fa156_5, fa156_6, fa184_0, fa184_1, fa200_0, fa200_1, fa200_2, fa200_3, fa215_0, fa215_1, fa215_2, fa215_3, fa215_4, len218, len271, fa274_0, fa274_1, fa274_2, fa303_0, fa303_1, fa303_2, fa303_3, fa314_0, fa314_1, fa314_2, fa314_3, fa314_4, fa314_5, fa314_6, fa314_7, fa314_8, fa314_9, fa314_10]
  rw [ldB_agg agg26 sz26 rfl (H.get 2 rfl)]
  refine l3Reached_c (H.get 1 rfl) (by omega) (fun r hr x hx => ((hgr r hr).2.2 x hx).2) (fun r hr => (hgr r hr).1.1) (fun r hr => by have := (hgr r hr).2.1; omega) fun w3 X c g hX => ?_
  have H := H.step g
  exact hk _ X c (H.get 0 rfl) hX
theorem specGrowingOf_c (hG : kG Y cy gm.rules w) (hk : ∀ w' X c, Gr w w' → kI X (listV gm (groV gm)).1 c w' → k (.tuple #[.slice X (listV gm (groV gm)).1.length c, .bool (listV gm (groV gm)).2]) w') :
    CallK Try.prog 73 [grv gm Y cy] k w := by
  refine enter73 ?_
  unfold S73
  have H := (Kn.nil w).addG hG.1 hG.2
  refine do_box fun b1 w1 g1 hb B1 => ?_
  have H := (H.step g1).addB B1
  rw [ldB_agg agg26 sz26 rfl (H.get 2 rfl)]
  refine goodGrammar_c (gvK (H.get 1 rfl)) fun w2 g => ?_
  have H := H.step g
  unfold listV at hk
  cases hg : goodG gm
  · simp only [Bool.not_false, bin_add, bin_sub, bin_mul, bin_eql, bin_neq, bin_lss, bin_leq, bin_gtr, bin_geq, un_not, un_neg, zq4, zq3, zq1, zq2, zq0, cond_true', cond_false', zq14, zq15, zq16, zq17, zq13, zq10, zq12, zq11, zq7, zq5, zq6, zq9, zq8, resK_nil, resK_tmp, ite_T, ite_F, upd_at, add_plain, add_zero', Nat.reduceEqDiff, fa8_0, fa8_1, fa8_2, fa8_3, fa14_0, fa14_1, fa19_0, len22, len24, fa26_0, fa26_1, fa26_2, len27, fa33_0, fa33_1, len35, fa77_0, fa77_1, fa88_0, fa88_1, fa88_2, fa88_3, fa88_4, fa88_5, fa114_0, fa114_1, fa114_2, fa124_0, fa124_1, len134, len136, len154, fa156_0, fa156_1, fa156_2, fa156_3, fa156_4, fa156_5, fa156_6, fa184_0, fa184_1, fa200_0, fa200_1, fa200_2, fa200_3, fa215_0, fa215_1, fa215_2, fa215_3, fa215_4, len218, len271, fa274_0, fa274_1, fa274_2, fa303_0, fa303_1, fa303_2, fa303_3, fa314_0, fa314_1, fa314_2, fa314_3, fa314_4, fa314_5, fa314_6, fa314_7, fa314_8, fa314_9, fa314_10]
    rw [hg, if_neg Bool.false_ne_true] at hk
    exact hk _ none 0 (H.get 0 rfl) ⟨⟨by simp, fun h => by simp at h, fun j hj => by simp at hj⟩, Nat.le_refl _⟩
  rw [hg, if_pos rfl] at hk
  have hgr := goodRules hg
  have hn := good_nons hg
  simp only [Bool.not_true, bin_add, bin_sub, bin_mul, bin_eql, bin_neq, bin_lss, bin_leq, bin_gtr, bin_geq, un_not, un_neg, zq4, zq3, zq1, zq2, zq0, cond_true', cond_false', zq14, zq15, zq16, zq17, zq13, zq10, zq12, zq11, zq7, zq5, zq6, zq9, zq8, resK_nil, resK_tmp, ite_T, ite_F, upd_at, add_plain, add_zero', Nat.reduceEqDiff, fa8_0, fa8_1, fa8_2, fa8_3, fa14_0, fa14_1, fa19_0, len22, len24, fa26_0, fa26_1, fa26_2, len27, fa33_0, fa33_1, len35, fa77_0, fa77_1, fa88_0, fa88_1, fa88_2, fa88_3, fa88_4, fa88_5, fa114_0, fa114_1, fa114_2, fa124_0, fa124_1, len134, len136, len154, fa156_0, fa156_1, fa156_2, fa156_3, fa156_4, fa156_5, fa156_6, fa184_0, fa184_1, fa200_0, fa200_1, fa200_2, fa200_3, fa215_0, fa215_1, fa215_2, fa215_3, fa215_4, len218, len271, fa274_0, fa274_1, fa274_2, fa303_0, fa303_1, fa303_2, fa303_3, fa314_0, fa314_1, fa314_2, fa314_3, fa314_4, fa314_5, fa314_6, fa314_7, fa314_8, fa314_9, fa314_10]
  rw [ldB_agg agg26 sz26 rfl (H.get 2 rfl)]
  refine l3Growing_c (H.get 1 rfl) hg fun w3 X c g hX => ?_
  have H := H.step g
  exact hk _ X c (H.get 0 rfl) hX
end
end Go.Proofs.Ytegcjkhebecgbaa

/- Contracts: the useful grammar, by the reference (l3Useful, UsefulOf, IsUseful). -/
set_option linter.unusedVariables false
set_option linter.unusedSimpArgs false
set_option maxRecDepth 100000
namespace Go.Sh
open Go
section
variable {F : Nat → Prop} {w w' : World} {rs : List RuleL} {cells : List Value}
theorem OwnG.readF {e B c : Nat} {X : Option Addr} (h : OwnG e F w B X c rs) : RulesF (fun q => blk X = some q ∨ F q) w X rs := by
  obtain ⟨cells, h1, h2⟩ := h
  have hcap := Row.cap h1
  refine ⟨by omega, fun hp => h1.ptr hp, fun hp => .inl ?_, fun j hj => ?_⟩
  · have := h1.ptr hp
    conv => lhs; rw [this]
    rfl
  · obtain ⟨Y, d, a1, a2, a3, a4⟩ := h2.cell j hj
    exact ⟨Y, d, h1.src.cell _ _ a1, h1.src.cell _ _ a2, a3, a4.mono fun _ hq => .inr hq.1⟩
theorem Row.readF {e c B : Nat} {X : Option Addr} (h1 : Row w B e 2 X rs.length c cells) (h2 : RuleCells F w rs cells) : RulesF (fun q => blk X = some q ∨ F q) w X rs := by
  have hcap := Row.cap h1
  refine ⟨by omega, fun hp => h1.ptr hp, fun hp => .inl ?_, fun j hj => ?_⟩
  · have := h1.ptr hp
    conv => lhs; rw [this]
    rfl
  · obtain ⟨Y, d, a1, a2, a3, a4⟩ := h2.cell j hj
    exact ⟨Y, d, h1.src.cell _ _ a1, h1.src.cell _ _ a2, a3, a4.mono fun _ hq => .inr hq⟩
end
noncomputable def usefulG (gm : Gram) : Gram := ⟨gm.nons, gm.toks, usefulR gm.rules⟩
open Classical in
theorem madeR_eq {gm : Gram} (hg : goodG gm = true) (rs : List RuleL) (h : ∀ r ∈ rs, r ∈ gm.rules) : rs.filter (fun r => decide (∀ x ∈ r.2, ¬ x < 0 → Clo gm.rules true x.toNat)) = rs.filter (fun r => decide (r.1 ∈ cloV gm true) && r.2.all (tstM (cloV gm true))) := by
  refine List.filter_congr fun r hr => ?_
  have hr' := goodRules hg r (h r hr)
  rw [Bool.eq_iff_iff, decide_eq_true_eq, Bool.and_eq_true, decide_eq_true_eq, tstM_iff fun x hx => (hr'.2.2 x hx).2]
  constructor
  · intro hx
    refine ⟨setL_mem.2 ⟨r.1.toNat, by omega, by omega, .mk (h r hr) (by omega) (fun _ _ _ => rfl) hx⟩, hx⟩
  · exact fun hx => hx.2
open Classical in
theorem rchR_eq {gm : Gram} (hg : goodG gm = true) (qs rs : List RuleL) (h : ∀ r ∈ rs, r ∈ gm.rules) : rs.filter (fun r => decide (Rch qs r.1.toNat)) = rs.filter (fun r => decide (r.1 ∈ rchV ⟨gm.nons, gm.toks, qs⟩)) := by
  refine List.filter_congr fun r hr => ?_
  have hr' := goodRules hg r (h r hr)
  rw [Bool.eq_iff_iff, decide_eq_true_eq, decide_eq_true_eq]
  unfold rchV
  rw [setL_mem]
  constructor
  · exact fun hx => ⟨r.1.toNat, by omega, by dsimp only; omega, hx⟩
  · rintro ⟨A, e, _, hA⟩
    rwa [e, Int.toNat_natCast]
theorem filter_take_succ {p : RuleL → Bool} {rs : List RuleL} {i : Nat} (h : i < rs.length) : (rs.take (i + 1)).filter p = (rs.take i).filter p ++ (if p (rul rs i) = true then [rul rs i] else []) := by
  rw [List.take_succ_eq_append_getElem h, List.filter_append, ← rul_eq h]
  congr 1
  cases hp : p (rul rs i) <;> simp [hp]
end Go.Sh
namespace Go.Proofs.Ytegcjkhebecgbaa
open Go Go.Sh Go.RowKit
section
variable {w0 w : World} {L : List Thing} {k : Value → World → Prop}
/-- A rule whose right side is owned comes to rules. -/
theorem appG (H : Apt w0 w L) (i j : Nat) (hij : i ≠ j) {X Y R : Option Addr} {c d e u : Nat} {cs : List Bool} {rs : List RuleL} {r : RuleL} {ft : Nat → Prop} (hi : L[i]? = some (gth ft X c rs)) (hj : L[j]? = some (ows Y d r.2)) (hl : rs.length ≤ 1000) (hR : Src w R [.int .i64 r.1, .slice Y r.2.length d])
    (hk : ∀ w' ft' X' c', Apt w0 w' ((L.set i (gth ft' X' c' (rs ++ [r]))).set j emp) → k (.slice X' (rs ++ [r]).length c') w') :
    Do Try.prog (sBuiltin .append #[24, 24] u cs [.slice X rs.length c, .slice R 1 e]) k w := by
  obtain ⟨cells, hrow, hrc⟩ := H.gow i hi
  have hY5 := H.own j hj
  have hXY : ∀ q, blk Y = some q → blk X ≠ some q := fun q hq e => H.two i j _ _ hij hi hj q (.inl e) hq
  refine do_append2 u24 inf33 rfl (by decide) hrow hR rfl (by intro v hv; simp at hv; rcases hv with rfl | rfl <;> rfl) (by omega) (by omega) (Nat.zero_le _) fun X' c' w' hr' hg hmv => ?_
  have hnew : ∀ q, q < w.heap.size → blk X ≠ some q → blk X' ≠ some q := fun q hq hn e => by
    rcases hmv with h1 | h1
    · exact hn (h1 ▸ e)
    · have := h1 q e
      omega
  have hrc2 : RuleCells (fun q => (ft q ∨ blk Y = some q) ∧ blk X' ≠ some q) w' (rs ++ [r]) (cells ++ [.int .i64 r.1, .slice Y r.2.length d]) := by
    refine RuleCells.append ((hrc.lt.same fun q hq => hg.block q hq.2 fun e => hq.1.2 e.symm).mono fun q hq => ⟨.inl hq.1.1, hnew q hq.2 hq.1.2⟩) (.cons (Row.cap hY5).1 ?_ .nil)
    have hf : IntsF (fun q => blk Y = some q ∧ q < w.heap.size) w Y r.2 := ⟨Own.ints hY5, fun hp => ⟨blk_ad hY5 hp, ((IntsF.of_own hY5).foot hp).2⟩⟩
    exact (hf.same' fun q hq => hg.block q hq.2 fun e => hXY q hq.1 e.symm).mono fun q hq => ⟨.inr hq.1, hnew q hq.2 (hXY q hq.1)⟩
  have hlen : rs.length + 1 = (rs ++ [r]).length := by simp
  rw [hlen] at hr' ⊢
  refine hk w' (fun q => ft q ∨ blk Y = some q) X' c' (H.join (it := gth (fun q => ft q ∨ blk Y = some q) X' c' (rs ++ [r])) hij hi hj (gx_of hg fun q hq => .inl (.inl hq)) (fun q hq => ?_) (fun q hq => ?_) (gow_kept ⟨_, hr', hrc2⟩))
  · rcases hq with hq | hq | hq
    · rcases hmv with e | e
      · exact .inl (.inl (e ▸ hq))
      · exact .inr (.inr (e q hq))
    · exact .inl (.inr hq)
    · exact .inr (.inl hq)
  · rcases hq with hq | hq | hq
    · exact (hr'.ge hq).2
    · exact Nat.lt_of_lt_of_le ((H.ok i _ hi).hi q (.inr hq)) hg.size
    · exact Nat.lt_of_lt_of_le ((H.ok j _ hj).hi q hq) hg.size
/-- A rule whose right side is read comes to a row. -/
theorem appRow (H : Apt w0 w L) (i : Nat) {X Y R : Option Addr} {c d e u n : Nat} {cs : List Bool} {cells : List Value} {r : RuleL} (hi : L[i]? = some (rwi 33 2 X n c cells)) (hl : n ≤ 1000) (hR : Src w R [.int .i64 r.1, .slice Y r.2.length d])
    (hk : ∀ w' X' c', Apt w0 w' (L.set i (rwi 33 2 X' (n + 1) c' (cells ++ [.int .i64 r.1, .slice Y r.2.length d]))) → k (.slice X' (n + 1) c') w') :
    Do Try.prog (sBuiltin .append #[24, 24] u cs [.slice X n c, .slice R 1 e]) k w := by
  have hrow := H.row i hi
  refine do_append2 u24 inf33 rfl (by decide) hrow hR rfl (by intro v hv; simp at hv; rcases hv with rfl | rfl <;> rfl) (by omega) (by omega) H.gr.size fun X' c' w' hr' hg hmv => ?_
  refine hk w' X' c' (H.set hi (it' := rwi 33 2 X' (n + 1) c' (cells ++ [.int .i64 r.1, .slice Y r.2.length d])) (gx_of hg fun q hq => hq) (fun q hq => ?_) (fun q hq => (hr'.ge hq).2) (rwi_kept hr'))
  rcases hmv with h1 | h1
  · exact .inl (show blk X = some q from h1.symm.trans hq)
  · exact .inr (h1 q hq)
end
end Go.Proofs.Ytegcjkhebecgbaa

/- Contract: the useful grammar, by the reference (l3Useful). -/
set_option linter.unusedVariables false
set_option linter.unusedSimpArgs false
set_option maxRecDepth 100000
namespace Go.Proofs.Ytegcjkhebecgbaa
open Go Go.Sh Go.RowKit
section
variable {w : World} {Y : Option Addr} {cy : Nat} {gm : Gram} {k : Value → World → Prop}
set_option maxHeartbeats 6400000 in
theorem l3Useful_c (hG : kG Y cy gm.rules w) (hg : goodG gm = true) (hk : ∀ w' X c, Gr w w' → (usefulR gm.rules).length ≤ c → RulesF (fun q => w.heap.size ≤ q ∧ q < w'.heap.size) w' X (usefulR gm.rules) → k (.agg #[.int .i64 gm.nons, .int .i64 gm.toks, .slice X (usefulR gm.rules).length c]) w') :
    CallK Try.prog 190 [grv gm Y cy] k w := by
  have hgr := goodRules hg
  have hn := good_nons hg
  have hlen := good_len hg
  refine enter190 ?_
  unfold S190
  have H := (Kn.nil w).addG hG.1 hG.2
  refine do_box fun b1 w1 g1 hb1 B1 => ?_
  have H := (H.step g1).addB B1
  refine do_alloc_of inf26 fun b3 w2 g2 hb3 B3 => ?_
  have H := (H.step g2).addB B3
  simp only [List.cons_append, List.nil_append] at H
  rw [ldB_agg agg26 sz26 rfl (H.get 2 rfl)]
  refine l3Close_c (tok := true) (H.get 1 rfl) (by omega) (fun r hr => (hgr r hr).1) (fun r hr => by have := (hgr r hr).2.1; omega) fun w3 XM cM gM hM => ?_
  have H := (H.step gM).addI hM.1 hM.2
  simp only [List.cons_append, List.nil_append] at H
  simp only [bin_add, bin_sub, bin_mul, bin_eql, bin_neq, bin_lss, bin_leq, bin_gtr, bin_geq, un_not, un_neg, zq4, zq3, zq1, zq2, zq0, cond_true', cond_false', zq14, zq15, zq16, zq17, zq13, zq10, zq12, zq11, zq7, zq5, zq6, zq9, zq8, resK_nil, resK_tmp, ite_T, ite_F, upd_at, add_plain, add_zero', Nat.reduceEqDiff, fa8_0, fa8_1, fa8_2, fa8_3, fa14_0, fa14_1, fa19_0, len22, len24, fa26_0, fa26_1, fa26_2, len27, fa33_0, fa33_1, len35, fa77_0, fa77_1, fa88_0, fa88_1, fa88_2, fa88_3, fa88_4, fa88_5, fa114_0, fa114_1, fa114_2, fa124_0, fa124_1, len134, len136, len154, fa156_0, fa156_1, fa156_2, fa156_3, fa156_4, fa156_5, fa156_6, fa184_0, fa184_1, fa200_0, fa200_1, fa200_2, fa200_3, fa215_0, fa215_1, fa215_2, fa215_3, fa215_4, len218, len271, fa274_0, fa274_1, fa274_2, fa303_0, fa303_1, fa303_2, fa303_3, fa314_0, fa314_1, fa314_2, fa314_3, fa314_4, fa314_5, fa314_6, fa314_7, fa314_8, fa314_9, fa314_10]
  rw [ldB3 (H.get 2 rfl) rfl, ldB3 (H.get 2 rfl) rfl, bd26 (cells := #[.int .i64 gm.nons, .int .i64 gm.toks, .slice none 0 0]) rfl]
  have A := Apt.nil w3
  refine allocH A inf26 fun b4 w4 A => ?_
  refine storeH A 0 rfl sz26 rfl rfl rfl fun w5 A => ?_
  simp only [List.nil_append, List.set_cons_zero] at A
  have A := nilGow (e := 33) A
  simp only [List.cons_append, List.nil_append] at A
  have H5 := H.step A.gr
  rw [ldB24 (H5.get 2 rfl) rfl]
  simp only [bin_add, bin_sub, bin_mul, bin_eql, bin_neq, bin_lss, bin_leq, bin_gtr, bin_geq, un_not, un_neg, zq4, zq3, zq1, zq2, zq0, cond_true', cond_false', zq14, zq15, zq16, zq17, zq13, zq10, zq12, zq11, zq7, zq5, zq6, zq9, zq8, resK_nil, resK_tmp, ite_T, ite_F, upd_at, add_plain, add_zero', Nat.reduceEqDiff, fa8_0, fa8_1, fa8_2, fa8_3, fa14_0, fa14_1, fa19_0, len22, len24, fa26_0, fa26_1, fa26_2, len27, fa33_0, fa33_1, len35, fa77_0, fa77_1, fa88_0, fa88_1, fa88_2, fa88_3, fa88_4, fa88_5, fa114_0, fa114_1, fa114_2, fa124_0, fa124_1, len134, len136, len154, fa156_0, fa156_1, fa156_2, fa156_3, fa156_4, fa156_5, fa156_6, fa184_0, fa184_1, fa200_0, fa200_1, fa200_2, fa200_3, fa215_0, fa215_1, fa215_2, fa215_3, fa215_4, len218, len271, fa274_0, fa274_1, fa274_2, fa303_0, fa303_1, fa303_2, fa303_3, fa314_0, fa314_1, fa314_2, fa314_3, fa314_4, fa314_5, fa314_6, fa314_7, fa314_8, fa314_9, fa314_10]
  have hrl := (H.get 1 rfl).2.le
  -- the rules that derive something
  refine loop_to gm.rules.length 0 (fun i f w' => i ≤ gm.rules.length ∧ f 24 = .int .i64 (i : Int) ∧ ∃ ft X c, Apt w3 w' [bx b4 [.int .i64 gm.nons, .int .i64 gm.toks, .slice X ((gm.rules.take i).filter (fun r => decide (r.1 ∈ cloV gm true) && r.2.all (tstM (cloV gm true)))).length c] 26, gth ft X c ((gm.rules.take i).filter (fun r => decide (r.1 ∈ cloV gm true) && r.2.all (tstM (cloV gm true))))])
    ⟨Nat.zero_le _, rfl, _, none, 0, A⟩ ?_
  clear A H5
  rintro i f w6 N hag ⟨hi, f24, ft, X, c, A⟩ hN
  have f1 : f 1 = ptrv b1 := hag 1 (by decide)
  have f2 : f 2 = ptrv b3 := hag 2 (by decide)
  have f3 : f 3 = .slice XM (cloV gm true).length cM := hag 3 (by decide)
  have f4 : f 4 = ptrv b4 := hag 4 (by decide)
  have f22 : f 22 = .slice Y gm.rules.length cy := hag 22 (by decide)
  have f23 : f 23 = .int .i64 gm.rules.length := hag 23 (by decide)
  simp only [f3, f22, f23, f24, bin_add, bin_sub, bin_mul, bin_eql, bin_neq, bin_lss, bin_leq, bin_gtr, bin_geq, un_not, un_neg, zq4, zq3, zq1, zq2, zq0, cond_true', cond_false', zq14, zq15, zq16, zq17, zq13, zq10, zq12, zq11, zq7, zq5, zq6, zq9, zq8, resK_nil, resK_tmp, ite_T, ite_F, upd_at, add_plain, add_zero', Nat.reduceEqDiff, fa8_0, fa8_1, fa8_2, fa8_3, fa14_0, fa14_1, fa19_0, len22, len24, fa26_0, fa26_1, fa26_2, len27, fa33_0, fa33_1, len35, fa77_0, fa77_1, fa88_0, fa88_1, fa88_2, fa88_3, fa88_4, fa88_5, fa114_0, fa114_1, fa114_2, fa124_0, fa124_1, len134, len136, len154, fa156_0, fa156_1, fa156_2, fa156_3, fa156_4, fa156_5, fa156_6, fa184_0, fa184_1, fa200_0, fa200_1, fa200_2, fa200_3, fa215_0, fa215_1, fa215_2, fa215_3, fa215_4, len218, len271, fa274_0, fa274_1, fa274_2, fa303_0, fa303_1, fa303_2, fa303_3, fa314_0, fa314_1, fa314_2, fa314_3, fa314_4, fa314_5, fa314_6, fa314_7, fa314_8, fa314_9, fa314_10]
  have H := H.step A.gr
  by_cases hlt : i < gm.rules.length
  case pos =>
    simp only [show ((i : Int) < (gm.rules.length : Int)) from by omega, decide_true, bin_add, bin_sub, bin_mul, bin_eql, bin_neq, bin_lss, bin_leq, bin_gtr, bin_geq, un_not, un_neg, zq4, zq3, zq1, zq2, zq0, cond_true', cond_false', zq14, zq15, zq16, zq17, zq13, zq10, zq12, zq11, zq7, zq5, zq6, zq9, zq8, resK_nil, resK_tmp, ite_T, ite_F, upd_at, add_plain, add_zero', Nat.reduceEqDiff, fa8_0, fa8_1, fa8_2, fa8_3, fa14_0, fa14_1, fa19_0, len22, len24, fa26_0, fa26_1, fa26_2, len27, fa33_0, fa33_1, len35, fa77_0, fa77_1, fa88_0, fa88_1, fa88_2, fa88_3, fa88_4, fa88_5, fa114_0, fa114_1, fa114_2, fa124_0, fa124_1, len134, len136, len154, fa156_0, fa156_1, fa156_2, fa156_3, fa156_4, fa156_5, fa156_6, fa184_0, fa184_1, fa200_0, fa200_1, fa200_2, fa200_3, fa215_0, fa215_1, fa215_2, fa215_3, fa215_4, len218, len271, fa274_0, fa274_1, fa274_2, fa303_0, fa303_1, fa303_2, fa303_3, fa314_0, fa314_1, fa314_2, fa314_3, fa314_4, fa314_5, fa314_6, fa314_7, fa314_8, fa314_9, fa314_10]
    have hrm : rul gm.rules i ∈ gm.rules := by rw [rul_eq hlt]; exact List.getElem_mem hlt
    have hfl := List.length_filter_le (fun r => decide (r.1 ∈ cloV gm true) && r.2.all (tstM (cloV gm true))) (gm.rules.take i)
    rw [List.length_take] at hfl
    have hsucc := filter_take_succ (p := fun r : RuleL => decide (r.1 ∈ cloV gm true) && r.2.all (tstM (cloV gm true))) hlt
    generalize hqs : (gm.rules.take i).filter (fun r => decide (r.1 ∈ cloV gm true) && r.2.all (tstM (cloV gm true))) = qs at *
    refine join_as (fun f w' => f 24 = .int .i64 (i : Int) ∧ ∃ ft X c, Apt w3 w' [bx b4 [.int .i64 gm.nons, .int .i64 gm.toks, .slice X ((gm.rules.take (i + 1)).filter (fun r => decide (r.1 ∈ cloV gm true) && r.2.all (tstM (cloV gm true)))).length c] 26, gth ft X c ((gm.rules.take (i + 1)).filter (fun r => decide (r.1 ∈ cloV gm true) && r.2.all (tstM (cloV gm true))))]) (fun K hK => ?_) ?_
    case refine_2 =>
      rintro f w' ⟨f24, h⟩
      simp only [f24, bin_add, bin_sub, bin_mul, bin_eql, bin_neq, bin_lss, bin_leq, bin_gtr, bin_geq, un_not, un_neg, zq4, zq3, zq1, zq2, zq0, cond_true', cond_false', zq14, zq15, zq16, zq17, zq13, zq10, zq12, zq11, zq7, zq5, zq6, zq9, zq8, resK_nil, resK_tmp, ite_T, ite_F, upd_at, add_plain, add_zero', Nat.reduceEqDiff, fa8_0, fa8_1, fa8_2, fa8_3, fa14_0, fa14_1, fa19_0, len22, len24, fa26_0, fa26_1, fa26_2, len27, fa33_0, fa33_1, len35, fa77_0, fa77_1, fa88_0, fa88_1, fa88_2, fa88_3, fa88_4, fa88_5, fa114_0, fa114_1, fa114_2, fa124_0, fa124_1, len134, len136, len154, fa156_0, fa156_1, fa156_2, fa156_3, fa156_4, fa156_5, fa156_6, fa184_0, fa184_1, fa200_0, fa200_1, fa200_2, fa200_3, fa215_0, fa215_1, fa215_2, fa215_3, fa215_4, len218, len271, fa274_0, fa274_1, fa274_2, fa303_0, fa303_1, fa303_2, fa303_3, fa314_0, fa314_1, fa314_2, fa314_3, fa314_4, fa314_5, fa314_6, fa314_7, fa314_8, fa314_9, fa314_10]
      rw [i64_of (by omega) (by omega)]
      exact hN _ _ hlt ⟨by omega, rfl, h⟩
    have hRF := (H.get 1 rfl).2
    refine rdi (ixn24 hRF.ptr hlt) ?_
    refine ld_rule agg33 sz33 hRF hlt fun v hv => ?_
    obtain ⟨Z, cz, rfl, hcz, hZ⟩ := hv
    have H := H.addI hZ.is hcz
    refine do_alloc_of inf33 fun b9 w7 g7 hb9 B9 => ?_
    refine do_store (n := 2) sz33 rfl (by intro u hu; simp [Value.cells] at hu; rcases hu with rfl | rfl <;> rfl) B9 (by simp [Value.cells]) fun w8 g8 _ B8 => ?_
    have g68 : Gr w6 w8 := gr_mod g7 g8 fun q hq => by
      obtain rfl := Option.some.inj hq
      exact hb9
    have B8 : Box w8 b9 [.int .i64 (rul gm.rules i).1, .slice Z (rul gm.rules i).2.length cz] 33 := B8
    have H := (H.step g68).addB B8
    simp only [List.cons_append, List.nil_append] at H
    have A := A.step g68
    simp only [bin_add, bin_sub, bin_mul, bin_eql, bin_neq, bin_lss, bin_leq, bin_gtr, bin_geq, un_not, un_neg, zq4, zq3, zq1, zq2, zq0, cond_true', cond_false', zq14, zq15, zq16, zq17, zq13, zq10, zq12, zq11, zq7, zq5, zq6, zq9, zq8, resK_nil, resK_tmp, ite_T, ite_F, upd_at, add_plain, add_zero', Nat.reduceEqDiff, fa8_0, fa8_1, fa8_2, fa8_3, fa14_0, fa14_1, fa19_0, len22, len24, fa26_0, fa26_1, fa26_2, len27, fa33_0, fa33_1, len35, fa77_0, fa77_1, fa88_0, fa88_1, fa88_2, fa88_3, fa88_4, fa88_5, fa114_0, fa114_1, fa114_2, fa124_0, fa124_1, len134, len136, len154, fa156_0, fa156_1, fa156_2, fa156_3, fa156_4, fa156_5, fa156_6, fa184_0, fa184_1, fa200_0, fa200_1, fa200_2, fa200_3, fa215_0, fa215_1, fa215_2, fa215_3, fa215_4, len218, len271, fa274_0, fa274_1, fa274_2, fa303_0, fa303_1, fa303_2, fa303_3, fa314_0, fa314_1, fa314_2, fa314_3, fa314_4, fa314_5, fa314_6, fa314_7, fa314_8, fa314_9, fa314_10]
    rw [ldB3 (H.get 6 rfl) rfl]
    refine l1Has_c (H.get 4 rfl).1 fun w9 g9 => ?_
    have H := H.step g9
    have A := A.step g9
    rw [ldB27 (H.get 6 rfl) rfl]
    simp only [bin_add, bin_sub, bin_mul, bin_eql, bin_neq, bin_lss, bin_leq, bin_gtr, bin_geq, un_not, un_neg, zq4, zq3, zq1, zq2, zq0, cond_true', cond_false', zq14, zq15, zq16, zq17, zq13, zq10, zq12, zq11, zq7, zq5, zq6, zq9, zq8, resK_nil, resK_tmp, ite_T, ite_F, upd_at, add_plain, add_zero', Nat.reduceEqDiff, fa8_0, fa8_1, fa8_2, fa8_3, fa14_0, fa14_1, fa19_0, len22, len24, fa26_0, fa26_1, fa26_2, len27, fa33_0, fa33_1, len35, fa77_0, fa77_1, fa88_0, fa88_1, fa88_2, fa88_3, fa88_4, fa88_5, fa114_0, fa114_1, fa114_2, fa124_0, fa124_1, len134, len136, len154, fa156_0, fa156_1, fa156_2, fa156_3, fa156_4, fa156_5, fa156_6, fa184_0, fa184_1, fa200_0, fa200_1, fa200_2, fa200_3, fa215_0, fa215_1, fa215_2, fa215_3, fa215_4, len218, len271, fa274_0, fa274_1, fa274_2, fa303_0, fa303_1, fa303_2, fa303_3, fa314_0, fa314_1, fa314_2, fa314_3, fa314_4, fa314_5, fa314_6, fa314_7, fa314_8, fa314_9, fa314_10]
    refine loop_to (rul gm.rules i).2.length 0 (fun j f w' => j ≤ (rul gm.rules i).2.length ∧ f 35 = .int .i64 (j : Int) ∧ f 7 = .bool (decide ((rul gm.rules i).1 ∈ cloV gm true) && ((rul gm.rules i).2.take j).all (tstM (cloV gm true))) ∧ Gr w9 w')
      ⟨Nat.zero_le _, rfl, by simp; rfl, Gr.refl _⟩ ?_
    rintro j r w10 N3 hag3 ⟨hj, r35, r7, g10⟩ hN3
    have r3 : r 3 = .slice XM (cloV gm true).length cM := (hag3 3 (by decide)).trans f3
    have r4 : r 4 = ptrv b4 := (hag3 4 (by decide)).trans f4
    have r6 : r 6 = ptrv b9 := hag3 6 (by decide)
    have r24 : r 24 = .int .i64 (i : Int) := (hag3 24 (by decide)).trans f24
    have r33 : r 33 = .slice Z (rul gm.rules i).2.length cz := hag3 33 (by decide)
    have r34 : r 34 = .int .i64 ((rul gm.rules i).2.length : Int) := hag3 34 (by decide)
    simp only [r3, r33, r34, r35, r7, bin_add, bin_sub, bin_mul, bin_eql, bin_neq, bin_lss, bin_leq, bin_gtr, bin_geq, un_not, un_neg, zq4, zq3, zq1, zq2, zq0, cond_true', cond_false', zq14, zq15, zq16, zq17, zq13, zq10, zq12, zq11, zq7, zq5, zq6, zq9, zq8, resK_nil, resK_tmp, ite_T, ite_F, upd_at, add_plain, add_zero', Nat.reduceEqDiff, fa8_0, fa8_1, fa8_2, fa8_3, fa14_0, fa14_1, fa19_0, len22, len24, fa26_0, fa26_1, fa26_2, len27, fa33_0, fa33_1, len35, fa77_0, fa77_1, fa88_0, fa88_1, fa88_2, fa88_3, fa88_4, fa88_5, fa114_0, fa114_1, fa114_2, fa124_0, fa124_1, len134, len136, len154, fa156_0, fa156_1, fa156_2, fa156_3, fa156_4, fa156_5, fa156_6, fa184_0, fa184_1, fa200_0, fa200_1, fa200_2, fa200_3, fa215_0, fa215_1, fa215_2, fa215_3, fa215_4, len218, len271, fa274_0, fa274_1, fa274_2, fa303_0, fa303_1, fa303_2, fa303_3, fa314_0, fa314_1, fa314_2, fa314_3, fa314_4, fa314_5, fa314_6, fa314_7, fa314_8, fa314_9, fa314_10]
    have H := H.step g10
    have A := A.step g10
    by_cases hlt2 : j < (rul gm.rules i).2.length
    case neg =>
      simp only [show ¬ ((j : Int) < ((rul gm.rules i).2.length : Int)) from by omega, decide_false, r4, r6, r7, bin_add, bin_sub, bin_mul, bin_eql, bin_neq, bin_lss, bin_leq, bin_gtr, bin_geq, un_not, un_neg, zq4, zq3, zq1, zq2, zq0, cond_true', cond_false', zq14, zq15, zq16, zq17, zq13, zq10, zq12, zq11, zq7, zq5, zq6, zq9, zq8, resK_nil, resK_tmp, ite_T, ite_F, upd_at, add_plain, add_zero', Nat.reduceEqDiff, fa8_0, fa8_1, fa8_2, fa8_3, fa14_0, fa14_1, fa19_0, len22, len24, fa26_0, fa26_1, fa26_2, len27, fa33_0, fa33_1, len35, fa77_0, fa77_1, fa88_0, fa88_1, fa88_2, fa88_3, fa88_4, fa88_5, fa114_0, fa114_1, fa114_2, fa124_0, fa124_1, len134, len136, len154, fa156_0, fa156_1, fa156_2, fa156_3, fa156_4, fa156_5, fa156_6, fa184_0, fa184_1, fa200_0, fa200_1, fa200_2, fa200_3, fa215_0, fa215_1, fa215_2, fa215_3, fa215_4, len218, len271, fa274_0, fa274_1, fa274_2, fa303_0, fa303_1, fa303_2, fa303_3, fa314_0, fa314_1, fa314_2, fa314_3, fa314_4, fa314_5, fa314_6, fa314_7, fa314_8, fa314_9, fa314_10]
      rw [List.take_of_length_le (by omega)]
      cases hp : (decide ((rul gm.rules i).1 ∈ cloV gm true) && (rul gm.rules i).2.all (tstM (cloV gm true)))
      · simp only [bin_add, bin_sub, bin_mul, bin_eql, bin_neq, bin_lss, bin_leq, bin_gtr, bin_geq, un_not, un_neg, zq4, zq3, zq1, zq2, zq0, cond_true', cond_false', zq14, zq15, zq16, zq17, zq13, zq10, zq12, zq11, zq7, zq5, zq6, zq9, zq8, resK_nil, resK_tmp, ite_T, ite_F, upd_at, add_plain, add_zero', Nat.reduceEqDiff, fa8_0, fa8_1, fa8_2, fa8_3, fa14_0, fa14_1, fa19_0, len22, len24, fa26_0, fa26_1, fa26_2, len27, fa33_0, fa33_1, len35, fa77_0, fa77_1, fa88_0, fa88_1, fa88_2, fa88_3, fa88_4, fa88_5, fa114_0, fa114_1, fa114_2, fa124_0, fa124_1, len134, len136, len154, fa156_0, fa156_1, fa156_2, fa156_3, fa156_4, fa156_5, fa156_6, fa184_0, fa184_1, fa200_0, fa200_1, fa200_2, fa200_3, fa215_0, fa215_1, fa215_2, fa215_3, fa215_4, len218, len271, fa274_0, fa274_1, fa274_2, fa303_0, fa303_1, fa303_2, fa303_3, fa314_0, fa314_1, fa314_2, fa314_3, fa314_4, fa314_5, fa314_6, fa314_7, fa314_8, fa314_9, fa314_10]
        rw [hp, if_neg Bool.false_ne_true, List.append_nil] at hsucc
        refine hK _ _ ⟨r24, ft, X, c, ?_⟩
        rw [hsucc]
        exact A
      · simp only [bin_add, bin_sub, bin_mul, bin_eql, bin_neq, bin_lss, bin_leq, bin_gtr, bin_geq, un_not, un_neg, zq4, zq3, zq1, zq2, zq0, cond_true', cond_false', zq14, zq15, zq16, zq17, zq13, zq10, zq12, zq11, zq7, zq5, zq6, zq9, zq8, resK_nil, resK_tmp, ite_T, ite_F, upd_at, add_plain, add_zero', Nat.reduceEqDiff, fa8_0, fa8_1, fa8_2, fa8_3, fa14_0, fa14_1, fa19_0, len22, len24, fa26_0, fa26_1, fa26_2, len27, fa33_0, fa33_1, len35, fa77_0, fa77_1, fa88_0, fa88_1, fa88_2, fa88_3, fa88_4, fa88_5, fa114_0, fa114_1, fa114_2, fa124_0, fa124_1, len134, len136, len154, fa156_0, fa156_1, fa156_2, fa156_3, fa156_4, fa156_5, fa156_6, fa184_0, fa184_1, fa200_0, fa200_1, fa200_2, fa200_3, fa215_0, fa215_1, fa215_2, fa215_3, fa215_4, len218, len271, fa274_0, fa274_1, fa274_2, fa303_0, fa303_1, fa303_2, fa303_3, fa314_0, fa314_1, fa314_2, fa314_3, fa314_4, fa314_5, fa314_6, fa314_7, fa314_8, fa314_9, fa314_10]
        rw [hp, if_pos rfl] at hsucc
        have H := H.drew
        have A := A.drew
        refine ⟨fun w' => Gr w10.drew w', Gr.refl _, ?_⟩
        refine rdi (rdG one24 (A.box 0 rfl) rfl) ?_
        refine rdi (rdG one3 (H.get 6 rfl) rfl) ?_
        refine rdi (rdG one27 (H.get 6 rfl) rfl) ?_
        have hr4 := (hgr _ hrm).2.1
        refine l1Own_c (H.get 5 rfl).1 rfl (by omega) fun X1 d1 w11 g11 o1 => ?_
        have H := H.step g11
        have A := A.addOwn g11 o1
        simp only [List.cons_append, List.nil_append] at A
        refine ⟨g11, ?_⟩
        rw [bd33 (cells := #[.int .i64 (rul gm.rules i).1, .slice X1 (rul gm.rules i).2.length d1]) rfl]
        refine do_build_of u24 inf33 (cells := [.int .i64 (rul gm.rules i).1, .slice X1 (rul gm.rules i).2.length d1]) (by decide) (by decide) (by simp [Instr.fill, madeCells, Value.cells, rng1, rng2]) rfl fun b5 w12 hb5 hb6 g12 _ r5 => ?_
        refine ⟨gr_trans g11 g12, ?_⟩
        have A := A.step g12
        refine appG A 1 2 (by decide) rfl rfl (by omega) (Row.src (r5 _ (Nat.le_refl _))) fun w13 ft' X' c' A => ?_
        simp only [List.set_cons_zero, List.set_cons_succ] at A
        refine storeH A 0 rfl sz24 rfl rfl rfl fun w14 A => ?_
        simp only [List.set_cons_zero, List.set_cons_succ, List.take_succ_cons, List.take_zero, List.drop_succ_cons, List.drop_zero, List.nil_append, List.cons_append, Value.cells] at A
        have A := A.erase 2
        simp only [List.eraseIdx_cons_zero, List.eraseIdx_cons_succ] at A
        refine hK _ _ ⟨r24, ft', X', c', ?_⟩
        rw [hsucc]
        exact A
    simp only [show ((j : Int) < ((rul gm.rules i).2.length : Int)) from by omega, decide_true, bin_add, bin_sub, bin_mul, bin_eql, bin_neq, bin_lss, bin_leq, bin_gtr, bin_geq, un_not, un_neg, zq4, zq3, zq1, zq2, zq0, cond_true', cond_false', zq14, zq15, zq16, zq17, zq13, zq10, zq12, zq11, zq7, zq5, zq6, zq9, zq8, resK_nil, resK_tmp, ite_T, ite_F, upd_at, add_plain, add_zero', Nat.reduceEqDiff, fa8_0, fa8_1, fa8_2, fa8_3, fa14_0, fa14_1, fa19_0, len22, len24, fa26_0, fa26_1, fa26_2, len27, fa33_0, fa33_1, len35, fa77_0, fa77_1, fa88_0, fa88_1, fa88_2, fa88_3, fa88_4, fa88_5, fa114_0, fa114_1, fa114_2, fa124_0, fa124_1, len134, len136, len154, fa156_0, fa156_1, fa156_2, fa156_3, fa156_4, fa156_5, fa156_6, fa184_0, fa184_1, fa200_0, fa200_1, fa200_2, fa200_3, fa215_0, fa215_1, fa215_2, fa215_3, fa215_4, len218, len271, fa274_0, fa274_1, fa274_2, fa303_0, fa303_1, fa303_2, fa303_3, fa314_0, fa314_1, fa314_2, fa314_3, fa314_4, fa314_5, fa314_6, fa314_7, fa314_8, fa314_9, fa314_10]
    have hZ' := (H.get 5 rfl).1
    refine rdi (ixn27 hZ'.ptr hlt2) (rdi (ld3 (hZ'.cell j hlt2)) ?_)
    have hall := all_take_succ (p := tstM (cloV gm true)) hlt2
    have hle27 := hZ'.le
    generalize hx : (rul gm.rules i).2.getD j 0 = x at *
    have step : ∀ (bb : Bool) (w' : World) (f' : F), Gr w10 w' → f' 35 = .int .i64 ((j : Int) + 1) → f' 7 = .bool bb → bb = (decide ((rul gm.rules i).1 ∈ cloV gm true) && ((rul gm.rules i).2.take (j + 1)).all (tstM (cloV gm true))) → N3 f' w' := fun bb w' f' g' e1 e2 e3 => by
      refine hN3 f' w' hlt2 ⟨by omega, by rw [e1]; rfl, by rw [e2, e3], gr_trans g10 g'⟩
    cases hacc : (decide ((rul gm.rules i).1 ∈ cloV gm true) && ((rul gm.rules i).2.take j).all (tstM (cloV gm true)))
    · simp only [bin_add, bin_sub, bin_mul, bin_eql, bin_neq, bin_lss, bin_leq, bin_gtr, bin_geq, un_not, un_neg, zq4, zq3, zq1, zq2, zq0, cond_true', cond_false', zq14, zq15, zq16, zq17, zq13, zq10, zq12, zq11, zq7, zq5, zq6, zq9, zq8, resK_nil, resK_tmp, ite_T, ite_F, upd_at, add_plain, add_zero', Nat.reduceEqDiff, fa8_0, fa8_1, fa8_2, fa8_3, fa14_0, fa14_1, fa19_0, len22, len24, fa26_0, fa26_1, fa26_2, len27, fa33_0, fa33_1, len35, fa77_0, fa77_1, fa88_0, fa88_1, fa88_2, fa88_3, fa88_4, fa88_5, fa114_0, fa114_1, fa114_2, fa124_0, fa124_1, len134, len136, len154, fa156_0, fa156_1, fa156_2, fa156_3, fa156_4, fa156_5, fa156_6, fa184_0, fa184_1, fa200_0, fa200_1, fa200_2, fa200_3, fa215_0, fa215_1, fa215_2, fa215_3, fa215_4, len218, len271, fa274_0, fa274_1, fa274_2, fa303_0, fa303_1, fa303_2, fa303_3, fa314_0, fa314_1, fa314_2, fa314_3, fa314_4, fa314_5, fa314_6, fa314_7, fa314_8, fa314_9, fa314_10]
      rw [i64_of (by omega) (by omega)]
      refine step false _ _ (Gr.refl _) rfl rfl ?_
      rw [hall, ← Bool.and_assoc, hacc, Bool.false_and]
    · simp only [bin_add, bin_sub, bin_mul, bin_eql, bin_neq, bin_lss, bin_leq, bin_gtr, bin_geq, un_not, un_neg, zq4, zq3, zq1, zq2, zq0, cond_true', cond_false', zq14, zq15, zq16, zq17, zq13, zq10, zq12, zq11, zq7, zq5, zq6, zq9, zq8, resK_nil, resK_tmp, ite_T, ite_F, upd_at, add_plain, add_zero', Nat.reduceEqDiff, fa8_0, fa8_1, fa8_2, fa8_3, fa14_0, fa14_1, fa19_0, len22, len24, fa26_0, fa26_1, fa26_2, len27, fa33_0, fa33_1, len35, fa77_0, fa77_1, fa88_0, fa88_1, fa88_2, fa88_3, fa88_4, fa88_5, fa114_0, fa114_1, fa114_2, fa124_0, fa124_1, len134, len136, len154, fa156_0, fa156_1, fa156_2, fa156_3, fa156_4, fa156_5, fa156_6, fa184_0, fa184_1, fa200_0, fa200_1, fa200_2, fa200_3, fa215_0, fa215_1, fa215_2, fa215_3, fa215_4, len218, len271, fa274_0, fa274_1, fa274_2, fa303_0, fa303_1, fa303_2, fa303_3, fa314_0, fa314_1, fa314_2, fa314_3, fa314_4, fa314_5, fa314_6, fa314_7, fa314_8, fa314_9, fa314_10]
      by_cases hx0 : x < 0
      · simp only [hx0, decide_true, bin_add, bin_sub, bin_mul, bin_eql, bin_neq, bin_lss, bin_leq, bin_gtr, bin_geq, un_not, un_neg, zq4, zq3, zq1, zq2, zq0, cond_true', cond_false', zq14, zq15, zq16, zq17, zq13, zq10, zq12, zq11, zq7, zq5, zq6, zq9, zq8, resK_nil, resK_tmp, ite_T, ite_F, upd_at, add_plain, add_zero', Nat.reduceEqDiff, fa8_0, fa8_1, fa8_2, fa8_3, fa14_0, fa14_1, fa19_0, len22, len24, fa26_0, fa26_1, fa26_2, len27, fa33_0, fa33_1, len35, fa77_0, fa77_1, fa88_0, fa88_1, fa88_2, fa88_3, fa88_4, fa88_5, fa114_0, fa114_1, fa114_2, fa124_0, fa124_1, len134, len136, len154, fa156_0, fa156_1, fa156_2, fa156_3, fa156_4, fa156_5, fa156_6, fa184_0, fa184_1, fa200_0, fa200_1, fa200_2, fa200_3, fa215_0, fa215_1, fa215_2, fa215_3, fa215_4, len218, len271, fa274_0, fa274_1, fa274_2, fa303_0, fa303_1, fa303_2, fa303_3, fa314_0, fa314_1, fa314_2, fa314_3, fa314_4, fa314_5, fa314_6, fa314_7, fa314_8, fa314_9, fa314_10]
        rw [i64_of (by omega) (by omega)]
        refine step true _ _ (Gr.refl _) rfl rfl ?_
        rw [hall, ← Bool.and_assoc, hacc]
        simp [tstM, hx0]
      · simp only [hx0, decide_false, bin_add, bin_sub, bin_mul, bin_eql, bin_neq, bin_lss, bin_leq, bin_gtr, bin_geq, un_not, un_neg, zq4, zq3, zq1, zq2, zq0, cond_true', cond_false', zq14, zq15, zq16, zq17, zq13, zq10, zq12, zq11, zq7, zq5, zq6, zq9, zq8, resK_nil, resK_tmp, ite_T, ite_F, upd_at, add_plain, add_zero', Nat.reduceEqDiff, fa8_0, fa8_1, fa8_2, fa8_3, fa14_0, fa14_1, fa19_0, len22, len24, fa26_0, fa26_1, fa26_2, len27, fa33_0, fa33_1, len35, fa77_0, fa77_1, fa88_0, fa88_1, fa88_2, fa88_3, fa88_4, fa88_5, fa114_0, fa114_1, fa114_2, fa124_0, fa124_1, len134, len136, len154, fa156_0, fa156_1, fa156_2, fa156_3, fa156_4, fa156_5, fa156_6, fa184_0, fa184_1, fa200_0, fa200_1, fa200_2, fa200_3, fa215_0, fa215_1, fa215_2, fa215_3, fa215_4, len218, len271, fa274_0, fa274_1, fa274_2, fa303_0, fa303_1, fa303_2, fa303_3, fa314_0, fa314_1, fa314_2, fa314_3, fa314_4, fa314_5, fa314_6, fa314_7, fa314_8, fa314_9, fa314_10]
        refine l1Has_c (H.get 4 rfl).1 fun w11 g11 => ?_
        rw [i64_of (by omega) (by omega)]
        refine step (decide (x ∈ cloV gm true)) _ _ g11 rfl rfl ?_
        rw [hall, ← Bool.and_assoc, hacc]
        simp [tstM, hx0]
  -- and are reached
  simp only [show ¬ ((i : Int) < (gm.rules.length : Int)) from by omega, decide_false, f1, f2, f4, bin_add, bin_sub, bin_mul, bin_eql, bin_neq, bin_lss, bin_leq, bin_gtr, bin_geq, un_not, un_neg, zq4, zq3, zq1, zq2, zq0, cond_true', cond_false', zq14, zq15, zq16, zq17, zq13, zq10, zq12, zq11, zq7, zq5, zq6, zq9, zq8, resK_nil, resK_tmp, ite_T, ite_F, upd_at, add_plain, add_zero', Nat.reduceEqDiff, fa8_0, fa8_1, fa8_2, fa8_3, fa14_0, fa14_1, fa19_0, len22, len24, fa26_0, fa26_1, fa26_2, len27, fa33_0, fa33_1, len35, fa77_0, fa77_1, fa88_0, fa88_1, fa88_2, fa88_3, fa88_4, fa88_5, fa114_0, fa114_1, fa114_2, fa124_0, fa124_1, len134, len136, len154, fa156_0, fa156_1, fa156_2, fa156_3, fa156_4, fa156_5, fa156_6, fa184_0, fa184_1, fa200_0, fa200_1, fa200_2, fa200_3, fa215_0, fa215_1, fa215_2, fa215_3, fa215_4, len218, len271, fa274_0, fa274_1, fa274_2, fa303_0, fa303_1, fa303_2, fa303_3, fa314_0, fa314_1, fa314_2, fa314_3, fa314_4, fa314_5, fa314_6, fa314_7, fa314_8, fa314_9, fa314_10]
  have hmade : (gm.rules.take i).filter (fun r => decide (r.1 ∈ cloV gm true) && r.2.all (tstM (cloV gm true))) = madeR gm.rules := by
    rw [List.take_of_length_le (by omega), ← madeR_eq hg gm.rules fun r hr => hr]
    rfl
  rw [hmade] at A
  have hsub : ∀ r ∈ madeR gm.rules, r ∈ gm.rules := fun r hr => (madeR_mem.1 hr).1
  have hml : (madeR gm.rules).length ≤ 16 := Nat.le_trans (List.length_filter_le _ _) hlen
  generalize hms : madeR gm.rules = ms at *
  have hmG := gowK (A.gow 1 rfl)
  have hmF := (A.gow 1 rfl).readF
  have hfoot : ∀ q, (blk X = some q ∨ ft q) → w3.heap.size ≤ q ∧ q < w6.heap.size := fun q hq => ⟨(A.ok 1 _ rfl).lo q hq, (A.ok 1 _ rfl).hi q hq⟩
  rw [ldB_agg agg26 sz26 rfl (A.box 0 rfl)]
  refine l3Reached_c (gm := ⟨gm.nons, gm.toks, ms⟩) hmG (by omega) (fun r hr x hx => ((hgr r (hsub r hr)).2.2 x hx).2) (fun r hr => (hgr r (hsub r hr)).1.1) (fun r hr => by have := (hgr r (hsub r hr)).2.1; dsimp only at *; omega) fun w7 XR cR gR hR => ?_
  have H := H.step gR
  have hmF := hmF.gr gR
  rw [ldB3 (H.get 2 rfl) rfl, ldB3 (H.get 2 rfl) rfl, bd26 (cells := #[.int .i64 gm.nons, .int .i64 gm.toks, .slice none 0 0]) rfl]
  have A4 := (A.box 0 rfl).gr gR
  have G := Apt.nil w7
  refine allocH G inf26 fun b92 w8 G => ?_
  refine storeH G 0 rfl sz26 rfl rfl rfl fun w9 G => ?_
  simp only [List.nil_append, List.set_cons_zero] at G
  have G := G.addNil 33 2
  simp only [List.cons_append, List.nil_append] at G
  rw [ldB24 (A4.gr G.gr) rfl]
  simp only [bin_add, bin_sub, bin_mul, bin_eql, bin_neq, bin_lss, bin_leq, bin_gtr, bin_geq, un_not, un_neg, zq4, zq3, zq1, zq2, zq0, cond_true', cond_false', zq14, zq15, zq16, zq17, zq13, zq10, zq12, zq11, zq7, zq5, zq6, zq9, zq8, resK_nil, resK_tmp, ite_T, ite_F, upd_at, add_plain, add_zero', Nat.reduceEqDiff, fa8_0, fa8_1, fa8_2, fa8_3, fa14_0, fa14_1, fa19_0, len22, len24, fa26_0, fa26_1, fa26_2, len27, fa33_0, fa33_1, len35, fa77_0, fa77_1, fa88_0, fa88_1, fa88_2, fa88_3, fa88_4, fa88_5, fa114_0, fa114_1, fa114_2, fa124_0, fa124_1, len134, len136, len154, fa156_0, fa156_1, fa156_2, fa156_3, fa156_4, fa156_5, fa156_6, fa184_0, fa184_1, fa200_0, fa200_1, fa200_2, fa200_3, fa215_0, fa215_1, fa215_2, fa215_3, fa215_4, len218, len271, fa274_0, fa274_1, fa274_2, fa303_0, fa303_1, fa303_2, fa303_3, fa314_0, fa314_1, fa314_2, fa314_3, fa314_4, fa314_5, fa314_6, fa314_7, fa314_8, fa314_9, fa314_10]
  have hR2 := hR.1
  refine loop_to ms.length 0 (fun i f w' => i ≤ ms.length ∧ f 73 = .int .i64 (i : Int) ∧ ∃ X2 c2 cells, RuleCells (fun q => blk X = some q ∨ ft q) w7 ((ms.take i).filter (fun r => decide (r.1 ∈ rchV ⟨gm.nons, gm.toks, ms⟩))) cells ∧ Apt w7 w' [bx b92 [.int .i64 gm.nons, .int .i64 gm.toks, .slice X2 ((ms.take i).filter (fun r => decide (r.1 ∈ rchV ⟨gm.nons, gm.toks, ms⟩))).length c2] 26, rwi 33 2 X2 ((ms.take i).filter (fun r => decide (r.1 ∈ rchV ⟨gm.nons, gm.toks, ms⟩))).length c2 cells])
    ⟨Nat.zero_le _, rfl, none, 0, [], .nil, G⟩ ?_
  clear G
  rintro l q w10 N2 hag2 ⟨hl, q73, X2, c2, cells, hcells, G⟩ hN2
  have q2 : q 2 = ptrv b3 := (hag2 2 (by decide)).trans f2
  have q10 : q 10 = .slice XR (rchV ⟨gm.nons, gm.toks, ms⟩).length cR := hag2 10 (by decide)
  have q11 : q 11 = ptrv b92 := hag2 11 (by decide)
  have q71 : q 71 = .slice X ms.length c := hag2 71 (by decide)
  have q72 : q 72 = .int .i64 ms.length := hag2 72 (by decide)
  simp only [q71, q72, q73, bin_add, bin_sub, bin_mul, bin_eql, bin_neq, bin_lss, bin_leq, bin_gtr, bin_geq, un_not, un_neg, zq4, zq3, zq1, zq2, zq0, cond_true', cond_false', zq14, zq15, zq16, zq17, zq13, zq10, zq12, zq11, zq7, zq5, zq6, zq9, zq8, resK_nil, resK_tmp, ite_T, ite_F, upd_at, add_plain, add_zero', Nat.reduceEqDiff, fa8_0, fa8_1, fa8_2, fa8_3, fa14_0, fa14_1, fa19_0, len22, len24, fa26_0, fa26_1, fa26_2, len27, fa33_0, fa33_1, len35, fa77_0, fa77_1, fa88_0, fa88_1, fa88_2, fa88_3, fa88_4, fa88_5, fa114_0, fa114_1, fa114_2, fa124_0, fa124_1, len134, len136, len154, fa156_0, fa156_1, fa156_2, fa156_3, fa156_4, fa156_5, fa156_6, fa184_0, fa184_1, fa200_0, fa200_1, fa200_2, fa200_3, fa215_0, fa215_1, fa215_2, fa215_3, fa215_4, len218, len271, fa274_0, fa274_1, fa274_2, fa303_0, fa303_1, fa303_2, fa303_3, fa314_0, fa314_1, fa314_2, fa314_3, fa314_4, fa314_5, fa314_6, fa314_7, fa314_8, fa314_9, fa314_10]
  by_cases hlt2 : l < ms.length
  case neg =>
    simp only [show ¬ ((l : Int) < (ms.length : Int)) from by omega, decide_false, q2, q11, bin_add, bin_sub, bin_mul, bin_eql, bin_neq, bin_lss, bin_leq, bin_gtr, bin_geq, un_not, un_neg, zq4, zq3, zq1, zq2, zq0, cond_true', cond_false', zq14, zq15, zq16, zq17, zq13, zq10, zq12, zq11, zq7, zq5, zq6, zq9, zq8, resK_nil, resK_tmp, ite_T, ite_F, upd_at, add_plain, add_zero', Nat.reduceEqDiff, fa8_0, fa8_1, fa8_2, fa8_3, fa14_0, fa14_1, fa19_0, len22, len24, fa26_0, fa26_1, fa26_2, len27, fa33_0, fa33_1, len35, fa77_0, fa77_1, fa88_0, fa88_1, fa88_2, fa88_3, fa88_4, fa88_5, fa114_0, fa114_1, fa114_2, fa124_0, fa124_1, len134, len136, len154, fa156_0, fa156_1, fa156_2, fa156_3, fa156_4, fa156_5, fa156_6, fa184_0, fa184_1, fa200_0, fa200_1, fa200_2, fa200_3, fa215_0, fa215_1, fa215_2, fa215_3, fa215_4, len218, len271, fa274_0, fa274_1, fa274_2, fa303_0, fa303_1, fa303_2, fa303_3, fa314_0, fa314_1, fa314_2, fa314_3, fa314_4, fa314_5, fa314_6, fa314_7, fa314_8, fa314_9, fa314_10]
    have hu : (ms.take l).filter (fun r => decide (r.1 ∈ rchV ⟨gm.nons, gm.toks, ms⟩)) = usefulR gm.rules := by
      rw [List.take_of_length_le (by omega), ← rchR_eq hg ms ms hsub]
      unfold usefulR
      rw [hms]
      rfl
    rw [hu] at hcells G
    rw [ldB_agg agg26 sz26 rfl (G.box 0 rfl)]
    have H := H.step G.gr
    have hrow := G.row 1 rfl
    have hfin : RulesF (fun q => blk X2 = some q ∨ (blk X = some q ∨ ft q)) w10 X2 (usefulR gm.rules) := hrow.readF (hcells.gr G.gr)
    have hb3' : b3 < w3.heap.size := (H.get 3 rfl |> fun _ => (Box.lt (B3.gr gM)))
    have hfoot2 : ∀ q, (blk X2 = some q ∨ (blk X = some q ∨ ft q)) → w3.heap.size ≤ q ∧ q < w10.heap.size := fun q hq => by
      rcases hq with hq | hq
      · have := hrow.ge hq
        have := A.gr.size
        have := gR.size
        omega
      · have := hfoot q hq
        have := gR.size
        have := G.gr.size
        omega
    refine do_store (n := 3) sz26 rfl (by intro u hu; simp [Value.cells] at hu; rcases hu with rfl | rfl | rfl <;> rfl) (H.get 3 rfl) (by simp [Value.cells]) fun w11 g11 _ B11 => ?_
    have B11 : Box w11 b3 [.int .i64 gm.nons, .int .i64 gm.toks, .slice X2 (usefulR gm.rules).length c2] 26 := B11
    rw [rd_loadVar, ldB_agg agg26 sz26 rfl B11]
    have hgx : Gx (fun q => q = b3) w10 w11 := gx_of g11 fun q hq => (Option.some.inj hq).symm
    have hw3 : w.heap.size ≤ w3.heap.size := by
      have := g1.size
      have := g2.size
      have := gM.size
      omega
    refine hk w11 X2 c2 (gr_put (H.get 0 rfl) g11 (by have := g1.size; omega)) hrow.cap.1 ((hfin.gx hgx fun q hq e => by have := hfoot2 q hq; omega).mono fun q hq => ?_)
    have := hfoot2 q hq
    have := g11.size
    omega
  simp only [show ((l : Int) < (ms.length : Int)) from by omega, decide_true, bin_add, bin_sub, bin_mul, bin_eql, bin_neq, bin_lss, bin_leq, bin_gtr, bin_geq, un_not, un_neg, zq4, zq3, zq1, zq2, zq0, cond_true', cond_false', zq14, zq15, zq16, zq17, zq13, zq10, zq12, zq11, zq7, zq5, zq6, zq9, zq8, resK_nil, resK_tmp, ite_T, ite_F, upd_at, add_plain, add_zero', Nat.reduceEqDiff, fa8_0, fa8_1, fa8_2, fa8_3, fa14_0, fa14_1, fa19_0, len22, len24, fa26_0, fa26_1, fa26_2, len27, fa33_0, fa33_1, len35, fa77_0, fa77_1, fa88_0, fa88_1, fa88_2, fa88_3, fa88_4, fa88_5, fa114_0, fa114_1, fa114_2, fa124_0, fa124_1, len134, len136, len154, fa156_0, fa156_1, fa156_2, fa156_3, fa156_4, fa156_5, fa156_6, fa184_0, fa184_1, fa200_0, fa200_1, fa200_2, fa200_3, fa215_0, fa215_1, fa215_2, fa215_3, fa215_4, len218, len271, fa274_0, fa274_1, fa274_2, fa303_0, fa303_1, fa303_2, fa303_3, fa314_0, fa314_1, fa314_2, fa314_3, fa314_4, fa314_5, fa314_6, fa314_7, fa314_8, fa314_9, fa314_10]
  have hfl := List.length_filter_le (fun r => decide (r.1 ∈ rchV ⟨gm.nons, gm.toks, ms⟩)) (ms.take l)
  rw [List.length_take] at hfl
  have hsucc := filter_take_succ (p := fun r : RuleL => decide (r.1 ∈ rchV ⟨gm.nons, gm.toks, ms⟩)) hlt2
  generalize hqs : (ms.take l).filter (fun r => decide (r.1 ∈ rchV ⟨gm.nons, gm.toks, ms⟩)) = qs at *
  refine join_as (fun f w' => f 73 = .int .i64 (l : Int) ∧ ∃ X2 c2 cells, RuleCells (fun q => blk X = some q ∨ ft q) w7 ((ms.take (l + 1)).filter (fun r => decide (r.1 ∈ rchV ⟨gm.nons, gm.toks, ms⟩))) cells ∧ Apt w7 w' [bx b92 [.int .i64 gm.nons, .int .i64 gm.toks, .slice X2 ((ms.take (l + 1)).filter (fun r => decide (r.1 ∈ rchV ⟨gm.nons, gm.toks, ms⟩))).length c2] 26, rwi 33 2 X2 ((ms.take (l + 1)).filter (fun r => decide (r.1 ∈ rchV ⟨gm.nons, gm.toks, ms⟩))).length c2 cells]) (fun K hK => ?_) ?_
  case refine_2 =>
    rintro f w' ⟨f73, h⟩
    simp only [f73, bin_add, bin_sub, bin_mul, bin_eql, bin_neq, bin_lss, bin_leq, bin_gtr, bin_geq, un_not, un_neg, zq4, zq3, zq1, zq2, zq0, cond_true', cond_false', zq14, zq15, zq16, zq17, zq13, zq10, zq12, zq11, zq7, zq5, zq6, zq9, zq8, resK_nil, resK_tmp, ite_T, ite_F, upd_at, add_plain, add_zero', Nat.reduceEqDiff, fa8_0, fa8_1, fa8_2, fa8_3, fa14_0, fa14_1, fa19_0, len22, len24, fa26_0, fa26_1, fa26_2, len27, fa33_0, fa33_1, len35, fa77_0, fa77_1, fa88_0, fa88_1, fa88_2, fa88_3, fa88_4, fa88_5, fa114_0, fa114_1, fa114_2, fa124_0, fa124_1, len134, len136, len154, fa156_0, fa156_1, fa156_2, fa156_3, fa156_4, fa156_5, fa156_6, fa184_0, fa184_1, fa200_0, fa200_1, fa200_2, fa200_3, fa215_0, fa215_1, fa215_2, fa215_3, fa215_4, len218, len271, fa274_0, fa274_1, fa274_2, fa303_0, fa303_1, fa303_2, fa303_3, fa314_0, fa314_1, fa314_2, fa314_3, fa314_4, fa314_5, fa314_6, fa314_7, fa314_8, fa314_9, fa314_10]
    rw [i64_of (by omega) (by omega)]
    exact hN2 _ _ hlt2 ⟨by omega, rfl, h⟩
  obtain ⟨Z, cz, z1, z2, z3, z4⟩ := hmF.row l hlt2
  refine rdi (ixn24 hmF.ptr hlt2) ?_
  rw [ld_agg agg33 sz33 (cs := [.int .i64 (rul ms l).1, .slice Z (rul ms l).2.length cz]) rfl (fun j hj => by
    match j, hj with
    | 0, _ => rw [add_add, Nat.add_zero]; exact G.gr.cell z1
    | 1, _ => rw [add_add]; exact G.gr.cell z2)]
  refine do_alloc_of inf33 fun b9 w11 g11 hb9 B9 => ?_
  refine do_store (n := 2) sz33 rfl (by intro u hu; simp [Value.cells] at hu; rcases hu with rfl | rfl <;> rfl) B9 (by simp [Value.cells]) fun w12 g12 _ B12 => ?_
  have g1012 : Gr w10 w12 := gr_mod g11 g12 fun q hq => by
    obtain rfl := Option.some.inj hq
    exact hb9
  have B12 : Box w12 b9 [.int .i64 (rul ms l).1, .slice Z (rul ms l).2.length cz] 33 := B12
  have G := G.step g1012
  simp only [q10, bin_add, bin_sub, bin_mul, bin_eql, bin_neq, bin_lss, bin_leq, bin_gtr, bin_geq, un_not, un_neg, zq4, zq3, zq1, zq2, zq0, cond_true', cond_false', zq14, zq15, zq16, zq17, zq13, zq10, zq12, zq11, zq7, zq5, zq6, zq9, zq8, resK_nil, resK_tmp, ite_T, ite_F, upd_at, add_plain, add_zero', Nat.reduceEqDiff, fa8_0, fa8_1, fa8_2, fa8_3, fa14_0, fa14_1, fa19_0, len22, len24, fa26_0, fa26_1, fa26_2, len27, fa33_0, fa33_1, len35, fa77_0, fa77_1, fa88_0, fa88_1, fa88_2, fa88_3, fa88_4, fa88_5, fa114_0, fa114_1, fa114_2, fa124_0, fa124_1, len134, len136, len154, fa156_0, fa156_1, fa156_2, fa156_3, fa156_4, fa156_5, fa156_6, fa184_0, fa184_1, fa200_0, fa200_1, fa200_2, fa200_3, fa215_0, fa215_1, fa215_2, fa215_3, fa215_4, len218, len271, fa274_0, fa274_1, fa274_2, fa303_0, fa303_1, fa303_2, fa303_3, fa314_0, fa314_1, fa314_2, fa314_3, fa314_4, fa314_5, fa314_6, fa314_7, fa314_8, fa314_9, fa314_10]
  rw [ldB3 B12 rfl]
  refine l1Has_c (hR2.gr G.gr) fun w13 g13 => ?_
  have G := G.step g13
  by_cases hin : (rul ms l).1 ∈ rchV ⟨gm.nons, gm.toks, ms⟩
  case neg =>
    simp only [hin, decide_false, bin_add, bin_sub, bin_mul, bin_eql, bin_neq, bin_lss, bin_leq, bin_gtr, bin_geq, un_not, un_neg, zq4, zq3, zq1, zq2, zq0, cond_true', cond_false', zq14, zq15, zq16, zq17, zq13, zq10, zq12, zq11, zq7, zq5, zq6, zq9, zq8, resK_nil, resK_tmp, ite_T, ite_F, upd_at, add_plain, add_zero', Nat.reduceEqDiff, fa8_0, fa8_1, fa8_2, fa8_3, fa14_0, fa14_1, fa19_0, len22, len24, fa26_0, fa26_1, fa26_2, len27, fa33_0, fa33_1, len35, fa77_0, fa77_1, fa88_0, fa88_1, fa88_2, fa88_3, fa88_4, fa88_5, fa114_0, fa114_1, fa114_2, fa124_0, fa124_1, len134, len136, len154, fa156_0, fa156_1, fa156_2, fa156_3, fa156_4, fa156_5, fa156_6, fa184_0, fa184_1, fa200_0, fa200_1, fa200_2, fa200_3, fa215_0, fa215_1, fa215_2, fa215_3, fa215_4, len218, len271, fa274_0, fa274_1, fa274_2, fa303_0, fa303_1, fa303_2, fa303_3, fa314_0, fa314_1, fa314_2, fa314_3, fa314_4, fa314_5, fa314_6, fa314_7, fa314_8, fa314_9, fa314_10]
    rw [decide_eq_false hin, if_neg Bool.false_ne_true, List.append_nil] at hsucc
    refine hK _ _ ⟨q73, X2, c2, cells, ?_, ?_⟩
    · rw [hsucc]
      exact hcells
    · rw [hsucc]
      exact G
  simp only [hin, decide_true, q11, bin_add, bin_sub, bin_mul, bin_eql, bin_neq, bin_lss, bin_leq, bin_gtr, bin_geq, un_not, un_neg, zq4, zq3, zq1, zq2, zq0, cond_true', cond_false', zq14, zq15, zq16, zq17, zq13, zq10, zq12, zq11, zq7, zq5, zq6, zq9, zq8, resK_nil, resK_tmp, ite_T, ite_F, upd_at, add_plain, add_zero', Nat.reduceEqDiff, fa8_0, fa8_1, fa8_2, fa8_3, fa14_0, fa14_1, fa19_0, len22, len24, fa26_0, fa26_1, fa26_2, len27, fa33_0, fa33_1, len35, fa77_0, fa77_1, fa88_0, fa88_1, fa88_2, fa88_3, fa88_4, fa88_5, fa114_0, fa114_1, fa114_2, fa124_0, fa124_1, len134, len136, len154, fa156_0, fa156_1, fa156_2, fa156_3, fa156_4, fa156_5, fa156_6, fa184_0, fa184_1, fa200_0, fa200_1, fa200_2, fa200_3, fa215_0, fa215_1, fa215_2, fa215_3, fa215_4, len218, len271, fa274_0, fa274_1, fa274_2, fa303_0, fa303_1, fa303_2, fa303_3, fa314_0, fa314_1, fa314_2, fa314_3, fa314_4, fa314_5, fa314_6, fa314_7, fa314_8, fa314_9, fa314_10]
  rw [decide_eq_true hin, if_pos rfl] at hsucc
  rw [ldB24 (G.box 0 rfl) rfl, ldB_agg agg33 sz33 rfl (B12.gr g13)]
  refine do_build_of u24 inf33 (cells := [.int .i64 (rul ms l).1, .slice Z (rul ms l).2.length cz]) (by decide) (by decide) (by simp [Instr.fill, madeCells, Value.cells, rng1, rng2]) rfl fun b5 w14 hb5 hb6 g14 _ r5 => ?_
  have G := G.step g14
  refine appRow G 1 rfl (by omega) (Row.src (r5 _ (Nat.le_refl _))) fun w15 X' c' G => ?_
  simp only [List.set_cons_zero, List.set_cons_succ] at G
  refine storeH G 0 rfl sz24 rfl rfl rfl fun w16 G => ?_
  simp only [List.set_cons_zero, List.set_cons_succ, List.take_succ_cons, List.take_zero, List.drop_succ_cons, List.drop_zero, List.nil_append, List.cons_append, Value.cells] at G
  refine hK _ _ ⟨q73, X', c', cells ++ [.int .i64 (rul ms l).1, .slice Z (rul ms l).2.length cz], ?_, ?_⟩
  · rw [hsucc]
    exact hcells.append (.cons z3 z4 .nil)
  · rw [hsucc, List.length_append]
    exact G
end
end Go.Proofs.Ytegcjkhebecgbaa

/- Contracts: sameRules, sameGrammar of the laws; GoodGrammar, GoodWord of the program; a grammar that is read as a thing. -/
set_option linter.unusedVariables false
set_option linter.unusedSimpArgs false
set_option maxRecDepth 100000
namespace Go.Sh
open Go
theorem RulesF.same {F : Nat → Prop} {w w' : World} {X : Option Addr} {rs : List RuleL} (h : RulesF F w X rs) (hs : ∀ q, F q → w'.heap[q]? = w.heap[q]?) : RulesF F w' X rs := by
  refine ⟨h.le, h.ptr, h.foot, fun j hj => ?_⟩
  obtain ⟨Y, c, h1, h2, h3, h4⟩ := h.row j hj
  have hb : w'.heap[(ad X).block]? = w.heap[(ad X).block]? := hs _ (h.foot (by omega))
  have cell : ∀ i, w'.cell? ((ad X).add i) = w.cell? ((ad X).add i) := fun i => by
    unfold World.cell?
    rw [add_block, hb]
  exact ⟨Y, c, by rw [cell]; exact h1, by rw [cell]; exact h2, h3, h4.same' hs⟩
/-- Rules that are read. -/
def rdr (ft : Nat → Prop) (Y : Option Addr) (rs : List RuleL) : Thing := ⟨fun w => RulesF ft w Y rs, ft⟩
theorem Apt.rdr {w0 w : World} {L : List Thing} (H : Apt w0 w L) (i : Nat) {ft : Nat → Prop} {Y : Option Addr} {rs : List RuleL} (hi : L[i]? = some (Sh.rdr ft Y rs)) : RulesF ft w Y rs := H.get i hi
theorem Apt.toRead {w0 w : World} {L : List Thing} (H : Apt w0 w L) (i : Nat) {e c : Nat} {ft : Nat → Prop} {Y : Option Addr} {rs : List RuleL} (hi : L[i]? = some (Sh.gow e ft Y c rs)) : Apt w0 w (L.set i (Sh.rdr (fun q => blk Y = some q ∨ ft q) Y rs)) :=
  H.weaken i hi (fun q hq => hq) (fun w' _ h => OwnG.readF h) fun w' w'' hs h => RulesF.same h hs
theorem Apt.addRead {w0 w w' : World} {L : List Thing} (H : Apt w0 w L) (g : Gr w w') {Y : Option Addr} {rs : List RuleL} (h : RulesF (fun q => w.heap.size ≤ q ∧ q < w'.heap.size) w' Y rs) : Apt w0 w' (L ++ [Sh.rdr (fun q => w.heap.size ≤ q ∧ q < w'.heap.size) Y rs]) :=
  H.add g _ (fun q hq => hq.1) (fun q hq => hq.2) fun w'' hs => RulesF.same h hs
end Go.Sh
namespace Go.Proofs.Ytegcjkhebecgbaa
open Go Go.Sh Go.RowKit
section
variable {w : World} {Y X Z : Option Addr} {cy cx cz : Nat} {gm g2 : Gram} {ws : List Int} {k : Value → World → Prop}
theorem sameRules_c {rs qs : List RuleL} (hx : RulesF (fun _ => True) w X rs) (hy : RulesF (fun _ => True) w Y qs) (hk : ∀ w', Gr w w' → k (.bool (decide (rs = qs))) w') :
    CallK Try.prog 172 [.slice X rs.length cx, .slice Y qs.length cy] k w := by
  refine enter172 ?_
  unfold S172
  simp only [bin_add, bin_sub, bin_mul, bin_eql, bin_neq, bin_lss, bin_leq, bin_gtr, bin_geq, un_not, un_neg, zq4, zq3, zq1, zq2, zq0, cond_true', cond_false', zq14, zq15, zq16, zq17, zq13, zq10, zq12, zq11, zq7, zq5, zq6, zq9, zq8, resK_nil, resK_tmp, ite_T, ite_F, upd_at, add_plain, add_zero', Nat.reduceEqDiff, fa8_0, fa8_1, fa8_2, fa8_3, fa14_0, fa14_1, fa19_0, len22, len24, fa26_0, fa26_1, fa26_2, len27, fa33_0, fa33_1, len35, fa77_0, fa77_1, fa88_0, fa88_1, fa88_2, fa88_3, fa88_4, fa88_5, fa114_0, fa114_1, fa114_2, fa124_0, fa124_1, len134, len136, len154, fa156_0, fa156_1, fa156_2, fa156_3, fa156_4, fa156_5, fa156_6, fa184_0, fa184_1, fa200_0, fa200_1, fa200_2, fa200_3, fa215_0, fa215_1, fa215_2, fa215_3, fa215_4, len218, len271, fa274_0, fa274_1, fa274_2, fa303_0, fa303_1, fa303_2, fa303_3, fa314_0, fa314_1, fa314_2, fa314_3, fa314_4, fa314_5, fa314_6, fa314_7, fa314_8, fa314_9, fa314_10]
  by_cases hl : rs.length = qs.length
  · simp only [Int.ofNat_inj, hl, decide_true, Bool.not_true, bin_add, bin_sub, bin_mul, bin_eql, bin_neq, bin_lss, bin_leq, bin_gtr, bin_geq, un_not, un_neg, zq4, zq3, zq1, zq2, zq0, cond_true', cond_false', zq14, zq15, zq16, zq17, zq13, zq10, zq12, zq11, zq7, zq5, zq6, zq9, zq8, resK_nil, resK_tmp, ite_T, ite_F, upd_at, add_plain, add_zero', Nat.reduceEqDiff, fa8_0, fa8_1, fa8_2, fa8_3, fa14_0, fa14_1, fa19_0, len22, len24, fa26_0, fa26_1, fa26_2, len27, fa33_0, fa33_1, len35, fa77_0, fa77_1, fa88_0, fa88_1, fa88_2, fa88_3, fa88_4, fa88_5, fa114_0, fa114_1, fa114_2, fa124_0, fa124_1, len134, len136, len154, fa156_0, fa156_1, fa156_2, fa156_3, fa156_4, fa156_5, fa156_6, fa184_0, fa184_1, fa200_0, fa200_1, fa200_2, fa200_3, fa215_0, fa215_1, fa215_2, fa215_3, fa215_4, len218, len271, fa274_0, fa274_1, fa274_2, fa303_0, fa303_1, fa303_2, fa303_3, fa314_0, fa314_1, fa314_2, fa314_3, fa314_4, fa314_5, fa314_6, fa314_7, fa314_8, fa314_9, fa314_10]
    rw [← hl]
    refine loop_to rs.length 0 (fun i f w' => i ≤ rs.length ∧ f 13 = .int .i64 i ∧ Gr w w' ∧ rs.take i = qs.take i) ⟨Nat.zero_le _, rfl, Gr.refl w, rfl⟩ ?_
    rintro i f w1 N hag ⟨hi, h13, hg, hpre⟩ hN
    have h0 : f 0 = .slice X rs.length cx := hag 0 (by decide)
    have h1 : f 1 = .slice Y rs.length cy := hag 1 (by decide)
    have h12 : f 12 = .int .i64 rs.length := hag 12 (by decide)
    simp only [h0, h1, h12, h13, bin_add, bin_sub, bin_mul, bin_eql, bin_neq, bin_lss, bin_leq, bin_gtr, bin_geq, un_not, un_neg, zq4, zq3, zq1, zq2, zq0, cond_true', cond_false', zq14, zq15, zq16, zq17, zq13, zq10, zq12, zq11, zq7, zq5, zq6, zq9, zq8, resK_nil, resK_tmp, ite_T, ite_F, upd_at, add_plain, add_zero', Nat.reduceEqDiff, fa8_0, fa8_1, fa8_2, fa8_3, fa14_0, fa14_1, fa19_0, len22, len24, fa26_0, fa26_1, fa26_2, len27, fa33_0, fa33_1, len35, fa77_0, fa77_1, fa88_0, fa88_1, fa88_2, fa88_3, fa88_4, fa88_5, fa114_0, fa114_1, fa114_2, fa124_0, fa124_1, len134, len136, len154, fa156_0, fa156_1, fa156_2, fa156_3, fa156_4, fa156_5, fa156_6, fa184_0, fa184_1, fa200_0, fa200_1, fa200_2, fa200_3, fa215_0, fa215_1, fa215_2, fa215_3, fa215_4, len218, len271, fa274_0, fa274_1, fa274_2, fa303_0, fa303_1, fa303_2, fa303_3, fa314_0, fa314_1, fa314_2, fa314_3, fa314_4, fa314_5, fa314_6, fa314_7, fa314_8, fa314_9, fa314_10]
    by_cases hlt : i < rs.length
    · have hlt' : (i : Int) < rs.length := by omega
      have := hx.le
      simp only [hlt', decide_true, bin_add, bin_sub, bin_mul, bin_eql, bin_neq, bin_lss, bin_leq, bin_gtr, bin_geq, un_not, un_neg, zq4, zq3, zq1, zq2, zq0, cond_true', cond_false', zq14, zq15, zq16, zq17, zq13, zq10, zq12, zq11, zq7, zq5, zq6, zq9, zq8, resK_nil, resK_tmp, ite_T, ite_F, upd_at, add_plain, add_zero', Nat.reduceEqDiff, fa8_0, fa8_1, fa8_2, fa8_3, fa14_0, fa14_1, fa19_0, len22, len24, fa26_0, fa26_1, fa26_2, len27, fa33_0, fa33_1, len35, fa77_0, fa77_1, fa88_0, fa88_1, fa88_2, fa88_3, fa88_4, fa88_5, fa114_0, fa114_1, fa114_2, fa124_0, fa124_1, len134, len136, len154, fa156_0, fa156_1, fa156_2, fa156_3, fa156_4, fa156_5, fa156_6, fa184_0, fa184_1, fa200_0, fa200_1, fa200_2, fa200_3, fa215_0, fa215_1, fa215_2, fa215_3, fa215_4, len218, len271, fa274_0, fa274_1, fa274_2, fa303_0, fa303_1, fa303_2, fa303_3, fa314_0, fa314_1, fa314_2, fa314_3, fa314_4, fa314_5, fa314_6, fa314_7, fa314_8, fa314_9, fa314_10]
      have g' := gr_trans hg (gr_drew w1)
      obtain ⟨U, cu, u1, u2, u3, u4⟩ := (hx.gr g').row i hlt
      obtain ⟨V, cv, v1, v2, v3, v4⟩ := (hy.gr g').row i (by omega)
      have e1 : rul rs i = rs[i] := rul_eq hlt
      have e2 : rul qs i = qs[i] := rul_eq (by omega)
      have hpr : rs.take (i + 1) = qs.take (i + 1) ↔ rul rs i = rul qs i := by
        have hlt2 : i < qs.length := by omega
        have e3 : rs.take (i + 1) = rs.take i ++ [rs[i]] := List.take_succ_eq_append_getElem hlt
        have e4 : qs.take (i + 1) = qs.take i ++ [qs[i]] := List.take_succ_eq_append_getElem hlt2
        rw [e3, e4, hpre, e1, e2]
        constructor
        · exact fun h => by
            have := List.append_cancel_left h
            exact List.singleton_inj.1 this
        · exact fun h => by rw [h]
      refine rdi (ixn24 hx.ptr hlt) ?_
      rw [fa33_0, add_add, Nat.add_zero, ld3 u1]
      refine rdi (ixn24 (hl ▸ hy.ptr) hlt) ?_
      rw [fa33_0, add_add, Nat.add_zero, ld3 v1]
      simp only [bin_add, bin_sub, bin_mul, bin_eql, bin_neq, bin_lss, bin_leq, bin_gtr, bin_geq, un_not, un_neg, zq4, zq3, zq1, zq2, zq0, cond_true', cond_false', zq14, zq15, zq16, zq17, zq13, zq10, zq12, zq11, zq7, zq5, zq6, zq9, zq8, resK_nil, resK_tmp, ite_T, ite_F, upd_at, add_plain, add_zero', Nat.reduceEqDiff, fa8_0, fa8_1, fa8_2, fa8_3, fa14_0, fa14_1, fa19_0, len22, len24, fa26_0, fa26_1, fa26_2, len27, fa33_0, fa33_1, len35, fa77_0, fa77_1, fa88_0, fa88_1, fa88_2, fa88_3, fa88_4, fa88_5, fa114_0, fa114_1, fa114_2, fa124_0, fa124_1, len134, len136, len154, fa156_0, fa156_1, fa156_2, fa156_3, fa156_4, fa156_5, fa156_6, fa184_0, fa184_1, fa200_0, fa200_1, fa200_2, fa200_3, fa215_0, fa215_1, fa215_2, fa215_3, fa215_4, len218, len271, fa274_0, fa274_1, fa274_2, fa303_0, fa303_1, fa303_2, fa303_3, fa314_0, fa314_1, fa314_2, fa314_3, fa314_4, fa314_5, fa314_6, fa314_7, fa314_8, fa314_9, fa314_10]
      by_cases hf : (rul rs i).1 = (rul qs i).1
      · simp only [hf, decide_true, Bool.not_true, bin_add, bin_sub, bin_mul, bin_eql, bin_neq, bin_lss, bin_leq, bin_gtr, bin_geq, un_not, un_neg, zq4, zq3, zq1, zq2, zq0, cond_true', cond_false', zq14, zq15, zq16, zq17, zq13, zq10, zq12, zq11, zq7, zq5, zq6, zq9, zq8, resK_nil, resK_tmp, ite_T, ite_F, upd_at, add_plain, add_zero', Nat.reduceEqDiff, fa8_0, fa8_1, fa8_2, fa8_3, fa14_0, fa14_1, fa19_0, len22, len24, fa26_0, fa26_1, fa26_2, len27, fa33_0, fa33_1, len35, fa77_0, fa77_1, fa88_0, fa88_1, fa88_2, fa88_3, fa88_4, fa88_5, fa114_0, fa114_1, fa114_2, fa124_0, fa124_1, len134, len136, len154, fa156_0, fa156_1, fa156_2, fa156_3, fa156_4, fa156_5, fa156_6, fa184_0, fa184_1, fa200_0, fa200_1, fa200_2, fa200_3, fa215_0, fa215_1, fa215_2, fa215_3, fa215_4, len218, len271, fa274_0, fa274_1, fa274_2, fa303_0, fa303_1, fa303_2, fa303_3, fa314_0, fa314_1, fa314_2, fa314_3, fa314_4, fa314_5, fa314_6, fa314_7, fa314_8, fa314_9, fa314_10]
        refine rdi (ixn24 hx.ptr hlt) ?_
        simp only [bin_add, bin_sub, bin_mul, bin_eql, bin_neq, bin_lss, bin_leq, bin_gtr, bin_geq, un_not, un_neg, zq4, zq3, zq1, zq2, zq0, cond_true', cond_false', zq14, zq15, zq16, zq17, zq13, zq10, zq12, zq11, zq7, zq5, zq6, zq9, zq8, resK_nil, resK_tmp, ite_T, ite_F, upd_at, add_plain, add_zero', Nat.reduceEqDiff, fa8_0, fa8_1, fa8_2, fa8_3, fa14_0, fa14_1, fa19_0, len22, len24, fa26_0, fa26_1, fa26_2, len27, fa33_0, fa33_1, len35, fa77_0, fa77_1, fa88_0, fa88_1, fa88_2, fa88_3, fa88_4, fa88_5, fa114_0, fa114_1, fa114_2, fa124_0, fa124_1, len134, len136, len154, fa156_0, fa156_1, fa156_2, fa156_3, fa156_4, fa156_5, fa156_6, fa184_0, fa184_1, fa200_0, fa200_1, fa200_2, fa200_3, fa215_0, fa215_1, fa215_2, fa215_3, fa215_4, len218, len271, fa274_0, fa274_1, fa274_2, fa303_0, fa303_1, fa303_2, fa303_3, fa314_0, fa314_1, fa314_2, fa314_3, fa314_4, fa314_5, fa314_6, fa314_7, fa314_8, fa314_9, fa314_10]
        rw [add_add, ld27 u2]
        refine rdi (ixn24 (hl ▸ hy.ptr) hlt) ?_
        simp only [bin_add, bin_sub, bin_mul, bin_eql, bin_neq, bin_lss, bin_leq, bin_gtr, bin_geq, un_not, un_neg, zq4, zq3, zq1, zq2, zq0, cond_true', cond_false', zq14, zq15, zq16, zq17, zq13, zq10, zq12, zq11, zq7, zq5, zq6, zq9, zq8, resK_nil, resK_tmp, ite_T, ite_F, upd_at, add_plain, add_zero', Nat.reduceEqDiff, fa8_0, fa8_1, fa8_2, fa8_3, fa14_0, fa14_1, fa19_0, len22, len24, fa26_0, fa26_1, fa26_2, len27, fa33_0, fa33_1, len35, fa77_0, fa77_1, fa88_0, fa88_1, fa88_2, fa88_3, fa88_4, fa88_5, fa114_0, fa114_1, fa114_2, fa124_0, fa124_1, len134, len136, len154, fa156_0, fa156_1, fa156_2, fa156_3, fa156_4, fa156_5, fa156_6, fa184_0, fa184_1, fa200_0, fa200_1, fa200_2, fa200_3, fa215_0, fa215_1, fa215_2, fa215_3, fa215_4, len218, len271, fa274_0, fa274_1, fa274_2, fa303_0, fa303_1, fa303_2, fa303_3, fa314_0, fa314_1, fa314_2, fa314_3, fa314_4, fa314_5, fa314_6, fa314_7, fa314_8, fa314_9, fa314_10]
        rw [add_add, ld27 v2]
        refine sameInts_c u4.is v4.is fun w2 g2 => ?_
        by_cases hr : (rul rs i).2 = (rul qs i).2
        · rw [decide_eq_true hr]
          simp only [Bool.not_true, bin_add, bin_sub, bin_mul, bin_eql, bin_neq, bin_lss, bin_leq, bin_gtr, bin_geq, un_not, un_neg, zq4, zq3, zq1, zq2, zq0, cond_true', cond_false', zq14, zq15, zq16, zq17, zq13, zq10, zq12, zq11, zq7, zq5, zq6, zq9, zq8, resK_nil, resK_tmp, ite_T, ite_F, upd_at, add_plain, add_zero', Nat.reduceEqDiff, fa8_0, fa8_1, fa8_2, fa8_3, fa14_0, fa14_1, fa19_0, len22, len24, fa26_0, fa26_1, fa26_2, len27, fa33_0, fa33_1, len35, fa77_0, fa77_1, fa88_0, fa88_1, fa88_2, fa88_3, fa88_4, fa88_5, fa114_0, fa114_1, fa114_2, fa124_0, fa124_1, len134, len136, len154, fa156_0, fa156_1, fa156_2, fa156_3, fa156_4, fa156_5, fa156_6, fa184_0, fa184_1, fa200_0, fa200_1, fa200_2, fa200_3, fa215_0, fa215_1, fa215_2, fa215_3, fa215_4, len218, len271, fa274_0, fa274_1, fa274_2, fa303_0, fa303_1, fa303_2, fa303_3, fa314_0, fa314_1, fa314_2, fa314_3, fa314_4, fa314_5, fa314_6, fa314_7, fa314_8, fa314_9, fa314_10]
          rw [i64_of (by omega) (by omega)]
          exact hN _ _ hlt ⟨by omega, rfl, gr_trans g' g2, hpr.2 (Prod.ext hf hr)⟩
        · rw [decide_eq_false hr]
          simp only [Bool.not_false, bin_add, bin_sub, bin_mul, bin_eql, bin_neq, bin_lss, bin_leq, bin_gtr, bin_geq, un_not, un_neg, zq4, zq3, zq1, zq2, zq0, cond_true', cond_false', zq14, zq15, zq16, zq17, zq13, zq10, zq12, zq11, zq7, zq5, zq6, zq9, zq8, resK_nil, resK_tmp, ite_T, ite_F, upd_at, add_plain, add_zero', Nat.reduceEqDiff, fa8_0, fa8_1, fa8_2, fa8_3, fa14_0, fa14_1, fa19_0, len22, len24, fa26_0, fa26_1, fa26_2, len27, fa33_0, fa33_1, len35, fa77_0, fa77_1, fa88_0, fa88_1, fa88_2, fa88_3, fa88_4, fa88_5, fa114_0, fa114_1, fa114_2, fa124_0, fa124_1, len134, len136, len154, fa156_0, fa156_1, fa156_2, fa156_3, fa156_4, fa156_5, fa156_6, fa184_0, fa184_1, fa200_0, fa200_1, fa200_2, fa200_3, fa215_0, fa215_1, fa215_2, fa215_3, fa215_4, len218, len271, fa274_0, fa274_1, fa274_2, fa303_0, fa303_1, fa303_2, fa303_3, fa314_0, fa314_1, fa314_2, fa314_3, fa314_4, fa314_5, fa314_6, fa314_7, fa314_8, fa314_9, fa314_10]
          have := hk _ (gr_trans g' g2)
          rwa [decide_eq_false (fun e => hr (by rw [e]))] at this
      · simp only [hf, decide_false, Bool.not_false, bin_add, bin_sub, bin_mul, bin_eql, bin_neq, bin_lss, bin_leq, bin_gtr, bin_geq, un_not, un_neg, zq4, zq3, zq1, zq2, zq0, cond_true', cond_false', zq14, zq15, zq16, zq17, zq13, zq10, zq12, zq11, zq7, zq5, zq6, zq9, zq8, resK_nil, resK_tmp, ite_T, ite_F, upd_at, add_plain, add_zero', Nat.reduceEqDiff, fa8_0, fa8_1, fa8_2, fa8_3, fa14_0, fa14_1, fa19_0, len22, len24, fa26_0, fa26_1, fa26_2, len27, fa33_0, fa33_1, len35, fa77_0, fa77_1, fa88_0, fa88_1, fa88_2, fa88_3, fa88_4, fa88_5, fa114_0, fa114_1, fa114_2, fa124_0, fa124_1, len134, len136, len154, fa156_0, fa156_1, fa156_2, fa156_3, fa156_4, fa156_5, fa156_6, fa184_0, fa184_1, fa200_0, fa200_1, fa200_2, fa200_3, fa215_0, fa215_1, fa215_2, fa215_3, fa215_4, len218, len271, fa274_0, fa274_1, fa274_2, fa303_0, fa303_1, fa303_2, fa303_3, fa314_0, fa314_1, fa314_2, fa314_3, fa314_4, fa314_5, fa314_6, fa314_7, fa314_8, fa314_9, fa314_10]
        have := hk _ g'
        rwa [decide_eq_false (fun e => hf (by rw [e]))] at this
    · simp only [show ¬ (i : Int) < rs.length from by omega, decide_false, bin_add, bin_sub, bin_mul, bin_eql, bin_neq, bin_lss, bin_leq, bin_gtr, bin_geq, un_not, un_neg, zq4, zq3, zq1, zq2, zq0, cond_true', cond_false', zq14, zq15, zq16, zq17, zq13, zq10, zq12, zq11, zq7, zq5, zq6, zq9, zq8, resK_nil, resK_tmp, ite_T, ite_F, upd_at, add_plain, add_zero', Nat.reduceEqDiff, fa8_0, fa8_1, fa8_2, fa8_3, fa14_0, fa14_1, fa19_0, len22, len24, fa26_0, fa26_1, fa26_2, len27, fa33_0, fa33_1, len35, fa77_0, fa77_1, fa88_0, fa88_1, fa88_2, fa88_3, fa88_4, fa88_5, fa114_0, fa114_1, fa114_2, fa124_0, fa124_1, len134, len136, len154, fa156_0, fa156_1, fa156_2, fa156_3, fa156_4, fa156_5, fa156_6, fa184_0, fa184_1, fa200_0, fa200_1, fa200_2, fa200_3, fa215_0, fa215_1, fa215_2, fa215_3, fa215_4, len218, len271, fa274_0, fa274_1, fa274_2, fa303_0, fa303_1, fa303_2, fa303_3, fa314_0, fa314_1, fa314_2, fa314_3, fa314_4, fa314_5, fa314_6, fa314_7, fa314_8, fa314_9, fa314_10]
      have := hk _ hg
      rwa [decide_eq_true] at this
      rwa [List.take_of_length_le (by omega), List.take_of_length_le (by omega)] at hpre
  · simp only [Int.ofNat_inj, hl, decide_false, Bool.not_false, bin_add, bin_sub, bin_mul, bin_eql, bin_neq, bin_lss, bin_leq, bin_gtr, bin_geq, un_not, un_neg, zq4, zq3, zq1, zq2, zq0, cond_true', cond_false', zq14, zq15, zq16, zq17, zq13, zq10, zq12, zq11, zq7, zq5, zq6, zq9, zq8, resK_nil, resK_tmp, ite_T, ite_F, upd_at, add_plain, add_zero', Nat.reduceEqDiff, fa8_0, fa8_1, fa8_2, fa8_3, fa14_0, fa14_1, fa19_0, len22, len24, fa26_0, fa26_1, fa26_2, len27, fa33_0, fa33_1, len35, fa77_0, fa77_1, fa88_0, fa88_1, fa88_2, fa88_3, fa88_4, fa88_5, fa114_0, fa114_1, fa114_2, fa124_0, fa124_1, len134, len136, len154, fa156_0, fa156_1, fa156_2, fa156_3, fa156_4, fa156_5, fa156_6, fa184_0, fa184_1, fa200_0, fa200_1, fa200_2, fa200_3, fa215_0, fa215_1, fa215_2, fa215_3, fa215_4, len218, len271, fa274_0, fa274_1, fa274_2, fa303_0, fa303_1, fa303_2, fa303_3, fa314_0, fa314_1, fa314_2, fa314_3, fa314_4, fa314_5, fa314_6, fa314_7, fa314_8, fa314_9, fa314_10]
    have := hk _ (Gr.refl w)
    rwa [decide_eq_false (fun e => hl (by rw [e]))] at this
theorem sameGrammar_c (hx : kG X cx gm.rules w) (hy : kG Y cy g2.rules w) (hk : ∀ w', Gr w w' → k (.bool (decide (gm = g2))) w') :
    CallK Try.prog 41 [grv gm X cx, grv g2 Y cy] k w := by
  refine enter41 ?_
  unfold S41
  have H := ((Kn.nil w).addG hx.1 hx.2).addG hy.1 hy.2
  refine do_box fun b1 w1 g1 hb1 B1 => ?_
  have H := (H.step g1).addB B1
  refine do_box fun b2 w2 gg hb2 B2 => ?_
  have H := (H.step gg).addB B2
  simp only [List.cons_append, List.nil_append] at H
  obtain ⟨n1, t1, r1⟩ := gm
  obtain ⟨n2, t2, r2⟩ := g2
  simp only [bin_add, bin_sub, bin_mul, bin_eql, bin_neq, bin_lss, bin_leq, bin_gtr, bin_geq, un_not, un_neg, zq4, zq3, zq1, zq2, zq0, cond_true', cond_false', zq14, zq15, zq16, zq17, zq13, zq10, zq12, zq11, zq7, zq5, zq6, zq9, zq8, resK_nil, resK_tmp, ite_T, ite_F, upd_at, add_plain, add_zero', Nat.reduceEqDiff, fa8_0, fa8_1, fa8_2, fa8_3, fa14_0, fa14_1, fa19_0, len22, len24, fa26_0, fa26_1, fa26_2, len27, fa33_0, fa33_1, len35, fa77_0, fa77_1, fa88_0, fa88_1, fa88_2, fa88_3, fa88_4, fa88_5, fa114_0, fa114_1, fa114_2, fa124_0, fa124_1, len134, len136, len154, fa156_0, fa156_1, fa156_2, fa156_3, fa156_4, fa156_5, fa156_6, fa184_0, fa184_1, fa200_0, fa200_1, fa200_2, fa200_3, fa215_0, fa215_1, fa215_2, fa215_3, fa215_4, len218, len271, fa274_0, fa274_1, fa274_2, fa303_0, fa303_1, fa303_2, fa303_3, fa314_0, fa314_1, fa314_2, fa314_3, fa314_4, fa314_5, fa314_6, fa314_7, fa314_8, fa314_9, fa314_10]
  rw [ldB3 (H.get 3 rfl) rfl, ldB3 (H.get 4 rfl) rfl]
  simp only [bin_add, bin_sub, bin_mul, bin_eql, bin_neq, bin_lss, bin_leq, bin_gtr, bin_geq, un_not, un_neg, zq4, zq3, zq1, zq2, zq0, cond_true', cond_false', zq14, zq15, zq16, zq17, zq13, zq10, zq12, zq11, zq7, zq5, zq6, zq9, zq8, resK_nil, resK_tmp, ite_T, ite_F, upd_at, add_plain, add_zero', Nat.reduceEqDiff, fa8_0, fa8_1, fa8_2, fa8_3, fa14_0, fa14_1, fa19_0, len22, len24, fa26_0, fa26_1, fa26_2, len27, fa33_0, fa33_1, len35, fa77_0, fa77_1, fa88_0, fa88_1, fa88_2, fa88_3, fa88_4, fa88_5, fa114_0, fa114_1, fa114_2, fa124_0, fa124_1, len134, len136, len154, fa156_0, fa156_1, fa156_2, fa156_3, fa156_4, fa156_5, fa156_6, fa184_0, fa184_1, fa200_0, fa200_1, fa200_2, fa200_3, fa215_0, fa215_1, fa215_2, fa215_3, fa215_4, len218, len271, fa274_0, fa274_1, fa274_2, fa303_0, fa303_1, fa303_2, fa303_3, fa314_0, fa314_1, fa314_2, fa314_3, fa314_4, fa314_5, fa314_6, fa314_7, fa314_8, fa314_9, fa314_10]
  by_cases hn : n1 = n2
  case neg =>
    simp only [hn, decide_false, bin_add, bin_sub, bin_mul, bin_eql, bin_neq, bin_lss, bin_leq, bin_gtr, bin_geq, un_not, un_neg, zq4, zq3, zq1, zq2, zq0, cond_true', cond_false', zq14, zq15, zq16, zq17, zq13, zq10, zq12, zq11, zq7, zq5, zq6, zq9, zq8, resK_nil, resK_tmp, ite_T, ite_F, upd_at, add_plain, add_zero', Nat.reduceEqDiff, fa8_0, fa8_1, fa8_2, fa8_3, fa14_0, fa14_1, fa19_0, len22, len24, fa26_0, fa26_1, fa26_2, len27, fa33_0, fa33_1, len35, fa77_0, fa77_1, fa88_0, fa88_1, fa88_2, fa88_3, fa88_4, fa88_5, fa114_0, fa114_1, fa114_2, fa124_0, fa124_1, len134, len136, len154, fa156_0, fa156_1, fa156_2, fa156_3, fa156_4, fa156_5, fa156_6, fa184_0, fa184_1, fa200_0, fa200_1, fa200_2, fa200_3, fa215_0, fa215_1, fa215_2, fa215_3, fa215_4, len218, len271, fa274_0, fa274_1, fa274_2, fa303_0, fa303_1, fa303_2, fa303_3, fa314_0, fa314_1, fa314_2, fa314_3, fa314_4, fa314_5, fa314_6, fa314_7, fa314_8, fa314_9, fa314_10]
    have := hk _ (H.get 0 rfl)
    rwa [decide_eq_false (fun e => hn (by injection e))] at this
  simp only [hn, decide_true, bin_add, bin_sub, bin_mul, bin_eql, bin_neq, bin_lss, bin_leq, bin_gtr, bin_geq, un_not, un_neg, zq4, zq3, zq1, zq2, zq0, cond_true', cond_false', zq14, zq15, zq16, zq17, zq13, zq10, zq12, zq11, zq7, zq5, zq6, zq9, zq8, resK_nil, resK_tmp, ite_T, ite_F, upd_at, add_plain, add_zero', Nat.reduceEqDiff, fa8_0, fa8_1, fa8_2, fa8_3, fa14_0, fa14_1, fa19_0, len22, len24, fa26_0, fa26_1, fa26_2, len27, fa33_0, fa33_1, len35, fa77_0, fa77_1, fa88_0, fa88_1, fa88_2, fa88_3, fa88_4, fa88_5, fa114_0, fa114_1, fa114_2, fa124_0, fa124_1, len134, len136, len154, fa156_0, fa156_1, fa156_2, fa156_3, fa156_4, fa156_5, fa156_6, fa184_0, fa184_1, fa200_0, fa200_1, fa200_2, fa200_3, fa215_0, fa215_1, fa215_2, fa215_3, fa215_4, len218, len271, fa274_0, fa274_1, fa274_2, fa303_0, fa303_1, fa303_2, fa303_3, fa314_0, fa314_1, fa314_2, fa314_3, fa314_4, fa314_5, fa314_6, fa314_7, fa314_8, fa314_9, fa314_10]
  rw [ldB3 (H.get 3 rfl) rfl, ldB3 (H.get 4 rfl) rfl]
  simp only [bin_add, bin_sub, bin_mul, bin_eql, bin_neq, bin_lss, bin_leq, bin_gtr, bin_geq, un_not, un_neg, zq4, zq3, zq1, zq2, zq0, cond_true', cond_false', zq14, zq15, zq16, zq17, zq13, zq10, zq12, zq11, zq7, zq5, zq6, zq9, zq8, resK_nil, resK_tmp, ite_T, ite_F, upd_at, add_plain, add_zero', Nat.reduceEqDiff, fa8_0, fa8_1, fa8_2, fa8_3, fa14_0, fa14_1, fa19_0, len22, len24, fa26_0, fa26_1, fa26_2, len27, fa33_0, fa33_1, len35, fa77_0, fa77_1, fa88_0, fa88_1, fa88_2, fa88_3, fa88_4, fa88_5, fa114_0, fa114_1, fa114_2, fa124_0, fa124_1, len134, len136, len154, fa156_0, fa156_1, fa156_2, fa156_3, fa156_4, fa156_5, fa156_6, fa184_0, fa184_1, fa200_0, fa200_1, fa200_2, fa200_3, fa215_0, fa215_1, fa215_2, fa215_3, fa215_4, len218, len271, fa274_0, fa274_1, fa274_2, fa303_0, fa303_1, fa303_2, fa303_3, fa314_0, fa314_1, fa314_2, fa314_3, fa314_4, fa314_5, fa314_6, fa314_7, fa314_8, fa314_9, fa314_10]
  by_cases ht : t1 = t2
  case neg =>
    simp only [ht, decide_false, bin_add, bin_sub, bin_mul, bin_eql, bin_neq, bin_lss, bin_leq, bin_gtr, bin_geq, un_not, un_neg, zq4, zq3, zq1, zq2, zq0, cond_true', cond_false', zq14, zq15, zq16, zq17, zq13, zq10, zq12, zq11, zq7, zq5, zq6, zq9, zq8, resK_nil, resK_tmp, ite_T, ite_F, upd_at, add_plain, add_zero', Nat.reduceEqDiff, fa8_0, fa8_1, fa8_2, fa8_3, fa14_0, fa14_1, fa19_0, len22, len24, fa26_0, fa26_1, fa26_2, len27, fa33_0, fa33_1, len35, fa77_0, fa77_1, fa88_0, fa88_1, fa88_2, fa88_3, fa88_4, fa88_5, fa114_0, fa114_1, fa114_2, fa124_0, fa124_1, len134, len136, len154, fa156_0, fa156_1, fa156_2, fa156_3, fa156_4, fa156_5, fa156_6, fa184_0, fa184_1, fa200_0, fa200_1, fa200_2, fa200_3, fa215_0, fa215_1, fa215_2, fa215_3, fa215_4, len218, len271, fa274_0, fa274_1, fa274_2, fa303_0, fa303_1, fa303_2, fa303_3, fa314_0, fa314_1, fa314_2, fa314_3, fa314_4, fa314_5, fa314_6, fa314_7, fa314_8, fa314_9, fa314_10]
    have := hk _ (H.get 0 rfl)
    rwa [decide_eq_false (fun e => ht (by injection e))] at this
  simp only [ht, decide_true, bin_add, bin_sub, bin_mul, bin_eql, bin_neq, bin_lss, bin_leq, bin_gtr, bin_geq, un_not, un_neg, zq4, zq3, zq1, zq2, zq0, cond_true', cond_false', zq14, zq15, zq16, zq17, zq13, zq10, zq12, zq11, zq7, zq5, zq6, zq9, zq8, resK_nil, resK_tmp, ite_T, ite_F, upd_at, add_plain, add_zero', Nat.reduceEqDiff, fa8_0, fa8_1, fa8_2, fa8_3, fa14_0, fa14_1, fa19_0, len22, len24, fa26_0, fa26_1, fa26_2, len27, fa33_0, fa33_1, len35, fa77_0, fa77_1, fa88_0, fa88_1, fa88_2, fa88_3, fa88_4, fa88_5, fa114_0, fa114_1, fa114_2, fa124_0, fa124_1, len134, len136, len154, fa156_0, fa156_1, fa156_2, fa156_3, fa156_4, fa156_5, fa156_6, fa184_0, fa184_1, fa200_0, fa200_1, fa200_2, fa200_3, fa215_0, fa215_1, fa215_2, fa215_3, fa215_4, len218, len271, fa274_0, fa274_1, fa274_2, fa303_0, fa303_1, fa303_2, fa303_3, fa314_0, fa314_1, fa314_2, fa314_3, fa314_4, fa314_5, fa314_6, fa314_7, fa314_8, fa314_9, fa314_10]
  rw [ldB24 (H.get 3 rfl) rfl, ldB24 (H.get 4 rfl) rfl]
  refine sameRules_c (H.get 1 rfl).2 (H.get 2 rfl).2 fun w3 g3 => ?_
  have H := H.step g3
  simp only [bin_add, bin_sub, bin_mul, bin_eql, bin_neq, bin_lss, bin_leq, bin_gtr, bin_geq, un_not, un_neg, zq4, zq3, zq1, zq2, zq0, cond_true', cond_false', zq14, zq15, zq16, zq17, zq13, zq10, zq12, zq11, zq7, zq5, zq6, zq9, zq8, resK_nil, resK_tmp, ite_T, ite_F, upd_at, add_plain, add_zero', Nat.reduceEqDiff, fa8_0, fa8_1, fa8_2, fa8_3, fa14_0, fa14_1, fa19_0, len22, len24, fa26_0, fa26_1, fa26_2, len27, fa33_0, fa33_1, len35, fa77_0, fa77_1, fa88_0, fa88_1, fa88_2, fa88_3, fa88_4, fa88_5, fa114_0, fa114_1, fa114_2, fa124_0, fa124_1, len134, len136, len154, fa156_0, fa156_1, fa156_2, fa156_3, fa156_4, fa156_5, fa156_6, fa184_0, fa184_1, fa200_0, fa200_1, fa200_2, fa200_3, fa215_0, fa215_1, fa215_2, fa215_3, fa215_4, len218, len271, fa274_0, fa274_1, fa274_2, fa303_0, fa303_1, fa303_2, fa303_3, fa314_0, fa314_1, fa314_2, fa314_3, fa314_4, fa314_5, fa314_6, fa314_7, fa314_8, fa314_9, fa314_10]
  have := hk _ (H.get 0 rfl)
  rwa [show decide ((⟨n1, t1, r1⟩ : Gram) = ⟨n2, t2, r2⟩) = decide (r1 = r2) from by
    rw [Bool.eq_iff_iff, decide_eq_true_eq, decide_eq_true_eq]
    exact ⟨fun e => by injection e, fun e => by rw [hn, ht, e]⟩] at this
end
end Go.Proofs.Ytegcjkhebecgbaa

/- Contracts: UsefulOf of the reference; a grammar is handed back. -/
set_option linter.unusedVariables false
set_option linter.unusedSimpArgs false
set_option maxRecDepth 100000
namespace Go.Sh
open Go
noncomputable def usefulV (gm : Gram) : Gram × Bool := if goodG gm = true then (usefulG gm, true) else (⟨0, 0, []⟩, false)
end Go.Sh
namespace Go.Proofs.Ytegcjkhebecgbaa
open Go Go.Sh Go.RowKit
theorem retG {w0 w : World} {b3 c : Nat} {cs : List Value} {F : Nat → Prop} {X : Option Addr} {gm : Gram} (B3 : Box w b3 cs 26) (hl : cs.length = 3) (g0 : Gr w0 w) (hb : w0.heap.size ≤ b3) (hf : RulesF F w X gm.rules) (hF : ∀ q, F q → q ≠ b3) {K : Value → World → Prop}
    (hk : ∀ w', Gr w0 w' → w.heap.size ≤ w'.heap.size → RulesF F w' X gm.rules → K (grv gm X c) w') :
    Do Try.prog (sStore 26 (ptrv b3) (grv gm X c)) (fun _ w10 => Rd Try.prog (WS.at w10) (sLoadVar 26 (ptrv b3)) fun t => K t w10) w := by
  refine do_store (n := 3) sz26 rfl (by intro u hu; simp [Value.cells] at hu; rcases hu with rfl | rfl | rfl <;> rfl) B3 (by omega) fun w11 g11 _ B11 => ?_
  have e : List.take 0 cs ++ (grv gm X c).cells.toList ++ List.drop (0 + 3) cs = [.int .i64 gm.nons, .int .i64 gm.toks, .slice X gm.rules.length c] := by
    rw [List.drop_eq_nil_of_le (by omega)]
    simp [Value.cells]
  rw [e] at B11
  rw [rd_loadVar, ldB_agg agg26 sz26 rfl B11]
  have hgx : Gx (fun q => q = b3) w w11 := gx_of g11 fun q hq => (Option.some.inj hq).symm
  exact hk w11 (gr_put g0 g11 hb) g11.size (hf.gx hgx fun q hq e => hF q hq e)
section
variable {w : World} {Y : Option Addr} {cy : Nat} {gm : Gram} {k : Value → World → Prop}
theorem specUsefulOf_c (hG : kG Y cy gm.rules w) (hk : ∀ w' X c, Gr w w' → (usefulV gm).1.rules.length ≤ c → RulesF (fun q => w.heap.size ≤ q ∧ q < w'.heap.size) w' X (usefulV gm).1.rules → k (.tuple #[grv (usefulV gm).1 X c, .bool (usefulV gm).2]) w') :
    CallK Try.prog 64 [grv gm Y cy] k w := by
  refine enter64 ?_
  unfold S64
  have H := (Kn.nil w).addG hG.1 hG.2
  refine do_box fun b1 w1 g1 hb1 B1 => ?_
  have H := (H.step g1).addB B1
  refine do_alloc_of inf26 fun b3 w2 g2 hb3 B3 => ?_
  have H := (H.step g2).addB B3
  simp only [List.cons_append, List.nil_append] at H
  have hsz : w.heap.size ≤ b3 := by have := g1.size; omega
  rw [ldB_agg agg26 sz26 rfl (H.get 2 rfl)]
  refine goodGrammar_c (gvK (H.get 1 rfl)) fun w3 g => ?_
  have H := H.step g
  unfold usefulV at hk
  cases hg : goodG gm
  · simp only [Bool.not_false, bin_add, bin_sub, bin_mul, bin_eql, bin_neq, bin_lss, bin_leq, bin_gtr, bin_geq, un_not, un_neg, zq4, zq3, zq1, zq2, zq0, cond_true', cond_false', zq14, zq15, zq16, zq17, zq13, zq10, zq12, zq11, zq7, zq5, zq6, zq9, zq8, resK_nil, resK_tmp, ite_T, ite_F, upd_at, add_plain, add_zero', Nat.reduceEqDiff, fa8_0, fa8_1, fa8_2, fa8_3, fa14_0, fa14_1, fa19_0, len22, len24, fa26_0, fa26_1, fa26_2, len27, fa33_0, fa33_1, len35, fa77_0, fa77_1, fa88_0, fa88_1, fa88_2, fa88_3, fa88_4, fa88_5, fa114_0, fa114_1, fa114_2, fa124_0, fa124_1, len134, len136, len154, fa156_0, fa156_1, fa156_2, fa156_3, fa156_4, fa156_5, fa156_6, fa184_0, fa184_1, fa200_0, fa200_1, fa200_2, fa200_3, fa215_0, fa215_1, fa215_2, fa215_3, fa215_4, len218, len271, fa274_0, fa274_1, fa274_2, fa303_0, fa303_1, fa303_2, fa303_3, fa314_0, fa314_1, fa314_2, fa314_3, fa314_4, fa314_5, fa314_6, fa314_7, fa314_8, fa314_9, fa314_10]
    rw [hg, if_neg Bool.false_ne_true] at hk
    rw [bd26 (cells := #[.int .i64 0, .int .i64 0, .slice none 0 0]) rfl]
    refine retG (gm := ⟨0, 0, []⟩) (F := fun _ => False) (X := none) (c := 0) (H.get 3 rfl) rfl (H.get 0 rfl) hsz ⟨by simp, fun h => by simp at h, fun h => by simp at h, fun j hj => by simp at hj⟩ (fun q hq => hq.elim) fun w4 g4 _ hf => ?_
    exact hk w4 none 0 g4 (Nat.le_refl _) (hf.mono fun q hq => hq.elim)
  rw [hg, if_pos rfl] at hk
  simp only [Bool.not_true, bin_add, bin_sub, bin_mul, bin_eql, bin_neq, bin_lss, bin_leq, bin_gtr, bin_geq, un_not, un_neg, zq4, zq3, zq1, zq2, zq0, cond_true', cond_false', zq14, zq15, zq16, zq17, zq13, zq10, zq12, zq11, zq7, zq5, zq6, zq9, zq8, resK_nil, resK_tmp, ite_T, ite_F, upd_at, add_plain, add_zero', Nat.reduceEqDiff, fa8_0, fa8_1, fa8_2, fa8_3, fa14_0, fa14_1, fa19_0, len22, len24, fa26_0, fa26_1, fa26_2, len27, fa33_0, fa33_1, len35, fa77_0, fa77_1, fa88_0, fa88_1, fa88_2, fa88_3, fa88_4, fa88_5, fa114_0, fa114_1, fa114_2, fa124_0, fa124_1, len134, len136, len154, fa156_0, fa156_1, fa156_2, fa156_3, fa156_4, fa156_5, fa156_6, fa184_0, fa184_1, fa200_0, fa200_1, fa200_2, fa200_3, fa215_0, fa215_1, fa215_2, fa215_3, fa215_4, len218, len271, fa274_0, fa274_1, fa274_2, fa303_0, fa303_1, fa303_2, fa303_3, fa314_0, fa314_1, fa314_2, fa314_3, fa314_4, fa314_5, fa314_6, fa314_7, fa314_8, fa314_9, fa314_10]
  rw [ldB_agg agg26 sz26 rfl (H.get 2 rfl)]
  refine l3Useful_c (H.get 1 rfl) hg fun w4 X c g hc hR => ?_
  have hb3' : b3 < w3.heap.size := (H.get 3 rfl).lt
  have H := H.step g
  have hw3 : w.heap.size ≤ w3.heap.size := (H.get 0 rfl |> fun _ => by have := g1.size; have := g2.size; have := ‹Gr w2 w3›.size; omega)
  refine retG (gm := usefulG gm) (c := c) (H.get 3 rfl) rfl (H.get 0 rfl) hsz hR (fun q hq e => by omega) fun w5 g5 hs hf => ?_
  exact hk w5 X c g5 hc (hf.mono fun q hq => by omega)
end
end Go.Proofs.Ytegcjkhebecgbaa

/- A map as memory, among things that lie apart: every entry is right. -/
set_option linter.unusedVariables false
set_option linter.unusedSimpArgs false
set_option maxRecDepth 100000
namespace Go.Sh
open Go Go.WideMaps
section
variable {P : Program} {k : Value → World → Prop} {w0 w : World} {L : List Thing} {Good : Value → Value → Prop}
end
end Go.Sh
namespace Go.Proofs.Ytegcjkhebecgbaa
open Go Go.Sh Go.RowKit Go.WideMaps
end Go.Proofs.Ytegcjkhebecgbaa

/- Bk: bodies of functions as terms of the frame calculus, printed by shgen.py of this repository. -/
set_option linter.unusedVariables false
set_option maxRecDepth 100000
namespace Go.Proofs.Ytegcjkhebecgbaa
open Go Go.Sh

/-! loop.example/g00758/spec.l10Sized -/
/-! loop.example/g00758/spec.l10Cap -/
/-! loop.example/g00758/spec.l10Row -/
end Go.Proofs.Ytegcjkhebecgbaa

/- Contracts: sums and products kept at most one more than is told (the program's plus, times). -/
set_option linter.unusedVariables false
set_option linter.unusedSimpArgs false
set_option maxRecDepth 100000
namespace Go.Proofs.Ytegcjkhebecgbaa
open Go Go.Sh Go.RowKit
end Go.Proofs.Ytegcjkhebecgbaa

/- Contract: in how many ways symbols have trees of a size (the reference's l10Row). -/
set_option linter.unusedVariables false
set_option linter.unusedSimpArgs false
set_option maxRecDepth 100000
namespace Go.Sh
open Go
/-- A table of counts in memory: nonterminal, from and to, size. -/
structure TabR (w : World) (X : Option Addr) (nons n m : Nat) (t : Nat → Nat → Nat → Nat → Nat) : Prop where
  ptr : 0 < nons → X = some (ad X)
  row : ∀ A, A < nons → ∃ Y c, w.cell? ((ad X).add A) = some (.slice Y (n * n) c) ∧ Y = some (ad Y) ∧ ∀ i j, i < n → j < n → ∃ Z z, w.cell? ((ad Y).add (i * n + j)) = some (.slice Z (m + 1) z) ∧ Z = some (ad Z) ∧ ∀ k, k ≤ m → w.cell? ((ad Z).add k) = some (.int .i64 (t A i j k))
theorem TabR.gr {w w' : World} {X : Option Addr} {nons n m : Nat} {t : Nat → Nat → Nat → Nat → Nat} (h : TabR w X nons n m t) (g : Gr w w') : TabR w' X nons n m t := ⟨h.ptr, fun A hA => by
  obtain ⟨Y, c, h1, h2, h3⟩ := h.row A hA
  refine ⟨Y, c, g.cell h1, h2, fun i j hi hj => ?_⟩
  obtain ⟨Z, z, h4, h5, h6⟩ := h3 i j hi hj
  exact ⟨Z, z, g.cell h4, h5, fun k hk => g.cell (h6 k hk)⟩⟩
end Go.Sh
namespace Go.Proofs.Ytegcjkhebecgbaa
open Go Go.Sh Go.RowKit
end Go.Proofs.Ytegcjkhebecgbaa

/- A family of slices of numbers that are owned (their heads lie elsewhere). -/
set_option linter.unusedVariables false
set_option linter.unusedSimpArgs false
set_option maxRecDepth 100000
namespace Go.Sh
open Go
structure Fam (e : Nat) (w : World) (B : Nat) (ls : List (List Int)) (ps : Nat → Option Addr × Nat) : Prop where
  own : ∀ j, j < ls.length → Own e w B (ps j).1 (ps j).2 (rgt ls j)
  two : ∀ i j, i < ls.length → j < ls.length → i ≠ j → blk (ps i).1 = none ∨ blk (ps i).1 ≠ blk (ps j).1
def FootL (ps : Nat → Option Addr × Nat) (n q : Nat) : Prop := ∃ l, l < n ∧ blk (ps l).1 = some q
section
variable {e B B' : Nat} {w w' w0 : World} {ls : List (List Int)} {ps : Nat → Option Addr × Nat} {L : List Thing}
theorem Fam.same (h : Fam e w B ls ps) (hs : ∀ q, FootL ps ls.length q → w'.heap[q]? = w.heap[q]?) : Fam e w' B ls ps :=
  ⟨fun j hj => Row.same (h.own j hj) fun q hq => hs q ⟨j, hj, hq⟩, h.two⟩
theorem Fam.up (h : Fam e w B ls ps) (hs : ∀ q, FootL ps ls.length q → B' ≤ q) : Fam e w B' ls ps :=
  ⟨fun j hj => Row.up (h.own j hj) fun q hq => hs q ⟨j, hj, hq⟩, h.two⟩
theorem Fam.mono (h : Fam e w B ls ps) (hb : B' ≤ B) : Fam e w B' ls ps := ⟨fun j hj => Row.mono (h.own j hj) hb, h.two⟩
theorem Fam.foot (h : Fam e w B ls ps) {q : Nat} (hq : FootL ps ls.length q) : B ≤ q ∧ q < w.heap.size := by
  obtain ⟨l, hl, hq⟩ := hq
  exact Row.ge (h.own l hl) hq
end
end Go.Sh
namespace Go.Proofs.Ytegcjkhebecgbaa
open Go Go.Sh Go.RowKit
end Go.Proofs.Ytegcjkhebecgbaa

/- A table of counts: heads and leaves. -/
set_option linter.unusedVariables false
set_option linter.unusedSimpArgs false
set_option maxRecDepth 100000
namespace Go.Sh
open Go
/-- Where a leaf of a table stands. -/
def idxT (n A i j : Nat) : Nat := A * (n * n) + (i * n + j)
theorem idxT_lt {nons n A i j : Nat} (hA : A < nons) (hi : i < n) (hj : j < n) : idxT n A i j < nons * (n * n) := by
  have h1 := place_lt hi hj
  have h2 : (A + 1) * (n * n) ≤ nons * (n * n) := Nat.mul_le_mul_right _ hA
  rw [Nat.add_mul] at h2
  unfold idxT
  omega
theorem idxT_inj {n A i j A' i' j' : Nat} (hi : i < n) (hj : j < n) (hi' : i' < n) (hj' : j' < n) (h : idxT n A i j = idxT n A' i' j') : A = A' ∧ i = i' ∧ j = j' := by
  have h1 := place_lt hi hj
  have h2 := place_lt hi' hj'
  have hn : 0 < n := by omega
  have hnn : 0 < n * n := Nat.mul_pos hn hn
  unfold idxT at h
  have e1 : A = A' := by
    have := congrArg (· / (n * n)) h
    simp only [Nat.mul_comm _ (n * n), Nat.mul_add_div hnn, Nat.div_eq_of_lt h1, Nat.div_eq_of_lt h2, Nat.add_zero] at this
    exact this
  subst e1
  have h3 : i * n + j = i' * n + j' := by omega
  have e2 : i = i' := by
    have := congrArg (· / n) h3
    simp only [Nat.mul_comm _ n, Nat.mul_add_div hn, Nat.div_eq_of_lt hj, Nat.div_eq_of_lt hj', Nat.add_zero] at this
    exact this
  subst e2
  exact ⟨rfl, rfl, by omega⟩
theorem rgt_put {ls : List (List Int)} {i j : Nat} {l : List Int} (hi : i < ls.length) : rgt (ls.set i l) j = if j = i then l else rgt ls j := by
  simp only [rgt, List.getD_eq_getElem?_getD, List.getElem?_set]
  by_cases hij : i = j
  · subst hij
    simp [hi]
  · rw [if_neg hij, if_neg (fun e => hij e.symm)]
theorem getD_put {l : List Int} {i j : Nat} {x : Int} (hi : i < l.length) : (l.set i x).getD j 0 = if j = i then x else l.getD j 0 := by
  simp only [List.getD_eq_getElem?_getD, List.getElem?_set]
  by_cases hij : i = j
  · subst hij
    simp [hi]
  · rw [if_neg hij, if_neg (fun e => hij e.symm)]
structure LeafT (ls : List (List Int)) (nons n m : Nat) (t : Nat → Nat → Nat → Nat → Nat) : Prop where
  len : ls.length = nons * (n * n)
  row : ∀ A i j, A < nons → i < n → j < n → (rgt ls (idxT n A i j)).length = m + 1
  val : ∀ A i j k, A < nons → i < n → j < n → k ≤ m → (rgt ls (idxT n A i j)).getD k 0 = (t A i j k : Int)
theorem LeafT.congr {ls : List (List Int)} {nons n m : Nat} {t t' : Nat → Nat → Nat → Nat → Nat} (h : LeafT ls nons n m t) (he : ∀ A i j k, A < nons → i < n → j < n → k ≤ m → t' A i j k = t A i j k) : LeafT ls nons n m t' :=
  ⟨h.len, h.row, fun A i j k hA hi hj hk => by rw [h.val A i j k hA hi hj hk, he A i j k hA hi hj hk]⟩
theorem LeafT.put {ls : List (List Int)} {nons n m : Nat} {t t' : Nat → Nat → Nat → Nat → Nat} (h : LeafT ls nons n m t) {A i j k v : Nat} (hA : A < nons) (hi : i < n) (hj : j < n) (hk : k ≤ m) (h1 : t' A i j k = v)
    (h2 : ∀ A' i' j' k', A' < nons → i' < n → j' < n → k' ≤ m → ¬ (A' = A ∧ i' = i ∧ j' = j ∧ k' = k) → t' A' i' j' k' = t A' i' j' k') : LeafT (ls.set (idxT n A i j) ((rgt ls (idxT n A i j)).set k (v : Int))) nons n m t' := by
  have hlt : idxT n A i j < ls.length := by rw [h.len]; exact idxT_lt hA hi hj
  refine ⟨by rw [List.length_set]; exact h.len, fun A' i' j' hA' hi' hj' => ?_, fun A' i' j' k' hA' hi' hj' hk' => ?_⟩
  · rw [rgt_put hlt]
    split
    · rw [List.length_set]; exact h.row A i j hA hi hj
    · exact h.row A' i' j' hA' hi' hj'
  · rw [rgt_put hlt]
    split
    · rename_i he
      obtain ⟨rfl, rfl, rfl⟩ := idxT_inj hi' hj' hi hj he
      rw [getD_put (by rw [h.row _ _ _ hA hi hj]; omega)]
      split
      · rename_i hkk
        subst hkk
        rw [h1]
      · rename_i hkk
        rw [h.val _ _ _ _ hA hi hj hk', h2 _ _ _ _ hA hi hj hk' (fun hh => hkk hh.2.2.2)]
    · rename_i he
      rw [h.val _ _ _ _ hA' hi' hj' hk', h2 _ _ _ _ hA' hi' hj' hk' (fun hh => he (by rw [hh.1, hh.2.1, hh.2.2.1]))]
structure HeadT (hs : List (List Value)) (ps : Nat → Option Addr × Nat) (nons n m : Nat) : Prop where
  len : hs.length = nons
  row : ∀ A, A < nons → (vls hs A).length = n * n
  val : ∀ A p, A < nons → p < n * n → (vls hs A)[p]? = some (.slice (ps (A * (n * n) + p)).1 (m + 1) (ps (A * (n * n) + p)).2)
section
variable {e e1 e2 nons n m c B1 B2 : Nat} {w : World} {X : Option Addr} {hs : List (List Value)} {hp ps : Nat → Option Addr × Nat} {ls : List (List Int)} {t : Nat → Nat → Nat → Nat → Nat}
end
end Go.Sh

/- Contract: the program's numbers of trees by size (trees, rest). -/
set_option linter.unusedVariables false
set_option linter.unusedSimpArgs false
set_option maxRecDepth 100000
namespace Go.Sh
open Go
def keyV (a b c d : Nat) : Value := .agg #[.int .i64 (a : Int), .int .i64 (b : Int), .int .i64 (c : Int), .int .i64 (d : Int), .int .i64 0]
theorem keyV_inj {a b c d a' b' c' d' : Nat} (h : keyV a b c d = keyV a' b' c' d') : a = a' ∧ b = b' ∧ c = c' ∧ d = d' := by
  simp only [keyV, Value.agg.injEq, Array.mk.injEq, List.cons.injEq, Value.int.injEq, true_and, and_true, Int.natCast_inj] at h
  exact h
/-- What the memory holds. -/
def GoodC (M : Nat) (rs : List RuleL) (ws : List Int) (key v : Value) : Prop :=
  ∃ q p i j s : Nat, q ≤ 16 ∧ p ≤ 4 ∧ i ≤ 10 ∧ j ≤ 10 ∧ s ≤ 20 ∧ key = keyV (q * 5 + p) i j s ∧ v = .int .i64 ((min M (cntR (cntC rs ws) ws ((rul rs q).2.drop p) i j s) : Nat) : Int)
theorem GoodC.get {M : Nat} {rs : List RuleL} {ws : List Int} {q p i j s : Nat} {v : Value} (hp : p ≤ 4) (h : GoodC M rs ws (keyV (q * 5 + p) i j s) v) : v = .int .i64 ((min M (cntR (cntC rs ws) ws ((rul rs q).2.drop p) i j s) : Nat) : Int) := by
  obtain ⟨q', p', i', j', s', h1, h2, h3, h4, h5, h6, rfl⟩ := h
  obtain ⟨e1, rfl, rfl, rfl⟩ := keyV_inj h6
  obtain ⟨rfl, rfl⟩ : q = q' ∧ p = p' := by omega
  rfl
theorem rd_buildA {P : Program} {S : WS} {k : Value → Prop} {t e n sz by' : Nat} {z : Value} {qs : List (Nat × Value)} {cells : Array Value} {m : Nat} (ht : P.underlying t = some (.array n e)) (he : szOf P e m) (H : Inf P t z sz by') (hf : Instr.fill (fun i => some (i * m, m)) z.cells qs = some cells) : Rd P S (sBuild t qs) k = k (.agg cells) := rd_eq fun w _ => by
  obtain ⟨i, hi, hz, _, _⟩ := H
  have e0 : (zeroValue t).run P w = .ok z w := by simp [zeroValue, run_info hi, hz]
  simp only [sBuild, Instr.build, Sem.run_bind, e0, Result.andThen, run_underlying ht, run_size he, hf]
  rfl
end Go.Sh
namespace Go.Proofs.Ytegcjkhebecgbaa
open Go Go.Sh Go.RowKit Go.WideMaps
end Go.Proofs.Ytegcjkhebecgbaa
