/- Texts of this repository put together: ShE1, ShE2, ShE4, ShE5, ShU2, ShH6, Bm, ShJ0, ShU4, ShU5, ShU6, ShY1, ShX1, ShX2, ShY2, ShZ1, ShD1, ShE3, ShD2. -/
import Derived.Test.YtegcjkhebecgbaaKDerivesc
import Derived.Test.YtegcjkhebecgbaaKDerivesb
import Derived.Test.YtegcjkhebecgbaaProg
import Derived.Test.YtegcjkhebecgbaaKDerivesa

/- What is known and stays so; the laws' own small functions: big, sameInts, sameLists, containsList, sameRules, sameGrammar, has. -/
set_option linter.unusedVariables false
set_option linter.unusedSimpArgs false
set_option maxRecDepth 100000
namespace Go.Sh
open Go
/-- Facts that hold in each world to come. -/
def Kn (w : World) (L : List (World → Prop)) : Prop := ∀ (i : Nat) (P : World → Prop), L[i]? = some P → ∀ w', Gr w w' → P w'
section
variable {w w' : World} {L : List (World → Prop)} {P : World → Prop}
theorem Kn.step (H : Kn w L) (g : Gr w w') : Kn w' L := fun i P hi w'' g' => H i P hi w'' (gr_trans g g')
theorem Kn.drew (H : Kn w L) : Kn w.drew L := H.step (gr_drew w)
theorem Kn.get (H : Kn w L) (i : Nat) (hi : L[i]? = some P) : P w := H i P hi w (Gr.refl w)
theorem Kn.nil (w : World) : Kn w [fun w' => Gr w w'] := fun i P hi w' g => by
  match i, hi with
  | 0, hi => obtain rfl := Option.some.inj hi; exact g
  | i + 1, hi => simp at hi
theorem Kn.add (H : Kn w L) (h : ∀ w', Gr w w' → P w') : Kn w (L ++ [P]) := fun i Q hi w' g => by
  rw [List.getElem?_append] at hi
  split at hi
  · exact H i Q hi w' g
  · rename_i hn
    match hk : i - L.length, hi with
    | 0, hi => simp at hi; subst hi; exact h w' g
    | k + 1, hi => simp at hi
end
abbrev kI (X : Option Addr) (xs : List Int) (c : Nat) : World → Prop := fun w => Ints w X xs ∧ xs.length ≤ c
abbrev kG (Y : Option Addr) (cy : Nat) (rs : List RuleL) : World → Prop := fun w => rs.length ≤ cy ∧ RulesF (fun _ => True) w Y rs
abbrev kS (X : Option Addr) (ls : List (List Int)) : World → Prop := fun w => Intss w X ls
abbrev kB (b : Nat) (cs : List Value) (t : TypeId) : World → Prop := fun w => Box w b cs t
section
variable {w w' : World} {L : List (World → Prop)}
theorem Kn.addI (H : Kn w L) {X : Option Addr} {xs : List Int} {c : Nat} (h : Ints w X xs) (hc : xs.length ≤ c) : Kn w (L ++ [kI X xs c]) := H.add fun w' g => ⟨h.gr g, hc⟩
theorem Kn.addG (H : Kn w L) {Y : Option Addr} {cy : Nat} {rs : List RuleL} (hc : rs.length ≤ cy) (h : RulesF (fun _ => True) w Y rs) : Kn w (L ++ [kG Y cy rs]) := H.add fun w' g => ⟨hc, h.gr g⟩
theorem Kn.addS (H : Kn w L) {X : Option Addr} {ls : List (List Int)} (h : Intss w X ls) : Kn w (L ++ [kS X ls]) := H.add fun w' g => h.gr g
theorem Kn.addB (H : Kn w L) {b : Nat} {cs : List Value} {t : TypeId} (h : Box w b cs t) : Kn w (L ++ [kB b cs t]) := H.add fun w' g => h.gr g
theorem gvK {Y : Option Addr} {cy : Nat} {gm : Gram} (h : kG Y cy gm.rules w) : GramV (fun _ => True) w (.agg #[.int .i64 gm.nons, .int .i64 gm.toks, .slice Y gm.rules.length cy]) gm := ⟨Y, cy, rfl, h.1, h.2⟩
end
/-- A box filled at once. -/
theorem do_new {P : Program} {k : Value → World → Prop} {w : World} {L : List (World → Prop)} {t sz by' : Nat} {z : Value} {cs : List Value} (H : Kn w L) (I : Inf P t z sz by') (hs : szOf P t sz) (hz : z.cells.size = sz) (hl : cs.length = sz) (h1 : cs.all Value.oneCell' = true) (hv : (Value.agg cs.toArray).cells = cs.toArray)
    (h : ∀ b w', Kn w' (L ++ [kB b cs t]) → k (.pointer (some ⟨b, 0, none⟩)) w') : Do P (sAlloc t) (fun p w1 => Do P (sStore t p (.agg cs.toArray)) (fun _ w2 => k p w2) w1) w := by
  refine do_alloc_of I fun b w1 g1 hb B1 => ?_
  refine do_store (n := sz) hs (by rw [hv]; simpa using hl) (fun u hu => ?_) B1 (by simp [hz]) fun w2 g2 _ B2 => ?_
  · rw [hv] at hu
    exact List.all_eq_true.1 h1 u (by simpa using hu)
  · have g : Gr w w2 := gr_mod g1 g2 fun q hq => by
      obtain rfl := Option.some.inj hq
      exact hb
    refine h b w2 ((H.step g).addB ?_)
    have e : List.take 0 z.cells.toList ++ (Value.agg cs.toArray).cells.toList ++ List.drop (0 + sz) z.cells.toList = cs := by
      rw [hv, List.drop_eq_nil_of_le (by simp [hz])]
      simp
    rw [← e]
    exact B2
end Go.Sh
namespace Go.Proofs.Ytegcjkhebecgbaa
open Go Go.Sh Go.RowKit
theorem big_c {w : World} {X Y : Option Addr} {n m c d : Nat} (hn : n ≤ 9223372036854775807) (hm : m ≤ 9223372036854775807) {k : Value → World → Prop} (hk : ∀ b, k (.bool b) w) :
    CallK Try.prog 15 [.slice X n c, .slice Y m d] k w := by
  refine enter15 ?_
  unfold S15
  simp only [bin_add, bin_sub, bin_mul, bin_eql, bin_neq, bin_lss, bin_leq, bin_gtr, bin_geq, un_not, un_neg, pick_true, pick_false, extract_two_0, extract_two_1, nilCheck_pointer, cond_true', cond_false', guard_tt, guard_ff, guard_tf, guard_ft, guard_undef, seqQ_normal, seqQ_ret, seqQ_exit, blockQ_ret, blockQ_normal, blockQ_exit, bodyQ_ret, bodyQ_normal, resK_nil, resK_tmp, ite_T, ite_F, upd_at, add_plain, add_zero', Nat.reduceEqDiff, len22, len24, len27, len35, fa26_0, fa26_1, fa26_2, fa33_0, fa33_1, fa114_0, fa114_1, fa114_2]
  by_cases h : (1048576 : Int) < n
  · simp only [h, decide_true, bin_add, bin_sub, bin_mul, bin_eql, bin_neq, bin_lss, bin_leq, bin_gtr, bin_geq, un_not, un_neg, pick_true, pick_false, extract_two_0, extract_two_1, nilCheck_pointer, cond_true', cond_false', guard_tt, guard_ff, guard_tf, guard_ft, guard_undef, seqQ_normal, seqQ_ret, seqQ_exit, blockQ_ret, blockQ_normal, blockQ_exit, bodyQ_ret, bodyQ_normal, resK_nil, resK_tmp, ite_T, ite_F, upd_at, add_plain, add_zero', Nat.reduceEqDiff, len22, len24, len27, len35, fa26_0, fa26_1, fa26_2, fa33_0, fa33_1, fa114_0, fa114_1, fa114_2]
    exact hk _
  · simp only [h, decide_false, bin_add, bin_sub, bin_mul, bin_eql, bin_neq, bin_lss, bin_leq, bin_gtr, bin_geq, un_not, un_neg, pick_true, pick_false, extract_two_0, extract_two_1, nilCheck_pointer, cond_true', cond_false', guard_tt, guard_ff, guard_tf, guard_ft, guard_undef, seqQ_normal, seqQ_ret, seqQ_exit, blockQ_ret, blockQ_normal, blockQ_exit, bodyQ_ret, bodyQ_normal, resK_nil, resK_tmp, ite_T, ite_F, upd_at, add_plain, add_zero', Nat.reduceEqDiff, len22, len24, len27, len35, fa26_0, fa26_1, fa26_2, fa33_0, fa33_1, fa114_0, fa114_1, fa114_2]
    exact hk _
theorem sameInts_c {w : World} {X Y : Option Addr} {c d : Nat} {xs ys : List Int} (hx : Ints w X xs) (hy : Ints w Y ys) {k : Value → World → Prop} (hk : ∀ w', Gr w w' → k (.bool (decide (xs = ys))) w') :
    CallK Try.prog 34 [.slice X xs.length c, .slice Y ys.length d] k w := by
  refine enter34 ?_
  unfold S34
  simp only [bin_add, bin_sub, bin_mul, bin_eql, bin_neq, bin_lss, bin_leq, bin_gtr, bin_geq, un_not, un_neg, pick_true, pick_false, extract_two_0, extract_two_1, nilCheck_pointer, cond_true', cond_false', guard_tt, guard_ff, guard_tf, guard_ft, guard_undef, seqQ_normal, seqQ_ret, seqQ_exit, blockQ_ret, blockQ_normal, blockQ_exit, bodyQ_ret, bodyQ_normal, resK_nil, resK_tmp, ite_T, ite_F, upd_at, add_plain, add_zero', Nat.reduceEqDiff, len22, len24, len27, len35, fa26_0, fa26_1, fa26_2, fa33_0, fa33_1, fa114_0, fa114_1, fa114_2]
  by_cases hl : xs.length = ys.length
  · simp only [Int.ofNat_inj, hl, decide_true, Bool.not_true, bin_add, bin_sub, bin_mul, bin_eql, bin_neq, bin_lss, bin_leq, bin_gtr, bin_geq, un_not, un_neg, pick_true, pick_false, extract_two_0, extract_two_1, nilCheck_pointer, cond_true', cond_false', guard_tt, guard_ff, guard_tf, guard_ft, guard_undef, seqQ_normal, seqQ_ret, seqQ_exit, blockQ_ret, blockQ_normal, blockQ_exit, bodyQ_ret, bodyQ_normal, resK_nil, resK_tmp, ite_T, ite_F, upd_at, add_plain, add_zero', Nat.reduceEqDiff, len22, len24, len27, len35, fa26_0, fa26_1, fa26_2, fa33_0, fa33_1, fa114_0, fa114_1, fa114_2]
    rw [← hl]
    refine loop_to xs.length 0 (fun i f w' => i ≤ xs.length ∧ f 13 = .int .i64 i ∧ Gr w w' ∧ xs.take i = ys.take i) ⟨Nat.zero_le _, rfl, Gr.refl w, rfl⟩ ?_
    rintro i f w1 N hag ⟨hi, h13, hg, hpre⟩ hN
    have h0 : f 0 = .slice X xs.length c := hag 0 (by decide)
    have h1 : f 1 = .slice Y xs.length d := hag 1 (by decide)
    have h12 : f 12 = .int .i64 xs.length := hag 12 (by decide)
    simp only [h0, h1, h12, h13, bin_add, bin_sub, bin_mul, bin_eql, bin_neq, bin_lss, bin_leq, bin_gtr, bin_geq, un_not, un_neg, pick_true, pick_false, extract_two_0, extract_two_1, nilCheck_pointer, cond_true', cond_false', guard_tt, guard_ff, guard_tf, guard_ft, guard_undef, seqQ_normal, seqQ_ret, seqQ_exit, blockQ_ret, blockQ_normal, blockQ_exit, bodyQ_ret, bodyQ_normal, resK_nil, resK_tmp, ite_T, ite_F, upd_at, add_plain, add_zero', Nat.reduceEqDiff, len22, len24, len27, len35, fa26_0, fa26_1, fa26_2, fa33_0, fa33_1, fa114_0, fa114_1, fa114_2]
    by_cases hlt : i < xs.length
    · have hlt' : (i : Int) < xs.length := by omega
      have := hx.le
      simp only [hlt', decide_true, bin_add, bin_sub, bin_mul, bin_eql, bin_neq, bin_lss, bin_leq, bin_gtr, bin_geq, un_not, un_neg, pick_true, pick_false, extract_two_0, extract_two_1, nilCheck_pointer, cond_true', cond_false', guard_tt, guard_ff, guard_tf, guard_ft, guard_undef, seqQ_normal, seqQ_ret, seqQ_exit, blockQ_ret, blockQ_normal, blockQ_exit, bodyQ_ret, bodyQ_normal, resK_nil, resK_tmp, ite_T, ite_F, upd_at, add_plain, add_zero', Nat.reduceEqDiff, len22, len24, len27, len35, fa26_0, fa26_1, fa26_2, fa33_0, fa33_1, fa114_0, fa114_1, fa114_2]
      rw [ixn27 hx.ptr hlt, ld3 ((hx.gr (gr_trans hg (gr_drew w1))).cell i hlt), ixn27 (hl ▸ hy.ptr) hlt, ld3 ((hy.gr (gr_trans hg (gr_drew w1))).cell i (by omega))]
      simp only [bin_add, bin_sub, bin_mul, bin_eql, bin_neq, bin_lss, bin_leq, bin_gtr, bin_geq, un_not, un_neg, pick_true, pick_false, extract_two_0, extract_two_1, nilCheck_pointer, cond_true', cond_false', guard_tt, guard_ff, guard_tf, guard_ft, guard_undef, seqQ_normal, seqQ_ret, seqQ_exit, blockQ_ret, blockQ_normal, blockQ_exit, bodyQ_ret, bodyQ_normal, resK_nil, resK_tmp, ite_T, ite_F, upd_at, add_plain, add_zero', Nat.reduceEqDiff, len22, len24, len27, len35, fa26_0, fa26_1, fa26_2, fa33_0, fa33_1, fa114_0, fa114_1, fa114_2]
      by_cases he : xs.getD i 0 = ys.getD i 0
      · simp only [he, decide_true, Bool.not_true, bin_add, bin_sub, bin_mul, bin_eql, bin_neq, bin_lss, bin_leq, bin_gtr, bin_geq, un_not, un_neg, pick_true, pick_false, extract_two_0, extract_two_1, nilCheck_pointer, cond_true', cond_false', guard_tt, guard_ff, guard_tf, guard_ft, guard_undef, seqQ_normal, seqQ_ret, seqQ_exit, blockQ_ret, blockQ_normal, blockQ_exit, bodyQ_ret, bodyQ_normal, resK_nil, resK_tmp, ite_T, ite_F, upd_at, add_plain, add_zero', Nat.reduceEqDiff, len22, len24, len27, len35, fa26_0, fa26_1, fa26_2, fa33_0, fa33_1, fa114_0, fa114_1, fa114_2]
        rw [i64_of (by omega) (by omega)]
        refine hN _ _ hlt ⟨by omega, rfl, gr_trans hg (gr_drew w1), ?_⟩
        rw [take_snoc hlt, take_snoc (by omega), hpre, he]
      · simp only [he, decide_false, Bool.not_false, bin_add, bin_sub, bin_mul, bin_eql, bin_neq, bin_lss, bin_leq, bin_gtr, bin_geq, un_not, un_neg, pick_true, pick_false, extract_two_0, extract_two_1, nilCheck_pointer, cond_true', cond_false', guard_tt, guard_ff, guard_tf, guard_ft, guard_undef, seqQ_normal, seqQ_ret, seqQ_exit, blockQ_ret, blockQ_normal, blockQ_exit, bodyQ_ret, bodyQ_normal, resK_nil, resK_tmp, ite_T, ite_F, upd_at, add_plain, add_zero', Nat.reduceEqDiff, len22, len24, len27, len35, fa26_0, fa26_1, fa26_2, fa33_0, fa33_1, fa114_0, fa114_1, fa114_2]
        have := hk _ (gr_trans hg (gr_drew w1))
        rwa [decide_eq_false (fun e => he (by rw [e]))] at this
    · simp only [show ¬ (i : Int) < xs.length from by omega, decide_false, bin_add, bin_sub, bin_mul, bin_eql, bin_neq, bin_lss, bin_leq, bin_gtr, bin_geq, un_not, un_neg, pick_true, pick_false, extract_two_0, extract_two_1, nilCheck_pointer, cond_true', cond_false', guard_tt, guard_ff, guard_tf, guard_ft, guard_undef, seqQ_normal, seqQ_ret, seqQ_exit, blockQ_ret, blockQ_normal, blockQ_exit, bodyQ_ret, bodyQ_normal, resK_nil, resK_tmp, ite_T, ite_F, upd_at, add_plain, add_zero', Nat.reduceEqDiff, len22, len24, len27, len35, fa26_0, fa26_1, fa26_2, fa33_0, fa33_1, fa114_0, fa114_1, fa114_2]
      have := hk _ hg
      rwa [decide_eq_true] at this
      rwa [List.take_of_length_le (by omega), List.take_of_length_le (by omega)] at hpre
  · simp only [Int.ofNat_inj, hl, decide_false, Bool.not_false, bin_add, bin_sub, bin_mul, bin_eql, bin_neq, bin_lss, bin_leq, bin_gtr, bin_geq, un_not, un_neg, pick_true, pick_false, extract_two_0, extract_two_1, nilCheck_pointer, cond_true', cond_false', guard_tt, guard_ff, guard_tf, guard_ft, guard_undef, seqQ_normal, seqQ_ret, seqQ_exit, blockQ_ret, blockQ_normal, blockQ_exit, bodyQ_ret, bodyQ_normal, resK_nil, resK_tmp, ite_T, ite_F, upd_at, add_plain, add_zero', Nat.reduceEqDiff, len22, len24, len27, len35, fa26_0, fa26_1, fa26_2, fa33_0, fa33_1, fa114_0, fa114_1, fa114_2]
    have := hk _ (Gr.refl w)
    rwa [decide_eq_false (fun e => hl (by rw [e]))] at this
theorem take_snoc_of {α : Type} {xs : List α} {i : Nat} (h : i < xs.length) : xs.take (i + 1) = xs.take i ++ [xs[i]] := by
  rw [List.take_succ_eq_append_getElem h]
theorem sameLists_c {w : World} {X Y : Option Addr} {c d : Nat} {xs ys : List (List Int)} (hx : Intss w X xs) (hy : Intss w Y ys) {k : Value → World → Prop} (hk : ∀ w', Gr w w' → k (.bool (decide (xs = ys))) w') :
    CallK Try.prog 25 [.slice X xs.length c, .slice Y ys.length d] k w := by
  refine enter25 ?_
  unfold S25
  simp only [bin_add, bin_sub, bin_mul, bin_eql, bin_neq, bin_lss, bin_leq, bin_gtr, bin_geq, un_not, un_neg, pick_true, pick_false, extract_two_0, extract_two_1, nilCheck_pointer, cond_true', cond_false', guard_tt, guard_ff, guard_tf, guard_ft, guard_undef, seqQ_normal, seqQ_ret, seqQ_exit, blockQ_ret, blockQ_normal, blockQ_exit, bodyQ_ret, bodyQ_normal, resK_nil, resK_tmp, ite_T, ite_F, upd_at, add_plain, add_zero', Nat.reduceEqDiff, len22, len24, len27, len35, fa26_0, fa26_1, fa26_2, fa33_0, fa33_1, fa114_0, fa114_1, fa114_2]
  by_cases hl : xs.length = ys.length
  · simp only [Int.ofNat_inj, hl, decide_true, Bool.not_true, bin_add, bin_sub, bin_mul, bin_eql, bin_neq, bin_lss, bin_leq, bin_gtr, bin_geq, un_not, un_neg, pick_true, pick_false, extract_two_0, extract_two_1, nilCheck_pointer, cond_true', cond_false', guard_tt, guard_ff, guard_tf, guard_ft, guard_undef, seqQ_normal, seqQ_ret, seqQ_exit, blockQ_ret, blockQ_normal, blockQ_exit, bodyQ_ret, bodyQ_normal, resK_nil, resK_tmp, ite_T, ite_F, upd_at, add_plain, add_zero', Nat.reduceEqDiff, len22, len24, len27, len35, fa26_0, fa26_1, fa26_2, fa33_0, fa33_1, fa114_0, fa114_1, fa114_2]
    rw [← hl]
    refine loop_to xs.length 0 (fun i f w' => i ≤ xs.length ∧ f 13 = .int .i64 i ∧ Gr w w' ∧ xs.take i = ys.take i) ⟨Nat.zero_le _, rfl, Gr.refl w, rfl⟩ ?_
    rintro i f w1 N hag ⟨hi, h13, hg, hpre⟩ hN
    have h0 : f 0 = .slice X xs.length c := hag 0 (by decide)
    have h1 : f 1 = .slice Y xs.length d := hag 1 (by decide)
    have h12 : f 12 = .int .i64 xs.length := hag 12 (by decide)
    simp only [h0, h1, h12, h13, bin_add, bin_sub, bin_mul, bin_eql, bin_neq, bin_lss, bin_leq, bin_gtr, bin_geq, un_not, un_neg, pick_true, pick_false, extract_two_0, extract_two_1, nilCheck_pointer, cond_true', cond_false', guard_tt, guard_ff, guard_tf, guard_ft, guard_undef, seqQ_normal, seqQ_ret, seqQ_exit, blockQ_ret, blockQ_normal, blockQ_exit, bodyQ_ret, bodyQ_normal, resK_nil, resK_tmp, ite_T, ite_F, upd_at, add_plain, add_zero', Nat.reduceEqDiff, len22, len24, len27, len35, fa26_0, fa26_1, fa26_2, fa33_0, fa33_1, fa114_0, fa114_1, fa114_2]
    by_cases hlt : i < xs.length
    · have hlt' : (i : Int) < xs.length := by omega
      have := hx.le
      simp only [hlt', decide_true, bin_add, bin_sub, bin_mul, bin_eql, bin_neq, bin_lss, bin_leq, bin_gtr, bin_geq, un_not, un_neg, pick_true, pick_false, extract_two_0, extract_two_1, nilCheck_pointer, cond_true', cond_false', guard_tt, guard_ff, guard_tf, guard_ft, guard_undef, seqQ_normal, seqQ_ret, seqQ_exit, blockQ_ret, blockQ_normal, blockQ_exit, bodyQ_ret, bodyQ_normal, resK_nil, resK_tmp, ite_T, ite_F, upd_at, add_plain, add_zero', Nat.reduceEqDiff, len22, len24, len27, len35, fa26_0, fa26_1, fa26_2, fa33_0, fa33_1, fa114_0, fa114_1, fa114_2]
      have g' := gr_trans hg (gr_drew w1)
      obtain ⟨U, cu, u1, u2, u3⟩ := (hx.gr g').row i hlt
      obtain ⟨V, cv, v1, v2, v3⟩ := (hy.gr g').row i (by omega)
      rw [ixn35 hx.ptr hlt, ld27 u1, ixn35 (hl ▸ hy.ptr) hlt, ld27 v1]
      refine sameInts_c u3 v3 fun w2 g2 => ?_
      simp only [bin_add, bin_sub, bin_mul, bin_eql, bin_neq, bin_lss, bin_leq, bin_gtr, bin_geq, un_not, un_neg, pick_true, pick_false, extract_two_0, extract_two_1, nilCheck_pointer, cond_true', cond_false', guard_tt, guard_ff, guard_tf, guard_ft, guard_undef, seqQ_normal, seqQ_ret, seqQ_exit, blockQ_ret, blockQ_normal, blockQ_exit, bodyQ_ret, bodyQ_normal, resK_nil, resK_tmp, ite_T, ite_F, upd_at, add_plain, add_zero', Nat.reduceEqDiff, len22, len24, len27, len35, fa26_0, fa26_1, fa26_2, fa33_0, fa33_1, fa114_0, fa114_1, fa114_2]
      have e1 : rgt xs i = xs[i] := rgt_eq hlt
      have e2 : rgt ys i = ys[i] := rgt_eq (by omega)
      by_cases he : rgt xs i = rgt ys i
      · simp only [he, decide_true, Bool.not_true, bin_add, bin_sub, bin_mul, bin_eql, bin_neq, bin_lss, bin_leq, bin_gtr, bin_geq, un_not, un_neg, pick_true, pick_false, extract_two_0, extract_two_1, nilCheck_pointer, cond_true', cond_false', guard_tt, guard_ff, guard_tf, guard_ft, guard_undef, seqQ_normal, seqQ_ret, seqQ_exit, blockQ_ret, blockQ_normal, blockQ_exit, bodyQ_ret, bodyQ_normal, resK_nil, resK_tmp, ite_T, ite_F, upd_at, add_plain, add_zero', Nat.reduceEqDiff, len22, len24, len27, len35, fa26_0, fa26_1, fa26_2, fa33_0, fa33_1, fa114_0, fa114_1, fa114_2]
        rw [i64_of (by omega) (by omega)]
        refine hN _ _ hlt ⟨by omega, rfl, gr_trans g' g2, ?_⟩
        rw [take_snoc_of hlt, take_snoc_of (by omega), hpre, ← e1, ← e2, he]
      · simp only [he, decide_false, Bool.not_false, bin_add, bin_sub, bin_mul, bin_eql, bin_neq, bin_lss, bin_leq, bin_gtr, bin_geq, un_not, un_neg, pick_true, pick_false, extract_two_0, extract_two_1, nilCheck_pointer, cond_true', cond_false', guard_tt, guard_ff, guard_tf, guard_ft, guard_undef, seqQ_normal, seqQ_ret, seqQ_exit, blockQ_ret, blockQ_normal, blockQ_exit, bodyQ_ret, bodyQ_normal, resK_nil, resK_tmp, ite_T, ite_F, upd_at, add_plain, add_zero', Nat.reduceEqDiff, len22, len24, len27, len35, fa26_0, fa26_1, fa26_2, fa33_0, fa33_1, fa114_0, fa114_1, fa114_2]
        have := hk _ (gr_trans g' g2)
        rwa [decide_eq_false (fun e => he (by rw [e]))] at this
    · simp only [show ¬ (i : Int) < xs.length from by omega, decide_false, bin_add, bin_sub, bin_mul, bin_eql, bin_neq, bin_lss, bin_leq, bin_gtr, bin_geq, un_not, un_neg, pick_true, pick_false, extract_two_0, extract_two_1, nilCheck_pointer, cond_true', cond_false', guard_tt, guard_ff, guard_tf, guard_ft, guard_undef, seqQ_normal, seqQ_ret, seqQ_exit, blockQ_ret, blockQ_normal, blockQ_exit, bodyQ_ret, bodyQ_normal, resK_nil, resK_tmp, ite_T, ite_F, upd_at, add_plain, add_zero', Nat.reduceEqDiff, len22, len24, len27, len35, fa26_0, fa26_1, fa26_2, fa33_0, fa33_1, fa114_0, fa114_1, fa114_2]
      have := hk _ hg
      rwa [decide_eq_true] at this
      rwa [List.take_of_length_le (by omega), List.take_of_length_le (by omega)] at hpre
  · simp only [Int.ofNat_inj, hl, decide_false, Bool.not_false, bin_add, bin_sub, bin_mul, bin_eql, bin_neq, bin_lss, bin_leq, bin_gtr, bin_geq, un_not, un_neg, pick_true, pick_false, extract_two_0, extract_two_1, nilCheck_pointer, cond_true', cond_false', guard_tt, guard_ff, guard_tf, guard_ft, guard_undef, seqQ_normal, seqQ_ret, seqQ_exit, blockQ_ret, blockQ_normal, blockQ_exit, bodyQ_ret, bodyQ_normal, resK_nil, resK_tmp, ite_T, ite_F, upd_at, add_plain, add_zero', Nat.reduceEqDiff, len22, len24, len27, len35, fa26_0, fa26_1, fa26_2, fa33_0, fa33_1, fa114_0, fa114_1, fa114_2]
    have := hk _ (Gr.refl w)
    rwa [decide_eq_false (fun e => hl (by rw [e]))] at this
theorem containsList_c {w : World} {X Y : Option Addr} {c d : Nat} {ls : List (List Int)} {ys : List Int} (hx : Intss w X ls) (hy : Ints w Y ys) {k : Value → World → Prop} (hk : ∀ w', Gr w w' → k (.bool (decide (ys ∈ ls))) w') :
    CallK Try.prog 21 [.slice X ls.length c, .slice Y ys.length d] k w := by
  refine enter21 ?_
  unfold S21
  simp only [bin_add, bin_sub, bin_mul, bin_eql, bin_neq, bin_lss, bin_leq, bin_gtr, bin_geq, un_not, un_neg, pick_true, pick_false, extract_two_0, extract_two_1, nilCheck_pointer, cond_true', cond_false', guard_tt, guard_ff, guard_tf, guard_ft, guard_undef, seqQ_normal, seqQ_ret, seqQ_exit, blockQ_ret, blockQ_normal, blockQ_exit, bodyQ_ret, bodyQ_normal, resK_nil, resK_tmp, ite_T, ite_F, upd_at, add_plain, add_zero', Nat.reduceEqDiff, len22, len24, len27, len35, fa26_0, fa26_1, fa26_2, fa33_0, fa33_1, fa114_0, fa114_1, fa114_2]
  refine loop_to ls.length 0 (fun i f w' => i ≤ ls.length ∧ f 9 = .int .i64 i ∧ Gr w w' ∧ ys ∉ ls.take i) ⟨Nat.zero_le _, rfl, Gr.refl w, by simp⟩ ?_
  rintro i f w1 N hag ⟨hi, h9, hg, hpre⟩ hN
  have h1 : f 1 = .slice Y ys.length d := hag 1 (by decide)
  have h7 : f 7 = .slice X ls.length c := hag 7 (by decide)
  have h8 : f 8 = .int .i64 ls.length := hag 8 (by decide)
  simp only [h1, h7, h8, h9, bin_add, bin_sub, bin_mul, bin_eql, bin_neq, bin_lss, bin_leq, bin_gtr, bin_geq, un_not, un_neg, pick_true, pick_false, extract_two_0, extract_two_1, nilCheck_pointer, cond_true', cond_false', guard_tt, guard_ff, guard_tf, guard_ft, guard_undef, seqQ_normal, seqQ_ret, seqQ_exit, blockQ_ret, blockQ_normal, blockQ_exit, bodyQ_ret, bodyQ_normal, resK_nil, resK_tmp, ite_T, ite_F, upd_at, add_plain, add_zero', Nat.reduceEqDiff, len22, len24, len27, len35, fa26_0, fa26_1, fa26_2, fa33_0, fa33_1, fa114_0, fa114_1, fa114_2]
  by_cases hlt : i < ls.length
  · have hlt' : (i : Int) < ls.length := by omega
    have := hx.le
    simp only [hlt', decide_true, bin_add, bin_sub, bin_mul, bin_eql, bin_neq, bin_lss, bin_leq, bin_gtr, bin_geq, un_not, un_neg, pick_true, pick_false, extract_two_0, extract_two_1, nilCheck_pointer, cond_true', cond_false', guard_tt, guard_ff, guard_tf, guard_ft, guard_undef, seqQ_normal, seqQ_ret, seqQ_exit, blockQ_ret, blockQ_normal, blockQ_exit, bodyQ_ret, bodyQ_normal, resK_nil, resK_tmp, ite_T, ite_F, upd_at, add_plain, add_zero', Nat.reduceEqDiff, len22, len24, len27, len35, fa26_0, fa26_1, fa26_2, fa33_0, fa33_1, fa114_0, fa114_1, fa114_2]
    obtain ⟨U, cu, u1, u2, u3⟩ := (hx.gr hg).row i hlt
    rw [ixn35 hx.ptr hlt, ld27 u1]
    refine sameInts_c (hy.gr hg) u3 fun w2 g2 => ?_
    have e1 : rgt ls i = ls[i] := rgt_eq hlt
    by_cases he : ys = rgt ls i
    · simp only [he, decide_true, bin_add, bin_sub, bin_mul, bin_eql, bin_neq, bin_lss, bin_leq, bin_gtr, bin_geq, un_not, un_neg, pick_true, pick_false, extract_two_0, extract_two_1, nilCheck_pointer, cond_true', cond_false', guard_tt, guard_ff, guard_tf, guard_ft, guard_undef, seqQ_normal, seqQ_ret, seqQ_exit, blockQ_ret, blockQ_normal, blockQ_exit, bodyQ_ret, bodyQ_normal, resK_nil, resK_tmp, ite_T, ite_F, upd_at, add_plain, add_zero', Nat.reduceEqDiff, len22, len24, len27, len35, fa26_0, fa26_1, fa26_2, fa33_0, fa33_1, fa114_0, fa114_1, fa114_2]
      have := hk _ (gr_trans hg g2)
      rwa [decide_eq_true (by rw [he, e1]; exact List.getElem_mem hlt)] at this
    · simp only [he, decide_false, bin_add, bin_sub, bin_mul, bin_eql, bin_neq, bin_lss, bin_leq, bin_gtr, bin_geq, un_not, un_neg, pick_true, pick_false, extract_two_0, extract_two_1, nilCheck_pointer, cond_true', cond_false', guard_tt, guard_ff, guard_tf, guard_ft, guard_undef, seqQ_normal, seqQ_ret, seqQ_exit, blockQ_ret, blockQ_normal, blockQ_exit, bodyQ_ret, bodyQ_normal, resK_nil, resK_tmp, ite_T, ite_F, upd_at, add_plain, add_zero', Nat.reduceEqDiff, len22, len24, len27, len35, fa26_0, fa26_1, fa26_2, fa33_0, fa33_1, fa114_0, fa114_1, fa114_2]
      rw [i64_of (by omega) (by omega)]
      refine hN _ _ hlt ⟨by omega, rfl, gr_trans hg g2, ?_⟩
      rw [take_snoc_of hlt, List.mem_append, List.mem_singleton, ← e1]
      exact fun h => h.elim hpre he
  · simp only [show ¬ (i : Int) < ls.length from by omega, decide_false, bin_add, bin_sub, bin_mul, bin_eql, bin_neq, bin_lss, bin_leq, bin_gtr, bin_geq, un_not, un_neg, pick_true, pick_false, extract_two_0, extract_two_1, nilCheck_pointer, cond_true', cond_false', guard_tt, guard_ff, guard_tf, guard_ft, guard_undef, seqQ_normal, seqQ_ret, seqQ_exit, blockQ_ret, blockQ_normal, blockQ_exit, bodyQ_ret, bodyQ_normal, resK_nil, resK_tmp, ite_T, ite_F, upd_at, add_plain, add_zero', Nat.reduceEqDiff, len22, len24, len27, len35, fa26_0, fa26_1, fa26_2, fa33_0, fa33_1, fa114_0, fa114_1, fa114_2]
    have := hk _ hg
    rw [List.take_of_length_le (by omega)] at hpre
    rwa [decide_eq_false hpre] at this
end Go.Proofs.Ytegcjkhebecgbaa

/- Contracts: Derives, InLanguage, SequenceDerives. -/
set_option linter.unusedVariables false
set_option linter.unusedSimpArgs false
set_option maxRecDepth 100000
namespace Go.Sh
open Go
def wordG (gm : Gram) (ws : List Int) : Bool := goodG gm && wordB gm.toks ws
noncomputable def derV (gm : Gram) (non : Int) (ws : List Int) : Bool × Bool := if (wordG gm ws && inB non 0 (gm.nons - 1)) = true then (spanT gm.rules ws non.toNat 0 ws.length, true) else (false, false)
noncomputable def inLV (gm : Gram) (ws : List Int) : Bool × Bool := if wordG gm ws = true then (inL gm.rules ws, true) else (false, false)
def formB (gm : Gram) (xs : List Int) (m : Int) : Bool := decide ((xs.length : Int) ≤ m) && allB xs (-gm.toks) (gm.nons - 1)
noncomputable def seqV (gm : Gram) (xs ws : List Int) : Bool × Bool := if (wordG gm ws && formB gm xs 4) = true then (fitsT (spanT gm.rules ws) ws xs 0 ws.length, true) else (false, false)
theorem formB_all {gm : Gram} {xs : List Int} {m : Int} (h : formB gm xs m = true) : (xs.length : Int) ≤ m ∧ ∀ x ∈ xs, -gm.toks ≤ x ∧ x ≤ gm.nons - 1 := by
  simp only [formB, allB, inB, Bool.and_eq_true, decide_eq_true_eq, List.all_eq_true] at h
  exact h
theorem wordB_of {toks : Int} {ws : List Int} (h : wordB toks ws = true) : ws.length ≤ 10 ∧ ∀ t ∈ ws, 0 ≤ t ∧ t ≤ toks - 1 := by
  simp only [wordB, allB, inB, Bool.and_eq_true, decide_eq_true_eq, List.all_eq_true] at h
  exact h
end Go.Sh
namespace Go.Proofs.Ytegcjkhebecgbaa
open Go Go.Sh Go.RowKit
section
variable {w : World} {X Z Y : Option Addr} {cx cz cy : Nat} {gm : Gram} {ws xs : List Int} {k : Value → World → Prop}
abbrev grv (gm : Gram) (Y : Option Addr) (cy : Nat) : Value := .agg #[.int .i64 gm.nons, .int .i64 gm.toks, .slice Y gm.rules.length cy]
set_option maxHeartbeats 1600000 in
theorem implDerives_c {non : Int} (hG : kG Y cy gm.rules w) (hX : kI X ws cx w) (hk : ∀ w', Gr w w' → k (.tuple #[.bool (derV gm non ws).1, .bool (derV gm non ws).2]) w') :
    CallK Try.prog 17 [grv gm Y cy, .int .i64 non, .slice X ws.length cx] k w := by
  refine enter17 ?_
  unfold S17
  have H := ((Kn.nil w).addG hG.1 hG.2).addI hX.1 hX.2
  refine do_box fun b1 w1 g1 hb B1 => ?_
  have H := (H.step g1).addB B1
  rw [ldB_agg agg26 sz26 rfl (H.get 3 rfl)]
  refine isGrammar_c (gvK (H.get 1 rfl)) fun w2 g => ?_
  have H := H.step g
  unfold derV wordG at hk
  cases hg : goodG gm
  · simp only [Bool.not_false, bin_add, bin_sub, bin_mul, bin_eql, bin_neq, bin_lss, bin_leq, bin_gtr, bin_geq, un_not, un_neg, pick_true, pick_false, extract_two_0, extract_two_1, nilCheck_pointer, cond_true', cond_false', guard_tt, guard_ff, guard_tf, guard_ft, guard_undef, seqQ_normal, seqQ_ret, seqQ_exit, blockQ_ret, blockQ_normal, blockQ_exit, bodyQ_ret, bodyQ_normal, resK_nil, resK_tmp, ite_T, ite_F, upd_at, add_plain, add_zero', Nat.reduceEqDiff, fa8_0, fa8_1, fa8_2, fa8_3, fa14_0, fa14_1, fa19_0, len22, len24, fa26_0, fa26_1, fa26_2, len27, fa33_0, fa33_1, len35, fa77_0, fa77_1, fa88_0, fa88_1, fa88_2, fa88_3, fa88_4, fa88_5, fa114_0, fa114_1, fa114_2, fa124_0, fa124_1, len134, len136, len154, fa156_0, fa156_1, fa156_2, fa156_3, fa156_4, fa156_5, fa156_6, fa184_0, fa184_1, fa200_0, fa200_1, fa200_2, fa200_3, fa215_0, fa215_1, fa215_2, fa215_3, fa215_4, len218, len271, fa274_0, fa274_1, fa274_2, fa303_0, fa303_1, fa303_2, fa303_3, fa314_0, fa314_1, fa314_2, fa314_3, fa314_4, fa314_5, fa314_6, fa314_7, fa314_8, fa314_9, fa314_10]
    rw [hg, Bool.false_and, Bool.false_and, if_neg Bool.false_ne_true] at hk
    exact hk _ (H.get 0 rfl)
  rw [hg, Bool.true_and] at hk
  have hn := good_nons hg
  have ht := good_toks hg
  simp only [Bool.not_true, bin_add, bin_sub, bin_mul, bin_eql, bin_neq, bin_lss, bin_leq, bin_gtr, bin_geq, un_not, un_neg, pick_true, pick_false, extract_two_0, extract_two_1, nilCheck_pointer, cond_true', cond_false', guard_tt, guard_ff, guard_tf, guard_ft, guard_undef, seqQ_normal, seqQ_ret, seqQ_exit, blockQ_ret, blockQ_normal, blockQ_exit, bodyQ_ret, bodyQ_normal, resK_nil, resK_tmp, ite_T, ite_F, upd_at, add_plain, add_zero', Nat.reduceEqDiff, fa8_0, fa8_1, fa8_2, fa8_3, fa14_0, fa14_1, fa19_0, len22, len24, fa26_0, fa26_1, fa26_2, len27, fa33_0, fa33_1, len35, fa77_0, fa77_1, fa88_0, fa88_1, fa88_2, fa88_3, fa88_4, fa88_5, fa114_0, fa114_1, fa114_2, fa124_0, fa124_1, len134, len136, len154, fa156_0, fa156_1, fa156_2, fa156_3, fa156_4, fa156_5, fa156_6, fa184_0, fa184_1, fa200_0, fa200_1, fa200_2, fa200_3, fa215_0, fa215_1, fa215_2, fa215_3, fa215_4, len218, len271, fa274_0, fa274_1, fa274_2, fa303_0, fa303_1, fa303_2, fa303_3, fa314_0, fa314_1, fa314_2, fa314_3, fa314_4, fa314_5, fa314_6, fa314_7, fa314_8, fa314_9, fa314_10]
  rw [ldB3 (H.get 3 rfl) rfl]
  simp only [bin_add, bin_sub, bin_mul, bin_eql, bin_neq, bin_lss, bin_leq, bin_gtr, bin_geq, un_not, un_neg, pick_true, pick_false, extract_two_0, extract_two_1, nilCheck_pointer, cond_true', cond_false', guard_tt, guard_ff, guard_tf, guard_ft, guard_undef, seqQ_normal, seqQ_ret, seqQ_exit, blockQ_ret, blockQ_normal, blockQ_exit, bodyQ_ret, bodyQ_normal, resK_nil, resK_tmp, ite_T, ite_F, upd_at, add_plain, add_zero', Nat.reduceEqDiff, fa8_0, fa8_1, fa8_2, fa8_3, fa14_0, fa14_1, fa19_0, len22, len24, fa26_0, fa26_1, fa26_2, len27, fa33_0, fa33_1, len35, fa77_0, fa77_1, fa88_0, fa88_1, fa88_2, fa88_3, fa88_4, fa88_5, fa114_0, fa114_1, fa114_2, fa124_0, fa124_1, len134, len136, len154, fa156_0, fa156_1, fa156_2, fa156_3, fa156_4, fa156_5, fa156_6, fa184_0, fa184_1, fa200_0, fa200_1, fa200_2, fa200_3, fa215_0, fa215_1, fa215_2, fa215_3, fa215_4, len218, len271, fa274_0, fa274_1, fa274_2, fa303_0, fa303_1, fa303_2, fa303_3, fa314_0, fa314_1, fa314_2, fa314_3, fa314_4, fa314_5, fa314_6, fa314_7, fa314_8, fa314_9, fa314_10]
  rw [i64_of (by omega) (by omega)]
  refine in_c ?_
  simp only [bin_add, bin_sub, bin_mul, bin_eql, bin_neq, bin_lss, bin_leq, bin_gtr, bin_geq, un_not, un_neg, pick_true, pick_false, extract_two_0, extract_two_1, nilCheck_pointer, cond_true', cond_false', guard_tt, guard_ff, guard_tf, guard_ft, guard_undef, seqQ_normal, seqQ_ret, seqQ_exit, blockQ_ret, blockQ_normal, blockQ_exit, bodyQ_ret, bodyQ_normal, resK_nil, resK_tmp, ite_T, ite_F, upd_at, add_plain, add_zero', Nat.reduceEqDiff, fa8_0, fa8_1, fa8_2, fa8_3, fa14_0, fa14_1, fa19_0, len22, len24, fa26_0, fa26_1, fa26_2, len27, fa33_0, fa33_1, len35, fa77_0, fa77_1, fa88_0, fa88_1, fa88_2, fa88_3, fa88_4, fa88_5, fa114_0, fa114_1, fa114_2, fa124_0, fa124_1, len134, len136, len154, fa156_0, fa156_1, fa156_2, fa156_3, fa156_4, fa156_5, fa156_6, fa184_0, fa184_1, fa200_0, fa200_1, fa200_2, fa200_3, fa215_0, fa215_1, fa215_2, fa215_3, fa215_4, len218, len271, fa274_0, fa274_1, fa274_2, fa303_0, fa303_1, fa303_2, fa303_3, fa314_0, fa314_1, fa314_2, fa314_3, fa314_4, fa314_5, fa314_6, fa314_7, fa314_8, fa314_9, fa314_10]
  cases hi : inB non 0 (gm.nons - 1)
  · simp only [Bool.not_false, bin_add, bin_sub, bin_mul, bin_eql, bin_neq, bin_lss, bin_leq, bin_gtr, bin_geq, un_not, un_neg, pick_true, pick_false, extract_two_0, extract_two_1, nilCheck_pointer, cond_true', cond_false', guard_tt, guard_ff, guard_tf, guard_ft, guard_undef, seqQ_normal, seqQ_ret, seqQ_exit, blockQ_ret, blockQ_normal, blockQ_exit, bodyQ_ret, bodyQ_normal, resK_nil, resK_tmp, ite_T, ite_F, upd_at, add_plain, add_zero', Nat.reduceEqDiff, fa8_0, fa8_1, fa8_2, fa8_3, fa14_0, fa14_1, fa19_0, len22, len24, fa26_0, fa26_1, fa26_2, len27, fa33_0, fa33_1, len35, fa77_0, fa77_1, fa88_0, fa88_1, fa88_2, fa88_3, fa88_4, fa88_5, fa114_0, fa114_1, fa114_2, fa124_0, fa124_1, len134, len136, len154, fa156_0, fa156_1, fa156_2, fa156_3, fa156_4, fa156_5, fa156_6, fa184_0, fa184_1, fa200_0, fa200_1, fa200_2, fa200_3, fa215_0, fa215_1, fa215_2, fa215_3, fa215_4, len218, len271, fa274_0, fa274_1, fa274_2, fa303_0, fa303_1, fa303_2, fa303_3, fa314_0, fa314_1, fa314_2, fa314_3, fa314_4, fa314_5, fa314_6, fa314_7, fa314_8, fa314_9, fa314_10]
    rw [hi, Bool.and_false, if_neg Bool.false_ne_true] at hk
    exact hk _ (H.get 0 rfl)
  rw [hi, Bool.and_true] at hk
  simp only [inB, Bool.and_eq_true, decide_eq_true_eq] at hi
  simp only [Bool.not_true, bin_add, bin_sub, bin_mul, bin_eql, bin_neq, bin_lss, bin_leq, bin_gtr, bin_geq, un_not, un_neg, pick_true, pick_false, extract_two_0, extract_two_1, nilCheck_pointer, cond_true', cond_false', guard_tt, guard_ff, guard_tf, guard_ft, guard_undef, seqQ_normal, seqQ_ret, seqQ_exit, blockQ_ret, blockQ_normal, blockQ_exit, bodyQ_ret, bodyQ_normal, resK_nil, resK_tmp, ite_T, ite_F, upd_at, add_plain, add_zero', Nat.reduceEqDiff, fa8_0, fa8_1, fa8_2, fa8_3, fa14_0, fa14_1, fa19_0, len22, len24, fa26_0, fa26_1, fa26_2, len27, fa33_0, fa33_1, len35, fa77_0, fa77_1, fa88_0, fa88_1, fa88_2, fa88_3, fa88_4, fa88_5, fa114_0, fa114_1, fa114_2, fa124_0, fa124_1, len134, len136, len154, fa156_0, fa156_1, fa156_2, fa156_3, fa156_4, fa156_5, fa156_6, fa184_0, fa184_1, fa200_0, fa200_1, fa200_2, fa200_3, fa215_0, fa215_1, fa215_2, fa215_3, fa215_4, len218, len271, fa274_0, fa274_1, fa274_2, fa303_0, fa303_1, fa303_2, fa303_3, fa314_0, fa314_1, fa314_2, fa314_3, fa314_4, fa314_5, fa314_6, fa314_7, fa314_8, fa314_9, fa314_10]
  rw [ldB3 (H.get 3 rfl) rfl]
  refine isWord_c (H.get 2 rfl).1 rfl (by omega) (by omega) fun w3 g => ?_
  have H := H.step g
  cases hw : wordB gm.toks ws
  · simp only [Bool.not_false, bin_add, bin_sub, bin_mul, bin_eql, bin_neq, bin_lss, bin_leq, bin_gtr, bin_geq, un_not, un_neg, pick_true, pick_false, extract_two_0, extract_two_1, nilCheck_pointer, cond_true', cond_false', guard_tt, guard_ff, guard_tf, guard_ft, guard_undef, seqQ_normal, seqQ_ret, seqQ_exit, blockQ_ret, blockQ_normal, blockQ_exit, bodyQ_ret, bodyQ_normal, resK_nil, resK_tmp, ite_T, ite_F, upd_at, add_plain, add_zero', Nat.reduceEqDiff, fa8_0, fa8_1, fa8_2, fa8_3, fa14_0, fa14_1, fa19_0, len22, len24, fa26_0, fa26_1, fa26_2, len27, fa33_0, fa33_1, len35, fa77_0, fa77_1, fa88_0, fa88_1, fa88_2, fa88_3, fa88_4, fa88_5, fa114_0, fa114_1, fa114_2, fa124_0, fa124_1, len134, len136, len154, fa156_0, fa156_1, fa156_2, fa156_3, fa156_4, fa156_5, fa156_6, fa184_0, fa184_1, fa200_0, fa200_1, fa200_2, fa200_3, fa215_0, fa215_1, fa215_2, fa215_3, fa215_4, len218, len271, fa274_0, fa274_1, fa274_2, fa303_0, fa303_1, fa303_2, fa303_3, fa314_0, fa314_1, fa314_2, fa314_3, fa314_4, fa314_5, fa314_6, fa314_7, fa314_8, fa314_9, fa314_10]
    rw [hw, if_neg Bool.false_ne_true] at hk
    exact hk _ (H.get 0 rfl)
  rw [hw, if_pos rfl] at hk
  simp only [Bool.not_true, bin_add, bin_sub, bin_mul, bin_eql, bin_neq, bin_lss, bin_leq, bin_gtr, bin_geq, un_not, un_neg, pick_true, pick_false, extract_two_0, extract_two_1, nilCheck_pointer, cond_true', cond_false', guard_tt, guard_ff, guard_tf, guard_ft, guard_undef, seqQ_normal, seqQ_ret, seqQ_exit, blockQ_ret, blockQ_normal, blockQ_exit, bodyQ_ret, bodyQ_normal, resK_nil, resK_tmp, ite_T, ite_F, upd_at, add_plain, add_zero', Nat.reduceEqDiff, fa8_0, fa8_1, fa8_2, fa8_3, fa14_0, fa14_1, fa19_0, len22, len24, fa26_0, fa26_1, fa26_2, len27, fa33_0, fa33_1, len35, fa77_0, fa77_1, fa88_0, fa88_1, fa88_2, fa88_3, fa88_4, fa88_5, fa114_0, fa114_1, fa114_2, fa124_0, fa124_1, len134, len136, len154, fa156_0, fa156_1, fa156_2, fa156_3, fa156_4, fa156_5, fa156_6, fa184_0, fa184_1, fa200_0, fa200_1, fa200_2, fa200_3, fa215_0, fa215_1, fa215_2, fa215_3, fa215_4, len218, len271, fa274_0, fa274_1, fa274_2, fa303_0, fa303_1, fa303_2, fa303_3, fa314_0, fa314_1, fa314_2, fa314_3, fa314_4, fa314_5, fa314_6, fa314_7, fa314_8, fa314_9, fa314_10]
  have hW := wordB_of hw
  rw [ldB_agg agg26 sz26 rfl (H.get 3 rfl)]
  refine spans_c (gvK (H.get 1 rfl)) hg (H.get 2 rfl).1 rfl hW.1 (fun t ht' => by have := hW.2 t ht'; omega) fun w4 bT HT => ?_
  have H := H.step HT.gr
  simp only [bin_add, bin_sub, bin_mul, bin_eql, bin_neq, bin_lss, bin_leq, bin_gtr, bin_geq, un_not, un_neg, pick_true, pick_false, extract_two_0, extract_two_1, nilCheck_pointer, cond_true', cond_false', guard_tt, guard_ff, guard_tf, guard_ft, guard_undef, seqQ_normal, seqQ_ret, seqQ_exit, blockQ_ret, blockQ_normal, blockQ_exit, bodyQ_ret, bodyQ_normal, resK_nil, resK_tmp, ite_T, ite_F, upd_at, add_plain, add_zero', Nat.reduceEqDiff, fa8_0, fa8_1, fa8_2, fa8_3, fa14_0, fa14_1, fa19_0, len22, len24, fa26_0, fa26_1, fa26_2, len27, fa33_0, fa33_1, len35, fa77_0, fa77_1, fa88_0, fa88_1, fa88_2, fa88_3, fa88_4, fa88_5, fa114_0, fa114_1, fa114_2, fa124_0, fa124_1, len134, len136, len154, fa156_0, fa156_1, fa156_2, fa156_3, fa156_4, fa156_5, fa156_6, fa184_0, fa184_1, fa200_0, fa200_1, fa200_2, fa200_3, fa215_0, fa215_1, fa215_2, fa215_3, fa215_4, len218, len271, fa274_0, fa274_1, fa274_2, fa303_0, fa303_1, fa303_2, fa303_3, fa314_0, fa314_1, fa314_2, fa314_3, fa314_4, fa314_5, fa314_6, fa314_7, fa314_8, fa314_9, fa314_10]
  refine rdi (ixa122 (by omega) (by omega)) ?_
  refine rdi (ixa121 (by decide) (by decide)) ?_
  refine rdi (ixa120 (by omega) (by omega)) ?_
  simp only [Int.toNat_natCast, bin_add, bin_sub, bin_mul, bin_eql, bin_neq, bin_lss, bin_leq, bin_gtr, bin_geq, un_not, un_neg, pick_true, pick_false, extract_two_0, extract_two_1, nilCheck_pointer, cond_true', cond_false', guard_tt, guard_ff, guard_tf, guard_ft, guard_undef, seqQ_normal, seqQ_ret, seqQ_exit, blockQ_ret, blockQ_normal, blockQ_exit, bodyQ_ret, bodyQ_normal, resK_nil, resK_tmp, ite_T, ite_F, upd_at, add_plain, add_zero', Nat.reduceEqDiff, fa8_0, fa8_1, fa8_2, fa8_3, fa14_0, fa14_1, fa19_0, len22, len24, fa26_0, fa26_1, fa26_2, len27, fa33_0, fa33_1, len35, fa77_0, fa77_1, fa88_0, fa88_1, fa88_2, fa88_3, fa88_4, fa88_5, fa114_0, fa114_1, fa114_2, fa124_0, fa124_1, len134, len136, len154, fa156_0, fa156_1, fa156_2, fa156_3, fa156_4, fa156_5, fa156_6, fa184_0, fa184_1, fa200_0, fa200_1, fa200_2, fa200_3, fa215_0, fa215_1, fa215_2, fa215_3, fa215_4, len218, len271, fa274_0, fa274_1, fa274_2, fa303_0, fa303_1, fa303_2, fa303_3, fa314_0, fa314_1, fa314_2, fa314_3, fa314_4, fa314_5, fa314_6, fa314_7, fa314_8, fa314_9, fa314_10]
  have hoff : 0 + (0 + 1) + non.toNat * 121 + Int.toNat 0 * 11 + ws.length = non.toNat * 121 + 0 * 11 + ws.length + 1 := by
    rw [show Int.toNat 0 = 0 from rfl]
    omega
  rw [hoff]
  refine rdi (ldB4 (HT.box 0 rfl) (cellsT_at (by omega) (by decide) (by omega))) ?_
  exact hk _ (H.get 0 rfl)
set_option maxHeartbeats 1600000 in
theorem implInLanguage_c (hG : kG Y cy gm.rules w) (hX : kI X ws cx w) (hk : ∀ w', Gr w w' → k (.tuple #[.bool (inLV gm ws).1, .bool (inLV gm ws).2]) w') :
    CallK Try.prog 26 [grv gm Y cy, .slice X ws.length cx] k w := by
  refine enter26 ?_
  unfold S26
  have H := ((Kn.nil w).addG hG.1 hG.2).addI hX.1 hX.2
  refine do_box fun b1 w1 g1 hb B1 => ?_
  have H := (H.step g1).addB B1
  rw [ldB_agg agg26 sz26 rfl (H.get 3 rfl)]
  refine isGrammar_c (gvK (H.get 1 rfl)) fun w2 g => ?_
  have H := H.step g
  unfold inLV wordG at hk
  cases hg : goodG gm
  · simp only [Bool.not_false, bin_add, bin_sub, bin_mul, bin_eql, bin_neq, bin_lss, bin_leq, bin_gtr, bin_geq, un_not, un_neg, pick_true, pick_false, extract_two_0, extract_two_1, nilCheck_pointer, cond_true', cond_false', guard_tt, guard_ff, guard_tf, guard_ft, guard_undef, seqQ_normal, seqQ_ret, seqQ_exit, blockQ_ret, blockQ_normal, blockQ_exit, bodyQ_ret, bodyQ_normal, resK_nil, resK_tmp, ite_T, ite_F, upd_at, add_plain, add_zero', Nat.reduceEqDiff, fa8_0, fa8_1, fa8_2, fa8_3, fa14_0, fa14_1, fa19_0, len22, len24, fa26_0, fa26_1, fa26_2, len27, fa33_0, fa33_1, len35, fa77_0, fa77_1, fa88_0, fa88_1, fa88_2, fa88_3, fa88_4, fa88_5, fa114_0, fa114_1, fa114_2, fa124_0, fa124_1, len134, len136, len154, fa156_0, fa156_1, fa156_2, fa156_3, fa156_4, fa156_5, fa156_6, fa184_0, fa184_1, fa200_0, fa200_1, fa200_2, fa200_3, fa215_0, fa215_1, fa215_2, fa215_3, fa215_4, len218, len271, fa274_0, fa274_1, fa274_2, fa303_0, fa303_1, fa303_2, fa303_3, fa314_0, fa314_1, fa314_2, fa314_3, fa314_4, fa314_5, fa314_6, fa314_7, fa314_8, fa314_9, fa314_10]
    rw [hg, Bool.false_and, if_neg Bool.false_ne_true] at hk
    exact hk _ (H.get 0 rfl)
  rw [hg, Bool.true_and] at hk
  have hn := good_nons hg
  have ht := good_toks hg
  simp only [Bool.not_true, bin_add, bin_sub, bin_mul, bin_eql, bin_neq, bin_lss, bin_leq, bin_gtr, bin_geq, un_not, un_neg, pick_true, pick_false, extract_two_0, extract_two_1, nilCheck_pointer, cond_true', cond_false', guard_tt, guard_ff, guard_tf, guard_ft, guard_undef, seqQ_normal, seqQ_ret, seqQ_exit, blockQ_ret, blockQ_normal, blockQ_exit, bodyQ_ret, bodyQ_normal, resK_nil, resK_tmp, ite_T, ite_F, upd_at, add_plain, add_zero', Nat.reduceEqDiff, fa8_0, fa8_1, fa8_2, fa8_3, fa14_0, fa14_1, fa19_0, len22, len24, fa26_0, fa26_1, fa26_2, len27, fa33_0, fa33_1, len35, fa77_0, fa77_1, fa88_0, fa88_1, fa88_2, fa88_3, fa88_4, fa88_5, fa114_0, fa114_1, fa114_2, fa124_0, fa124_1, len134, len136, len154, fa156_0, fa156_1, fa156_2, fa156_3, fa156_4, fa156_5, fa156_6, fa184_0, fa184_1, fa200_0, fa200_1, fa200_2, fa200_3, fa215_0, fa215_1, fa215_2, fa215_3, fa215_4, len218, len271, fa274_0, fa274_1, fa274_2, fa303_0, fa303_1, fa303_2, fa303_3, fa314_0, fa314_1, fa314_2, fa314_3, fa314_4, fa314_5, fa314_6, fa314_7, fa314_8, fa314_9, fa314_10]
  rw [ldB3 (H.get 3 rfl) rfl]
  refine isWord_c (H.get 2 rfl).1 rfl (by omega) (by omega) fun w3 g => ?_
  have H := H.step g
  cases hw : wordB gm.toks ws
  · simp only [Bool.not_false, bin_add, bin_sub, bin_mul, bin_eql, bin_neq, bin_lss, bin_leq, bin_gtr, bin_geq, un_not, un_neg, pick_true, pick_false, extract_two_0, extract_two_1, nilCheck_pointer, cond_true', cond_false', guard_tt, guard_ff, guard_tf, guard_ft, guard_undef, seqQ_normal, seqQ_ret, seqQ_exit, blockQ_ret, blockQ_normal, blockQ_exit, bodyQ_ret, bodyQ_normal, resK_nil, resK_tmp, ite_T, ite_F, upd_at, add_plain, add_zero', Nat.reduceEqDiff, fa8_0, fa8_1, fa8_2, fa8_3, fa14_0, fa14_1, fa19_0, len22, len24, fa26_0, fa26_1, fa26_2, len27, fa33_0, fa33_1, len35, fa77_0, fa77_1, fa88_0, fa88_1, fa88_2, fa88_3, fa88_4, fa88_5, fa114_0, fa114_1, fa114_2, fa124_0, fa124_1, len134, len136, len154, fa156_0, fa156_1, fa156_2, fa156_3, fa156_4, fa156_5, fa156_6, fa184_0, fa184_1, fa200_0, fa200_1, fa200_2, fa200_3, fa215_0, fa215_1, fa215_2, fa215_3, fa215_4, len218, len271, fa274_0, fa274_1, fa274_2, fa303_0, fa303_1, fa303_2, fa303_3, fa314_0, fa314_1, fa314_2, fa314_3, fa314_4, fa314_5, fa314_6, fa314_7, fa314_8, fa314_9, fa314_10]
    rw [hw, if_neg Bool.false_ne_true] at hk
    exact hk _ (H.get 0 rfl)
  rw [hw, if_pos rfl] at hk
  simp only [Bool.not_true, bin_add, bin_sub, bin_mul, bin_eql, bin_neq, bin_lss, bin_leq, bin_gtr, bin_geq, un_not, un_neg, pick_true, pick_false, extract_two_0, extract_two_1, nilCheck_pointer, cond_true', cond_false', guard_tt, guard_ff, guard_tf, guard_ft, guard_undef, seqQ_normal, seqQ_ret, seqQ_exit, blockQ_ret, blockQ_normal, blockQ_exit, bodyQ_ret, bodyQ_normal, resK_nil, resK_tmp, ite_T, ite_F, upd_at, add_plain, add_zero', Nat.reduceEqDiff, fa8_0, fa8_1, fa8_2, fa8_3, fa14_0, fa14_1, fa19_0, len22, len24, fa26_0, fa26_1, fa26_2, len27, fa33_0, fa33_1, len35, fa77_0, fa77_1, fa88_0, fa88_1, fa88_2, fa88_3, fa88_4, fa88_5, fa114_0, fa114_1, fa114_2, fa124_0, fa124_1, len134, len136, len154, fa156_0, fa156_1, fa156_2, fa156_3, fa156_4, fa156_5, fa156_6, fa184_0, fa184_1, fa200_0, fa200_1, fa200_2, fa200_3, fa215_0, fa215_1, fa215_2, fa215_3, fa215_4, len218, len271, fa274_0, fa274_1, fa274_2, fa303_0, fa303_1, fa303_2, fa303_3, fa314_0, fa314_1, fa314_2, fa314_3, fa314_4, fa314_5, fa314_6, fa314_7, fa314_8, fa314_9, fa314_10]
  have hW := wordB_of hw
  rw [ldB_agg agg26 sz26 rfl (H.get 3 rfl)]
  refine spans_c (gvK (H.get 1 rfl)) hg (H.get 2 rfl).1 rfl hW.1 (fun t ht' => by have := hW.2 t ht'; omega) fun w4 bT HT => ?_
  have H := H.step HT.gr
  simp only [bin_add, bin_sub, bin_mul, bin_eql, bin_neq, bin_lss, bin_leq, bin_gtr, bin_geq, un_not, un_neg, pick_true, pick_false, extract_two_0, extract_two_1, nilCheck_pointer, cond_true', cond_false', guard_tt, guard_ff, guard_tf, guard_ft, guard_undef, seqQ_normal, seqQ_ret, seqQ_exit, blockQ_ret, blockQ_normal, blockQ_exit, bodyQ_ret, bodyQ_normal, resK_nil, resK_tmp, ite_T, ite_F, upd_at, add_plain, add_zero', Nat.reduceEqDiff, fa8_0, fa8_1, fa8_2, fa8_3, fa14_0, fa14_1, fa19_0, len22, len24, fa26_0, fa26_1, fa26_2, len27, fa33_0, fa33_1, len35, fa77_0, fa77_1, fa88_0, fa88_1, fa88_2, fa88_3, fa88_4, fa88_5, fa114_0, fa114_1, fa114_2, fa124_0, fa124_1, len134, len136, len154, fa156_0, fa156_1, fa156_2, fa156_3, fa156_4, fa156_5, fa156_6, fa184_0, fa184_1, fa200_0, fa200_1, fa200_2, fa200_3, fa215_0, fa215_1, fa215_2, fa215_3, fa215_4, len218, len271, fa274_0, fa274_1, fa274_2, fa303_0, fa303_1, fa303_2, fa303_3, fa314_0, fa314_1, fa314_2, fa314_3, fa314_4, fa314_5, fa314_6, fa314_7, fa314_8, fa314_9, fa314_10]
  refine rdi (ixa122 (by decide) (by decide)) ?_
  refine rdi (ixa121 (by decide) (by decide)) ?_
  refine rdi (ixa120 (by omega) (by omega)) ?_
  simp only [Int.toNat_natCast, bin_add, bin_sub, bin_mul, bin_eql, bin_neq, bin_lss, bin_leq, bin_gtr, bin_geq, un_not, un_neg, pick_true, pick_false, extract_two_0, extract_two_1, nilCheck_pointer, cond_true', cond_false', guard_tt, guard_ff, guard_tf, guard_ft, guard_undef, seqQ_normal, seqQ_ret, seqQ_exit, blockQ_ret, blockQ_normal, blockQ_exit, bodyQ_ret, bodyQ_normal, resK_nil, resK_tmp, ite_T, ite_F, upd_at, add_plain, add_zero', Nat.reduceEqDiff, fa8_0, fa8_1, fa8_2, fa8_3, fa14_0, fa14_1, fa19_0, len22, len24, fa26_0, fa26_1, fa26_2, len27, fa33_0, fa33_1, len35, fa77_0, fa77_1, fa88_0, fa88_1, fa88_2, fa88_3, fa88_4, fa88_5, fa114_0, fa114_1, fa114_2, fa124_0, fa124_1, len134, len136, len154, fa156_0, fa156_1, fa156_2, fa156_3, fa156_4, fa156_5, fa156_6, fa184_0, fa184_1, fa200_0, fa200_1, fa200_2, fa200_3, fa215_0, fa215_1, fa215_2, fa215_3, fa215_4, len218, len271, fa274_0, fa274_1, fa274_2, fa303_0, fa303_1, fa303_2, fa303_3, fa314_0, fa314_1, fa314_2, fa314_3, fa314_4, fa314_5, fa314_6, fa314_7, fa314_8, fa314_9, fa314_10]
  have hoff : 0 + (0 + 1) + Int.toNat 0 * 121 + Int.toNat 0 * 11 + ws.length = 0 * 121 + 0 * 11 + ws.length + 1 := by
    rw [show Int.toNat 0 = 0 from rfl]
    omega
  rw [hoff]
  refine rdi (ldB4 (HT.box 0 rfl) (cellsT_at (by decide) (by decide) (by omega))) ?_
  exact hk _ (H.get 0 rfl)
theorem l4InN_c {n : Nat} {non : Int} (hG : kG Y cy gm.rules w) (hX : kI X ws cx w) (hg : goodG gm = true) (hl : ws.length ≤ 10) (hn : non = n) (hn' : non < gm.nons) (hk : ∀ w', Gr w w' → k (.bool (spanT gm.rules ws n 0 ws.length)) w') :
    CallK Try.prog 153 [grv gm Y cy, .int .i64 non, .slice X ws.length cx] k w := by
  subst hn
  refine enter153 ?_
  unfold S153
  have H := ((Kn.nil w).addG hG.1 hG.2).addI hX.1 hX.2
  have hn6 := good_nons hg
  refine do_box fun b1 w1 g1 hb B1 => ?_
  have H := (H.step g1).addB B1
  rw [ldB_agg agg26 sz26 rfl (H.get 3 rfl)]
  refine l4Table_c (gm := gm) (gvK (H.get 1 rfl)) hg (H.get 2 rfl).1 rfl hl fun w2 U cu nons g2 hnons hT => ?_
  have H := H.step g2
  simp only [bin_add, bin_sub, bin_mul, bin_eql, bin_neq, bin_lss, bin_leq, bin_gtr, bin_geq, un_not, un_neg, pick_true, pick_false, extract_two_0, extract_two_1, nilCheck_pointer, cond_true', cond_false', guard_tt, guard_ff, guard_tf, guard_ft, guard_undef, seqQ_normal, seqQ_ret, seqQ_exit, blockQ_ret, blockQ_normal, blockQ_exit, bodyQ_ret, bodyQ_normal, resK_nil, resK_tmp, ite_T, ite_F, upd_at, add_plain, add_zero', Nat.reduceEqDiff, fa8_0, fa8_1, fa8_2, fa8_3, fa14_0, fa14_1, fa19_0, len22, len24, fa26_0, fa26_1, fa26_2, len27, fa33_0, fa33_1, len35, fa77_0, fa77_1, fa88_0, fa88_1, fa88_2, fa88_3, fa88_4, fa88_5, fa114_0, fa114_1, fa114_2, fa124_0, fa124_1, len134, len136, len154, fa156_0, fa156_1, fa156_2, fa156_3, fa156_4, fa156_5, fa156_6, fa184_0, fa184_1, fa200_0, fa200_1, fa200_2, fa200_3, fa215_0, fa215_1, fa215_2, fa215_3, fa215_4, len218, len271, fa274_0, fa274_1, fa274_2, fa303_0, fa303_1, fa303_2, fa303_3, fa314_0, fa314_1, fa314_2, fa314_3, fa314_4, fa314_5, fa314_6, fa314_7, fa314_8, fa314_9, fa314_10]
  obtain ⟨R, cr, h1, h2, h3⟩ := hT.row n (by omega)
  have h4 := h3 0 ws.length (by omega) (by omega)
  rw [Nat.zero_mul, Nat.zero_add] at h4
  refine rdi (ixn134 hT.ptr (by omega)) (rdi (ld136 h1) ?_)
  refine rdi (ixn136 (fun _ => h2) (Nat.lt_of_lt_of_le (Nat.lt_succ_self _) (Nat.le_mul_of_pos_left _ (by omega)))) (rdi (ld4 h4) ?_)
  exact hk _ (H.get 0 rfl)
theorem specDerives_c {non : Int} (hG : kG Y cy gm.rules w) (hX : kI X ws cx w) (hk : ∀ w', Gr w w' → k (.tuple #[.bool (derV gm non ws).1, .bool (derV gm non ws).2]) w') :
    CallK Try.prog 18 [grv gm Y cy, .int .i64 non, .slice X ws.length cx] k w := by
  refine enter18 ?_
  unfold S18
  have H := ((Kn.nil w).addG hG.1 hG.2).addI hX.1 hX.2
  refine do_box fun b1 w1 g1 hb B1 => ?_
  have H := (H.step g1).addB B1
  rw [ldB_agg agg26 sz26 rfl (H.get 3 rfl)]
  refine goodWord_c (gvK (H.get 1 rfl)) (H.get 2 rfl).1 rfl fun w2 g => ?_
  have H := H.step g
  unfold derV at hk
  rw [show (goodG gm && wordB gm.toks ws) = wordG gm ws from rfl]
  cases hg : wordG gm ws
  · simp only [Bool.not_false, bin_add, bin_sub, bin_mul, bin_eql, bin_neq, bin_lss, bin_leq, bin_gtr, bin_geq, un_not, un_neg, pick_true, pick_false, extract_two_0, extract_two_1, nilCheck_pointer, cond_true', cond_false', guard_tt, guard_ff, guard_tf, guard_ft, guard_undef, seqQ_normal, seqQ_ret, seqQ_exit, blockQ_ret, blockQ_normal, blockQ_exit, bodyQ_ret, bodyQ_normal, resK_nil, resK_tmp, ite_T, ite_F, upd_at, add_plain, add_zero', Nat.reduceEqDiff, fa8_0, fa8_1, fa8_2, fa8_3, fa14_0, fa14_1, fa19_0, len22, len24, fa26_0, fa26_1, fa26_2, len27, fa33_0, fa33_1, len35, fa77_0, fa77_1, fa88_0, fa88_1, fa88_2, fa88_3, fa88_4, fa88_5, fa114_0, fa114_1, fa114_2, fa124_0, fa124_1, len134, len136, len154, fa156_0, fa156_1, fa156_2, fa156_3, fa156_4, fa156_5, fa156_6, fa184_0, fa184_1, fa200_0, fa200_1, fa200_2, fa200_3, fa215_0, fa215_1, fa215_2, fa215_3, fa215_4, len218, len271, fa274_0, fa274_1, fa274_2, fa303_0, fa303_1, fa303_2, fa303_3, fa314_0, fa314_1, fa314_2, fa314_3, fa314_4, fa314_5, fa314_6, fa314_7, fa314_8, fa314_9, fa314_10]
    rw [hg, Bool.false_and, if_neg Bool.false_ne_true] at hk
    exact hk _ (H.get 0 rfl)
  rw [hg, Bool.true_and] at hk
  obtain ⟨hg1, hw⟩ : goodG gm = true ∧ wordB gm.toks ws = true := by simpa [wordG] using hg
  have hn := good_nons hg1
  simp only [Bool.not_true, bin_add, bin_sub, bin_mul, bin_eql, bin_neq, bin_lss, bin_leq, bin_gtr, bin_geq, un_not, un_neg, pick_true, pick_false, extract_two_0, extract_two_1, nilCheck_pointer, cond_true', cond_false', guard_tt, guard_ff, guard_tf, guard_ft, guard_undef, seqQ_normal, seqQ_ret, seqQ_exit, blockQ_ret, blockQ_normal, blockQ_exit, bodyQ_ret, bodyQ_normal, resK_nil, resK_tmp, ite_T, ite_F, upd_at, add_plain, add_zero', Nat.reduceEqDiff, fa8_0, fa8_1, fa8_2, fa8_3, fa14_0, fa14_1, fa19_0, len22, len24, fa26_0, fa26_1, fa26_2, len27, fa33_0, fa33_1, len35, fa77_0, fa77_1, fa88_0, fa88_1, fa88_2, fa88_3, fa88_4, fa88_5, fa114_0, fa114_1, fa114_2, fa124_0, fa124_1, len134, len136, len154, fa156_0, fa156_1, fa156_2, fa156_3, fa156_4, fa156_5, fa156_6, fa184_0, fa184_1, fa200_0, fa200_1, fa200_2, fa200_3, fa215_0, fa215_1, fa215_2, fa215_3, fa215_4, len218, len271, fa274_0, fa274_1, fa274_2, fa303_0, fa303_1, fa303_2, fa303_3, fa314_0, fa314_1, fa314_2, fa314_3, fa314_4, fa314_5, fa314_6, fa314_7, fa314_8, fa314_9, fa314_10]
  rw [ldB3 (H.get 3 rfl) rfl]
  simp only [bin_add, bin_sub, bin_mul, bin_eql, bin_neq, bin_lss, bin_leq, bin_gtr, bin_geq, un_not, un_neg, pick_true, pick_false, extract_two_0, extract_two_1, nilCheck_pointer, cond_true', cond_false', guard_tt, guard_ff, guard_tf, guard_ft, guard_undef, seqQ_normal, seqQ_ret, seqQ_exit, blockQ_ret, blockQ_normal, blockQ_exit, bodyQ_ret, bodyQ_normal, resK_nil, resK_tmp, ite_T, ite_F, upd_at, add_plain, add_zero', Nat.reduceEqDiff, fa8_0, fa8_1, fa8_2, fa8_3, fa14_0, fa14_1, fa19_0, len22, len24, fa26_0, fa26_1, fa26_2, len27, fa33_0, fa33_1, len35, fa77_0, fa77_1, fa88_0, fa88_1, fa88_2, fa88_3, fa88_4, fa88_5, fa114_0, fa114_1, fa114_2, fa124_0, fa124_1, len134, len136, len154, fa156_0, fa156_1, fa156_2, fa156_3, fa156_4, fa156_5, fa156_6, fa184_0, fa184_1, fa200_0, fa200_1, fa200_2, fa200_3, fa215_0, fa215_1, fa215_2, fa215_3, fa215_4, len218, len271, fa274_0, fa274_1, fa274_2, fa303_0, fa303_1, fa303_2, fa303_3, fa314_0, fa314_1, fa314_2, fa314_3, fa314_4, fa314_5, fa314_6, fa314_7, fa314_8, fa314_9, fa314_10]
  rw [i64_of (by omega) (by omega)]
  refine l1In_c ?_
  simp only [bin_add, bin_sub, bin_mul, bin_eql, bin_neq, bin_lss, bin_leq, bin_gtr, bin_geq, un_not, un_neg, pick_true, pick_false, extract_two_0, extract_two_1, nilCheck_pointer, cond_true', cond_false', guard_tt, guard_ff, guard_tf, guard_ft, guard_undef, seqQ_normal, seqQ_ret, seqQ_exit, blockQ_ret, blockQ_normal, blockQ_exit, bodyQ_ret, bodyQ_normal, resK_nil, resK_tmp, ite_T, ite_F, upd_at, add_plain, add_zero', Nat.reduceEqDiff, fa8_0, fa8_1, fa8_2, fa8_3, fa14_0, fa14_1, fa19_0, len22, len24, fa26_0, fa26_1, fa26_2, len27, fa33_0, fa33_1, len35, fa77_0, fa77_1, fa88_0, fa88_1, fa88_2, fa88_3, fa88_4, fa88_5, fa114_0, fa114_1, fa114_2, fa124_0, fa124_1, len134, len136, len154, fa156_0, fa156_1, fa156_2, fa156_3, fa156_4, fa156_5, fa156_6, fa184_0, fa184_1, fa200_0, fa200_1, fa200_2, fa200_3, fa215_0, fa215_1, fa215_2, fa215_3, fa215_4, len218, len271, fa274_0, fa274_1, fa274_2, fa303_0, fa303_1, fa303_2, fa303_3, fa314_0, fa314_1, fa314_2, fa314_3, fa314_4, fa314_5, fa314_6, fa314_7, fa314_8, fa314_9, fa314_10]
  cases hi : inB non 0 (gm.nons - 1)
  · simp only [Bool.not_false, bin_add, bin_sub, bin_mul, bin_eql, bin_neq, bin_lss, bin_leq, bin_gtr, bin_geq, un_not, un_neg, pick_true, pick_false, extract_two_0, extract_two_1, nilCheck_pointer, cond_true', cond_false', guard_tt, guard_ff, guard_tf, guard_ft, guard_undef, seqQ_normal, seqQ_ret, seqQ_exit, blockQ_ret, blockQ_normal, blockQ_exit, bodyQ_ret, bodyQ_normal, resK_nil, resK_tmp, ite_T, ite_F, upd_at, add_plain, add_zero', Nat.reduceEqDiff, fa8_0, fa8_1, fa8_2, fa8_3, fa14_0, fa14_1, fa19_0, len22, len24, fa26_0, fa26_1, fa26_2, len27, fa33_0, fa33_1, len35, fa77_0, fa77_1, fa88_0, fa88_1, fa88_2, fa88_3, fa88_4, fa88_5, fa114_0, fa114_1, fa114_2, fa124_0, fa124_1, len134, len136, len154, fa156_0, fa156_1, fa156_2, fa156_3, fa156_4, fa156_5, fa156_6, fa184_0, fa184_1, fa200_0, fa200_1, fa200_2, fa200_3, fa215_0, fa215_1, fa215_2, fa215_3, fa215_4, len218, len271, fa274_0, fa274_1, fa274_2, fa303_0, fa303_1, fa303_2, fa303_3, fa314_0, fa314_1, fa314_2, fa314_3, fa314_4, fa314_5, fa314_6, fa314_7, fa314_8, fa314_9, fa314_10]
    rw [hi, if_neg Bool.false_ne_true] at hk
    exact hk _ (H.get 0 rfl)
  rw [hi, if_pos rfl] at hk
  simp only [inB, Bool.and_eq_true, decide_eq_true_eq] at hi
  simp only [Bool.not_true, bin_add, bin_sub, bin_mul, bin_eql, bin_neq, bin_lss, bin_leq, bin_gtr, bin_geq, un_not, un_neg, pick_true, pick_false, extract_two_0, extract_two_1, nilCheck_pointer, cond_true', cond_false', guard_tt, guard_ff, guard_tf, guard_ft, guard_undef, seqQ_normal, seqQ_ret, seqQ_exit, blockQ_ret, blockQ_normal, blockQ_exit, bodyQ_ret, bodyQ_normal, resK_nil, resK_tmp, ite_T, ite_F, upd_at, add_plain, add_zero', Nat.reduceEqDiff, fa8_0, fa8_1, fa8_2, fa8_3, fa14_0, fa14_1, fa19_0, len22, len24, fa26_0, fa26_1, fa26_2, len27, fa33_0, fa33_1, len35, fa77_0, fa77_1, fa88_0, fa88_1, fa88_2, fa88_3, fa88_4, fa88_5, fa114_0, fa114_1, fa114_2, fa124_0, fa124_1, len134, len136, len154, fa156_0, fa156_1, fa156_2, fa156_3, fa156_4, fa156_5, fa156_6, fa184_0, fa184_1, fa200_0, fa200_1, fa200_2, fa200_3, fa215_0, fa215_1, fa215_2, fa215_3, fa215_4, len218, len271, fa274_0, fa274_1, fa274_2, fa303_0, fa303_1, fa303_2, fa303_3, fa314_0, fa314_1, fa314_2, fa314_3, fa314_4, fa314_5, fa314_6, fa314_7, fa314_8, fa314_9, fa314_10]
  rw [ldB_agg agg26 sz26 rfl (H.get 3 rfl)]
  refine l4InN_c (n := non.toNat) (H.get 1 rfl) (H.get 2 rfl) hg1 (wordB_of hw).1 (by omega) (by omega) fun w3 g => ?_
  have H := H.step g
  exact hk _ (H.get 0 rfl)
theorem l4Form_c {m : Int} (hX : Ints w X xs) (hn : 0 ≤ gm.nons ∧ gm.nons ≤ 1000) (ht : 0 ≤ gm.toks ∧ gm.toks ≤ 1000) (hk : ∀ w', Gr w w' → k (.bool (formB gm xs m)) w') :
    CallK Try.prog 160 [grv gm Y cy, .slice X xs.length cx, .int .i64 m] k w := by
  refine enter160 ?_
  unfold S160
  refine do_box fun b1 w1 g1 hb B1 => ?_
  unfold formB at hk
  simp only [bin_add, bin_sub, bin_mul, bin_eql, bin_neq, bin_lss, bin_leq, bin_gtr, bin_geq, un_not, un_neg, pick_true, pick_false, extract_two_0, extract_two_1, nilCheck_pointer, cond_true', cond_false', guard_tt, guard_ff, guard_tf, guard_ft, guard_undef, seqQ_normal, seqQ_ret, seqQ_exit, blockQ_ret, blockQ_normal, blockQ_exit, bodyQ_ret, bodyQ_normal, resK_nil, resK_tmp, ite_T, ite_F, upd_at, add_plain, add_zero', Nat.reduceEqDiff, fa8_0, fa8_1, fa8_2, fa8_3, fa14_0, fa14_1, fa19_0, len22, len24, fa26_0, fa26_1, fa26_2, len27, fa33_0, fa33_1, len35, fa77_0, fa77_1, fa88_0, fa88_1, fa88_2, fa88_3, fa88_4, fa88_5, fa114_0, fa114_1, fa114_2, fa124_0, fa124_1, len134, len136, len154, fa156_0, fa156_1, fa156_2, fa156_3, fa156_4, fa156_5, fa156_6, fa184_0, fa184_1, fa200_0, fa200_1, fa200_2, fa200_3, fa215_0, fa215_1, fa215_2, fa215_3, fa215_4, len218, len271, fa274_0, fa274_1, fa274_2, fa303_0, fa303_1, fa303_2, fa303_3, fa314_0, fa314_1, fa314_2, fa314_3, fa314_4, fa314_5, fa314_6, fa314_7, fa314_8, fa314_9, fa314_10]
  by_cases hl : (xs.length : Int) ≤ m
  · simp only [hl, decide_true, bin_add, bin_sub, bin_mul, bin_eql, bin_neq, bin_lss, bin_leq, bin_gtr, bin_geq, un_not, un_neg, pick_true, pick_false, extract_two_0, extract_two_1, nilCheck_pointer, cond_true', cond_false', guard_tt, guard_ff, guard_tf, guard_ft, guard_undef, seqQ_normal, seqQ_ret, seqQ_exit, blockQ_ret, blockQ_normal, blockQ_exit, bodyQ_ret, bodyQ_normal, resK_nil, resK_tmp, ite_T, ite_F, upd_at, add_plain, add_zero', Nat.reduceEqDiff, fa8_0, fa8_1, fa8_2, fa8_3, fa14_0, fa14_1, fa19_0, len22, len24, fa26_0, fa26_1, fa26_2, len27, fa33_0, fa33_1, len35, fa77_0, fa77_1, fa88_0, fa88_1, fa88_2, fa88_3, fa88_4, fa88_5, fa114_0, fa114_1, fa114_2, fa124_0, fa124_1, len134, len136, len154, fa156_0, fa156_1, fa156_2, fa156_3, fa156_4, fa156_5, fa156_6, fa184_0, fa184_1, fa200_0, fa200_1, fa200_2, fa200_3, fa215_0, fa215_1, fa215_2, fa215_3, fa215_4, len218, len271, fa274_0, fa274_1, fa274_2, fa303_0, fa303_1, fa303_2, fa303_3, fa314_0, fa314_1, fa314_2, fa314_3, fa314_4, fa314_5, fa314_6, fa314_7, fa314_8, fa314_9, fa314_10]
    rw [decide_eq_true hl, Bool.true_and] at hk
    rw [ldB3 B1 rfl]
    simp only [bin_add, bin_sub, bin_mul, bin_eql, bin_neq, bin_lss, bin_leq, bin_gtr, bin_geq, un_not, un_neg, pick_true, pick_false, extract_two_0, extract_two_1, nilCheck_pointer, cond_true', cond_false', guard_tt, guard_ff, guard_tf, guard_ft, guard_undef, seqQ_normal, seqQ_ret, seqQ_exit, blockQ_ret, blockQ_normal, blockQ_exit, bodyQ_ret, bodyQ_normal, resK_nil, resK_tmp, ite_T, ite_F, upd_at, add_plain, add_zero', Nat.reduceEqDiff, fa8_0, fa8_1, fa8_2, fa8_3, fa14_0, fa14_1, fa19_0, len22, len24, fa26_0, fa26_1, fa26_2, len27, fa33_0, fa33_1, len35, fa77_0, fa77_1, fa88_0, fa88_1, fa88_2, fa88_3, fa88_4, fa88_5, fa114_0, fa114_1, fa114_2, fa124_0, fa124_1, len134, len136, len154, fa156_0, fa156_1, fa156_2, fa156_3, fa156_4, fa156_5, fa156_6, fa184_0, fa184_1, fa200_0, fa200_1, fa200_2, fa200_3, fa215_0, fa215_1, fa215_2, fa215_3, fa215_4, len218, len271, fa274_0, fa274_1, fa274_2, fa303_0, fa303_1, fa303_2, fa303_3, fa314_0, fa314_1, fa314_2, fa314_3, fa314_4, fa314_5, fa314_6, fa314_7, fa314_8, fa314_9, fa314_10]
    rw [i64_of (by omega) (by omega)]
    rw [ldB3 B1 rfl]
    simp only [bin_add, bin_sub, bin_mul, bin_eql, bin_neq, bin_lss, bin_leq, bin_gtr, bin_geq, un_not, un_neg, pick_true, pick_false, extract_two_0, extract_two_1, nilCheck_pointer, cond_true', cond_false', guard_tt, guard_ff, guard_tf, guard_ft, guard_undef, seqQ_normal, seqQ_ret, seqQ_exit, blockQ_ret, blockQ_normal, blockQ_exit, bodyQ_ret, bodyQ_normal, resK_nil, resK_tmp, ite_T, ite_F, upd_at, add_plain, add_zero', Nat.reduceEqDiff, fa8_0, fa8_1, fa8_2, fa8_3, fa14_0, fa14_1, fa19_0, len22, len24, fa26_0, fa26_1, fa26_2, len27, fa33_0, fa33_1, len35, fa77_0, fa77_1, fa88_0, fa88_1, fa88_2, fa88_3, fa88_4, fa88_5, fa114_0, fa114_1, fa114_2, fa124_0, fa124_1, len134, len136, len154, fa156_0, fa156_1, fa156_2, fa156_3, fa156_4, fa156_5, fa156_6, fa184_0, fa184_1, fa200_0, fa200_1, fa200_2, fa200_3, fa215_0, fa215_1, fa215_2, fa215_3, fa215_4, len218, len271, fa274_0, fa274_1, fa274_2, fa303_0, fa303_1, fa303_2, fa303_3, fa314_0, fa314_1, fa314_2, fa314_3, fa314_4, fa314_5, fa314_6, fa314_7, fa314_8, fa314_9, fa314_10]
    rw [i64_of (by omega) (by omega)]
    refine l1All_c (hX.gr g1) fun w2 g2 => ?_
    exact hk _ (gr_trans g1 g2)
  · simp only [hl, decide_false, bin_add, bin_sub, bin_mul, bin_eql, bin_neq, bin_lss, bin_leq, bin_gtr, bin_geq, un_not, un_neg, pick_true, pick_false, extract_two_0, extract_two_1, nilCheck_pointer, cond_true', cond_false', guard_tt, guard_ff, guard_tf, guard_ft, guard_undef, seqQ_normal, seqQ_ret, seqQ_exit, blockQ_ret, blockQ_normal, blockQ_exit, bodyQ_ret, bodyQ_normal, resK_nil, resK_tmp, ite_T, ite_F, upd_at, add_plain, add_zero', Nat.reduceEqDiff, fa8_0, fa8_1, fa8_2, fa8_3, fa14_0, fa14_1, fa19_0, len22, len24, fa26_0, fa26_1, fa26_2, len27, fa33_0, fa33_1, len35, fa77_0, fa77_1, fa88_0, fa88_1, fa88_2, fa88_3, fa88_4, fa88_5, fa114_0, fa114_1, fa114_2, fa124_0, fa124_1, len134, len136, len154, fa156_0, fa156_1, fa156_2, fa156_3, fa156_4, fa156_5, fa156_6, fa184_0, fa184_1, fa200_0, fa200_1, fa200_2, fa200_3, fa215_0, fa215_1, fa215_2, fa215_3, fa215_4, len218, len271, fa274_0, fa274_1, fa274_2, fa303_0, fa303_1, fa303_2, fa303_3, fa314_0, fa314_1, fa314_2, fa314_3, fa314_4, fa314_5, fa314_6, fa314_7, fa314_8, fa314_9, fa314_10]
    rw [decide_eq_false hl, Bool.false_and] at hk
    exact hk _ g1
theorem allSym_form {gm : Gram} {xs : List Int} : (decide ((xs.length : Int) ≤ 4) && xs.all (symB gm.nons gm.toks)) = formB gm xs 4 := rfl
set_option maxHeartbeats 1600000 in
theorem implSeq_c (hG : kG Y cy gm.rules w) (hZ : kI Z xs cz w) (hX : kI X ws cx w) (hk : ∀ w', Gr w w' → k (.tuple #[.bool (seqV gm xs ws).1, .bool (seqV gm xs ws).2]) w') :
    CallK Try.prog 19 [grv gm Y cy, .slice Z xs.length cz, .slice X ws.length cx] k w := by
  refine enter19 ?_
  unfold S19
  have H := (((Kn.nil w).addG hG.1 hG.2).addI hX.1 hX.2).addI hZ.1 hZ.2
  refine do_box fun b1 w1 g1 hb B1 => ?_
  have H := (H.step g1).addB B1
  rw [ldB_agg agg26 sz26 rfl (H.get 4 rfl)]
  refine isGrammar_c (gvK (H.get 1 rfl)) fun w2 g => ?_
  have H := H.step g
  unfold seqV wordG at hk
  cases hg : goodG gm
  · simp only [Bool.not_false, bin_add, bin_sub, bin_mul, bin_eql, bin_neq, bin_lss, bin_leq, bin_gtr, bin_geq, un_not, un_neg, pick_true, pick_false, extract_two_0, extract_two_1, nilCheck_pointer, cond_true', cond_false', guard_tt, guard_ff, guard_tf, guard_ft, guard_undef, seqQ_normal, seqQ_ret, seqQ_exit, blockQ_ret, blockQ_normal, blockQ_exit, bodyQ_ret, bodyQ_normal, resK_nil, resK_tmp, ite_T, ite_F, upd_at, add_plain, add_zero', Nat.reduceEqDiff, fa8_0, fa8_1, fa8_2, fa8_3, fa14_0, fa14_1, fa19_0, len22, len24, fa26_0, fa26_1, fa26_2, len27, fa33_0, fa33_1, len35, fa77_0, fa77_1, fa88_0, fa88_1, fa88_2, fa88_3, fa88_4, fa88_5, fa114_0, fa114_1, fa114_2, fa124_0, fa124_1, len134, len136, len154, fa156_0, fa156_1, fa156_2, fa156_3, fa156_4, fa156_5, fa156_6, fa184_0, fa184_1, fa200_0, fa200_1, fa200_2, fa200_3, fa215_0, fa215_1, fa215_2, fa215_3, fa215_4, len218, len271, fa274_0, fa274_1, fa274_2, fa303_0, fa303_1, fa303_2, fa303_3, fa314_0, fa314_1, fa314_2, fa314_3, fa314_4, fa314_5, fa314_6, fa314_7, fa314_8, fa314_9, fa314_10]
    rw [hg, Bool.false_and, Bool.false_and, if_neg Bool.false_ne_true] at hk
    exact hk _ (H.get 0 rfl)
  rw [hg, Bool.true_and] at hk
  have hn := good_nons hg
  have ht := good_toks hg
  simp only [Bool.not_true, bin_add, bin_sub, bin_mul, bin_eql, bin_neq, bin_lss, bin_leq, bin_gtr, bin_geq, un_not, un_neg, pick_true, pick_false, extract_two_0, extract_two_1, nilCheck_pointer, cond_true', cond_false', guard_tt, guard_ff, guard_tf, guard_ft, guard_undef, seqQ_normal, seqQ_ret, seqQ_exit, blockQ_ret, blockQ_normal, blockQ_exit, bodyQ_ret, bodyQ_normal, resK_nil, resK_tmp, ite_T, ite_F, upd_at, add_plain, add_zero', Nat.reduceEqDiff, fa8_0, fa8_1, fa8_2, fa8_3, fa14_0, fa14_1, fa19_0, len22, len24, fa26_0, fa26_1, fa26_2, len27, fa33_0, fa33_1, len35, fa77_0, fa77_1, fa88_0, fa88_1, fa88_2, fa88_3, fa88_4, fa88_5, fa114_0, fa114_1, fa114_2, fa124_0, fa124_1, len134, len136, len154, fa156_0, fa156_1, fa156_2, fa156_3, fa156_4, fa156_5, fa156_6, fa184_0, fa184_1, fa200_0, fa200_1, fa200_2, fa200_3, fa215_0, fa215_1, fa215_2, fa215_3, fa215_4, len218, len271, fa274_0, fa274_1, fa274_2, fa303_0, fa303_1, fa303_2, fa303_3, fa314_0, fa314_1, fa314_2, fa314_3, fa314_4, fa314_5, fa314_6, fa314_7, fa314_8, fa314_9, fa314_10]
  by_cases hl : (4 : Int) < xs.length
  · simp only [hl, decide_true, bin_add, bin_sub, bin_mul, bin_eql, bin_neq, bin_lss, bin_leq, bin_gtr, bin_geq, un_not, un_neg, pick_true, pick_false, extract_two_0, extract_two_1, nilCheck_pointer, cond_true', cond_false', guard_tt, guard_ff, guard_tf, guard_ft, guard_undef, seqQ_normal, seqQ_ret, seqQ_exit, blockQ_ret, blockQ_normal, blockQ_exit, bodyQ_ret, bodyQ_normal, resK_nil, resK_tmp, ite_T, ite_F, upd_at, add_plain, add_zero', Nat.reduceEqDiff, fa8_0, fa8_1, fa8_2, fa8_3, fa14_0, fa14_1, fa19_0, len22, len24, fa26_0, fa26_1, fa26_2, len27, fa33_0, fa33_1, len35, fa77_0, fa77_1, fa88_0, fa88_1, fa88_2, fa88_3, fa88_4, fa88_5, fa114_0, fa114_1, fa114_2, fa124_0, fa124_1, len134, len136, len154, fa156_0, fa156_1, fa156_2, fa156_3, fa156_4, fa156_5, fa156_6, fa184_0, fa184_1, fa200_0, fa200_1, fa200_2, fa200_3, fa215_0, fa215_1, fa215_2, fa215_3, fa215_4, len218, len271, fa274_0, fa274_1, fa274_2, fa303_0, fa303_1, fa303_2, fa303_3, fa314_0, fa314_1, fa314_2, fa314_3, fa314_4, fa314_5, fa314_6, fa314_7, fa314_8, fa314_9, fa314_10]
    rw [← allSym_form, decide_eq_false (by omega), Bool.false_and, Bool.and_false, if_neg Bool.false_ne_true] at hk
    exact hk _ (H.get 0 rfl)
  simp only [hl, decide_false, bin_add, bin_sub, bin_mul, bin_eql, bin_neq, bin_lss, bin_leq, bin_gtr, bin_geq, un_not, un_neg, pick_true, pick_false, extract_two_0, extract_two_1, nilCheck_pointer, cond_true', cond_false', guard_tt, guard_ff, guard_tf, guard_ft, guard_undef, seqQ_normal, seqQ_ret, seqQ_exit, blockQ_ret, blockQ_normal, blockQ_exit, bodyQ_ret, bodyQ_normal, resK_nil, resK_tmp, ite_T, ite_F, upd_at, add_plain, add_zero', Nat.reduceEqDiff, fa8_0, fa8_1, fa8_2, fa8_3, fa14_0, fa14_1, fa19_0, len22, len24, fa26_0, fa26_1, fa26_2, len27, fa33_0, fa33_1, len35, fa77_0, fa77_1, fa88_0, fa88_1, fa88_2, fa88_3, fa88_4, fa88_5, fa114_0, fa114_1, fa114_2, fa124_0, fa124_1, len134, len136, len154, fa156_0, fa156_1, fa156_2, fa156_3, fa156_4, fa156_5, fa156_6, fa184_0, fa184_1, fa200_0, fa200_1, fa200_2, fa200_3, fa215_0, fa215_1, fa215_2, fa215_3, fa215_4, len218, len271, fa274_0, fa274_1, fa274_2, fa303_0, fa303_1, fa303_2, fa303_3, fa314_0, fa314_1, fa314_2, fa314_3, fa314_4, fa314_5, fa314_6, fa314_7, fa314_8, fa314_9, fa314_10]
  rw [ldB3 (H.get 4 rfl) rfl, ldB3 (H.get 4 rfl) rfl]
  refine areSymbols_c (H.get 3 rfl).1 (by simp [inB]; omega) (by simp [inB]; omega) fun w3 g => ?_
  have H := H.step g
  rw [← allSym_form, decide_eq_true (show (xs.length : Int) ≤ 4 by omega), Bool.true_and] at hk
  cases hs : xs.all (symB gm.nons gm.toks)
  · simp only [Bool.not_false, bin_add, bin_sub, bin_mul, bin_eql, bin_neq, bin_lss, bin_leq, bin_gtr, bin_geq, un_not, un_neg, pick_true, pick_false, extract_two_0, extract_two_1, nilCheck_pointer, cond_true', cond_false', guard_tt, guard_ff, guard_tf, guard_ft, guard_undef, seqQ_normal, seqQ_ret, seqQ_exit, blockQ_ret, blockQ_normal, blockQ_exit, bodyQ_ret, bodyQ_normal, resK_nil, resK_tmp, ite_T, ite_F, upd_at, add_plain, add_zero', Nat.reduceEqDiff, fa8_0, fa8_1, fa8_2, fa8_3, fa14_0, fa14_1, fa19_0, len22, len24, fa26_0, fa26_1, fa26_2, len27, fa33_0, fa33_1, len35, fa77_0, fa77_1, fa88_0, fa88_1, fa88_2, fa88_3, fa88_4, fa88_5, fa114_0, fa114_1, fa114_2, fa124_0, fa124_1, len134, len136, len154, fa156_0, fa156_1, fa156_2, fa156_3, fa156_4, fa156_5, fa156_6, fa184_0, fa184_1, fa200_0, fa200_1, fa200_2, fa200_3, fa215_0, fa215_1, fa215_2, fa215_3, fa215_4, len218, len271, fa274_0, fa274_1, fa274_2, fa303_0, fa303_1, fa303_2, fa303_3, fa314_0, fa314_1, fa314_2, fa314_3, fa314_4, fa314_5, fa314_6, fa314_7, fa314_8, fa314_9, fa314_10]
    rw [hs, Bool.and_false, if_neg Bool.false_ne_true] at hk
    exact hk _ (H.get 0 rfl)
  rw [hs, Bool.and_true] at hk
  simp only [Bool.not_true, bin_add, bin_sub, bin_mul, bin_eql, bin_neq, bin_lss, bin_leq, bin_gtr, bin_geq, un_not, un_neg, pick_true, pick_false, extract_two_0, extract_two_1, nilCheck_pointer, cond_true', cond_false', guard_tt, guard_ff, guard_tf, guard_ft, guard_undef, seqQ_normal, seqQ_ret, seqQ_exit, blockQ_ret, blockQ_normal, blockQ_exit, bodyQ_ret, bodyQ_normal, resK_nil, resK_tmp, ite_T, ite_F, upd_at, add_plain, add_zero', Nat.reduceEqDiff, fa8_0, fa8_1, fa8_2, fa8_3, fa14_0, fa14_1, fa19_0, len22, len24, fa26_0, fa26_1, fa26_2, len27, fa33_0, fa33_1, len35, fa77_0, fa77_1, fa88_0, fa88_1, fa88_2, fa88_3, fa88_4, fa88_5, fa114_0, fa114_1, fa114_2, fa124_0, fa124_1, len134, len136, len154, fa156_0, fa156_1, fa156_2, fa156_3, fa156_4, fa156_5, fa156_6, fa184_0, fa184_1, fa200_0, fa200_1, fa200_2, fa200_3, fa215_0, fa215_1, fa215_2, fa215_3, fa215_4, len218, len271, fa274_0, fa274_1, fa274_2, fa303_0, fa303_1, fa303_2, fa303_3, fa314_0, fa314_1, fa314_2, fa314_3, fa314_4, fa314_5, fa314_6, fa314_7, fa314_8, fa314_9, fa314_10]
  rw [ldB3 (H.get 4 rfl) rfl]
  refine isWord_c (H.get 2 rfl).1 rfl (by omega) (by omega) fun w4 g => ?_
  have H := H.step g
  cases hw : wordB gm.toks ws
  · simp only [Bool.not_false, bin_add, bin_sub, bin_mul, bin_eql, bin_neq, bin_lss, bin_leq, bin_gtr, bin_geq, un_not, un_neg, pick_true, pick_false, extract_two_0, extract_two_1, nilCheck_pointer, cond_true', cond_false', guard_tt, guard_ff, guard_tf, guard_ft, guard_undef, seqQ_normal, seqQ_ret, seqQ_exit, blockQ_ret, blockQ_normal, blockQ_exit, bodyQ_ret, bodyQ_normal, resK_nil, resK_tmp, ite_T, ite_F, upd_at, add_plain, add_zero', Nat.reduceEqDiff, fa8_0, fa8_1, fa8_2, fa8_3, fa14_0, fa14_1, fa19_0, len22, len24, fa26_0, fa26_1, fa26_2, len27, fa33_0, fa33_1, len35, fa77_0, fa77_1, fa88_0, fa88_1, fa88_2, fa88_3, fa88_4, fa88_5, fa114_0, fa114_1, fa114_2, fa124_0, fa124_1, len134, len136, len154, fa156_0, fa156_1, fa156_2, fa156_3, fa156_4, fa156_5, fa156_6, fa184_0, fa184_1, fa200_0, fa200_1, fa200_2, fa200_3, fa215_0, fa215_1, fa215_2, fa215_3, fa215_4, len218, len271, fa274_0, fa274_1, fa274_2, fa303_0, fa303_1, fa303_2, fa303_3, fa314_0, fa314_1, fa314_2, fa314_3, fa314_4, fa314_5, fa314_6, fa314_7, fa314_8, fa314_9, fa314_10]
    rw [hw, if_neg Bool.false_ne_true] at hk
    exact hk _ (H.get 0 rfl)
  rw [hw, if_pos rfl] at hk
  simp only [Bool.not_true, bin_add, bin_sub, bin_mul, bin_eql, bin_neq, bin_lss, bin_leq, bin_gtr, bin_geq, un_not, un_neg, pick_true, pick_false, extract_two_0, extract_two_1, nilCheck_pointer, cond_true', cond_false', guard_tt, guard_ff, guard_tf, guard_ft, guard_undef, seqQ_normal, seqQ_ret, seqQ_exit, blockQ_ret, blockQ_normal, blockQ_exit, bodyQ_ret, bodyQ_normal, resK_nil, resK_tmp, ite_T, ite_F, upd_at, add_plain, add_zero', Nat.reduceEqDiff, fa8_0, fa8_1, fa8_2, fa8_3, fa14_0, fa14_1, fa19_0, len22, len24, fa26_0, fa26_1, fa26_2, len27, fa33_0, fa33_1, len35, fa77_0, fa77_1, fa88_0, fa88_1, fa88_2, fa88_3, fa88_4, fa88_5, fa114_0, fa114_1, fa114_2, fa124_0, fa124_1, len134, len136, len154, fa156_0, fa156_1, fa156_2, fa156_3, fa156_4, fa156_5, fa156_6, fa184_0, fa184_1, fa200_0, fa200_1, fa200_2, fa200_3, fa215_0, fa215_1, fa215_2, fa215_3, fa215_4, len218, len271, fa274_0, fa274_1, fa274_2, fa303_0, fa303_1, fa303_2, fa303_3, fa314_0, fa314_1, fa314_2, fa314_3, fa314_4, fa314_5, fa314_6, fa314_7, fa314_8, fa314_9, fa314_10]
  have hW := wordB_of hw
  have hF := formB_all (show formB gm xs 4 = true by rw [← allSym_form, hs, decide_eq_true (by omega)]; rfl)
  rw [ldB_agg agg26 sz26 rfl (H.get 4 rfl)]
  have hw100 : ∀ t ∈ ws, 0 ≤ t ∧ t ≤ 100 := fun t ht' => by have := hW.2 t ht'; omega
  refine spans_c (gvK (H.get 1 rfl)) hg (H.get 2 rfl).1 rfl hW.1 hw100 fun w5 bT HT => ?_
  have H := H.step HT.gr
  refine sequence_c hW.1 hw100 xs (HT.box 0 rfl) (H.get 2 rfl).1 (H.get 3 rfl).1 (H.get 3 rfl).2 (fun x hx => by have := hF.2 x hx; omega) (Nat.zero_le _) (Nat.le_refl _) ?_
  exact hk _ (H.get 0 rfl)
theorem specSeq_c (hG : kG Y cy gm.rules w) (hZ : kI Z xs cz w) (hX : kI X ws cx w) (hk : ∀ w', Gr w w' → k (.tuple #[.bool (seqV gm xs ws).1, .bool (seqV gm xs ws).2]) w') :
    CallK Try.prog 28 [grv gm Y cy, .slice Z xs.length cz, .slice X ws.length cx] k w := by
  refine enter28 ?_
  unfold S28
  have H := (((Kn.nil w).addG hG.1 hG.2).addI hX.1 hX.2).addI hZ.1 hZ.2
  refine do_box fun b1 w1 g1 hb B1 => ?_
  have H := (H.step g1).addB B1
  rw [ldB_agg agg26 sz26 rfl (H.get 4 rfl)]
  refine goodWord_c (gvK (H.get 1 rfl)) (H.get 2 rfl).1 rfl fun w2 g => ?_
  have H := H.step g
  unfold seqV at hk
  rw [show (goodG gm && wordB gm.toks ws) = wordG gm ws from rfl]
  cases hg : wordG gm ws
  · simp only [Bool.not_false, bin_add, bin_sub, bin_mul, bin_eql, bin_neq, bin_lss, bin_leq, bin_gtr, bin_geq, un_not, un_neg, pick_true, pick_false, extract_two_0, extract_two_1, nilCheck_pointer, cond_true', cond_false', guard_tt, guard_ff, guard_tf, guard_ft, guard_undef, seqQ_normal, seqQ_ret, seqQ_exit, blockQ_ret, blockQ_normal, blockQ_exit, bodyQ_ret, bodyQ_normal, resK_nil, resK_tmp, ite_T, ite_F, upd_at, add_plain, add_zero', Nat.reduceEqDiff, fa8_0, fa8_1, fa8_2, fa8_3, fa14_0, fa14_1, fa19_0, len22, len24, fa26_0, fa26_1, fa26_2, len27, fa33_0, fa33_1, len35, fa77_0, fa77_1, fa88_0, fa88_1, fa88_2, fa88_3, fa88_4, fa88_5, fa114_0, fa114_1, fa114_2, fa124_0, fa124_1, len134, len136, len154, fa156_0, fa156_1, fa156_2, fa156_3, fa156_4, fa156_5, fa156_6, fa184_0, fa184_1, fa200_0, fa200_1, fa200_2, fa200_3, fa215_0, fa215_1, fa215_2, fa215_3, fa215_4, len218, len271, fa274_0, fa274_1, fa274_2, fa303_0, fa303_1, fa303_2, fa303_3, fa314_0, fa314_1, fa314_2, fa314_3, fa314_4, fa314_5, fa314_6, fa314_7, fa314_8, fa314_9, fa314_10]
    rw [hg, Bool.false_and, if_neg Bool.false_ne_true] at hk
    exact hk _ (H.get 0 rfl)
  rw [hg, Bool.true_and] at hk
  obtain ⟨hg1, hw⟩ : goodG gm = true ∧ wordB gm.toks ws = true := by simpa [wordG] using hg
  have hn := good_nons hg1
  have ht := good_toks hg1
  simp only [Bool.not_true, bin_add, bin_sub, bin_mul, bin_eql, bin_neq, bin_lss, bin_leq, bin_gtr, bin_geq, un_not, un_neg, pick_true, pick_false, extract_two_0, extract_two_1, nilCheck_pointer, cond_true', cond_false', guard_tt, guard_ff, guard_tf, guard_ft, guard_undef, seqQ_normal, seqQ_ret, seqQ_exit, blockQ_ret, blockQ_normal, blockQ_exit, bodyQ_ret, bodyQ_normal, resK_nil, resK_tmp, ite_T, ite_F, upd_at, add_plain, add_zero', Nat.reduceEqDiff, fa8_0, fa8_1, fa8_2, fa8_3, fa14_0, fa14_1, fa19_0, len22, len24, fa26_0, fa26_1, fa26_2, len27, fa33_0, fa33_1, len35, fa77_0, fa77_1, fa88_0, fa88_1, fa88_2, fa88_3, fa88_4, fa88_5, fa114_0, fa114_1, fa114_2, fa124_0, fa124_1, len134, len136, len154, fa156_0, fa156_1, fa156_2, fa156_3, fa156_4, fa156_5, fa156_6, fa184_0, fa184_1, fa200_0, fa200_1, fa200_2, fa200_3, fa215_0, fa215_1, fa215_2, fa215_3, fa215_4, len218, len271, fa274_0, fa274_1, fa274_2, fa303_0, fa303_1, fa303_2, fa303_3, fa314_0, fa314_1, fa314_2, fa314_3, fa314_4, fa314_5, fa314_6, fa314_7, fa314_8, fa314_9, fa314_10]
  rw [ldB_agg agg26 sz26 rfl (H.get 4 rfl)]
  refine l4Form_c (gm := gm) (H.get 3 rfl).1 (by omega) (by omega) fun w3 g => ?_
  have H := H.step g
  cases hf : formB gm xs 4
  · simp only [Bool.not_false, bin_add, bin_sub, bin_mul, bin_eql, bin_neq, bin_lss, bin_leq, bin_gtr, bin_geq, un_not, un_neg, pick_true, pick_false, extract_two_0, extract_two_1, nilCheck_pointer, cond_true', cond_false', guard_tt, guard_ff, guard_tf, guard_ft, guard_undef, seqQ_normal, seqQ_ret, seqQ_exit, blockQ_ret, blockQ_normal, blockQ_exit, bodyQ_ret, bodyQ_normal, resK_nil, resK_tmp, ite_T, ite_F, upd_at, add_plain, add_zero', Nat.reduceEqDiff, fa8_0, fa8_1, fa8_2, fa8_3, fa14_0, fa14_1, fa19_0, len22, len24, fa26_0, fa26_1, fa26_2, len27, fa33_0, fa33_1, len35, fa77_0, fa77_1, fa88_0, fa88_1, fa88_2, fa88_3, fa88_4, fa88_5, fa114_0, fa114_1, fa114_2, fa124_0, fa124_1, len134, len136, len154, fa156_0, fa156_1, fa156_2, fa156_3, fa156_4, fa156_5, fa156_6, fa184_0, fa184_1, fa200_0, fa200_1, fa200_2, fa200_3, fa215_0, fa215_1, fa215_2, fa215_3, fa215_4, len218, len271, fa274_0, fa274_1, fa274_2, fa303_0, fa303_1, fa303_2, fa303_3, fa314_0, fa314_1, fa314_2, fa314_3, fa314_4, fa314_5, fa314_6, fa314_7, fa314_8, fa314_9, fa314_10]
    rw [hf, if_neg Bool.false_ne_true] at hk
    exact hk _ (H.get 0 rfl)
  rw [hf, if_pos rfl] at hk
  simp only [Bool.not_true, bin_add, bin_sub, bin_mul, bin_eql, bin_neq, bin_lss, bin_leq, bin_gtr, bin_geq, un_not, un_neg, pick_true, pick_false, extract_two_0, extract_two_1, nilCheck_pointer, cond_true', cond_false', guard_tt, guard_ff, guard_tf, guard_ft, guard_undef, seqQ_normal, seqQ_ret, seqQ_exit, blockQ_ret, blockQ_normal, blockQ_exit, bodyQ_ret, bodyQ_normal, resK_nil, resK_tmp, ite_T, ite_F, upd_at, add_plain, add_zero', Nat.reduceEqDiff, fa8_0, fa8_1, fa8_2, fa8_3, fa14_0, fa14_1, fa19_0, len22, len24, fa26_0, fa26_1, fa26_2, len27, fa33_0, fa33_1, len35, fa77_0, fa77_1, fa88_0, fa88_1, fa88_2, fa88_3, fa88_4, fa88_5, fa114_0, fa114_1, fa114_2, fa124_0, fa124_1, len134, len136, len154, fa156_0, fa156_1, fa156_2, fa156_3, fa156_4, fa156_5, fa156_6, fa184_0, fa184_1, fa200_0, fa200_1, fa200_2, fa200_3, fa215_0, fa215_1, fa215_2, fa215_3, fa215_4, len218, len271, fa274_0, fa274_1, fa274_2, fa303_0, fa303_1, fa303_2, fa303_3, fa314_0, fa314_1, fa314_2, fa314_3, fa314_4, fa314_5, fa314_6, fa314_7, fa314_8, fa314_9, fa314_10]
  have hF := formB_all hf
  have hW := wordB_of hw
  rw [ldB_agg agg26 sz26 rfl (H.get 4 rfl)]
  refine l4Table_c (gm := gm) (gvK (H.get 1 rfl)) hg1 (H.get 2 rfl).1 rfl hW.1 fun w4 U cu nons g hnons hT => ?_
  have H := H.step g
  refine l4Fits_c hW.1 xs hT (H.get 2 rfl).1 (H.get 3 rfl).1 (H.get 3 rfl).2 (fun x hx => by have := hF.2 x hx; omega) (Nat.zero_le _) (Nat.le_refl _) ?_
  exact hk _ (H.get 0 rfl)
end
end Go.Proofs.Ytegcjkhebecgbaa

/- Contracts: DrawDerives, DrawShortWords, DrawInLanguage, DrawSpansOf, DrawSequenceDerives. -/
set_option linter.unusedVariables false
set_option linter.unusedSimpArgs false
set_option maxRecDepth 100000
namespace Go.Proofs.Ytegcjkhebecgbaa
open Go Go.Sh Go.RowKit
theorem inf114' : Inf Try.prog 114 (.agg #[.slice none 0 0, .int .i64 0, .int .u64 0]) 3 40 := inf_of (by kernel_rfl)
theorem bd114 {S : WS} {k : Value → Prop} {ps : List (Nat × Value)} {cells : Array Value} (hf : Instr.fill (#[(0, 1), (1, 1), (2, 1)][·]?) #[.slice none 0 0, .int .i64 0, .int .u64 0] ps = some cells) : Rd Try.prog S (sBuild 114 ps) k = k (.agg cells) :=
  rd_build3 Try.underlying114 inf114' sz22 sz3 sz112 hf
theorem rng7 : Array.range 7 = #[0, 1, 2, 3, 4, 5, 6] := by decide
abbrev zg : List Value := [.int .i64 0, .int .i64 0, .slice none 0 0]
section
variable {w0 w : World} {E : List Thing} {C : Option Addr} {cap : Nat} {bs : List Int} {k : Value → World → Prop}
/-- A draw begins: a place for the grammar, a cursor. -/
theorem draw0 {K : Value → Value → Value → World → Prop} (h : ∀ b1 b4 w', Apt w w' [cur b4 (.slice C bs.length cap) 0, bx b1 zg 26] → K (ptrv b1) (.agg #[.slice C bs.length cap, .int .i64 0, .int .u64 0]) (ptrv b4) w') :
    Do Try.prog (sAlloc 26) (fun t1 w2 => Rd Try.prog (WS.at w2) (sBuild 114 [(0, .slice C bs.length cap)]) fun t3 => Do Try.prog (sBox 114 t3) (fun t4 w5 => K t1 t3 t4 w5) w2) w := by
  have H := Apt.nil w
  refine allocH H inf26 fun b1 w1 H => ?_
  refine rdi (bd114 (cells := #[.slice C bs.length cap, .int .i64 0, .int .u64 0]) rfl) ?_
  refine boxH H fun b4 w2 H => ?_
  simp only [List.nil_append, List.cons_append] at H
  have H := H.shutCur (N := 0) (tc := TC) (bc := b4) (cv := .slice C bs.length cap) (a := 0) (s := 0) 1 rfl (by omega) (by omega)
  simp only [List.set_cons_succ, List.set_cons_zero] at H
  exact h b1 b4 w2 (H.perm (List.Perm.swap _ _ _))
theorem rdS26 {S : WS} {k : Value → Prop} {b e : Nat} {cs : List Value} (hl : cs.length = 3) (h : ∀ w', S.S w' → Box w' b cs e) : Rd Try.prog S (sLoad 26 (ptrv b)) k = k (.agg cs.toArray) := by
  refine rd_loadAgg agg26 sz26 (cs := cs) hl fun w' hw j hj => ?_
  rw [show (⟨b, 0, none⟩ : Addr).add j = ⟨b, 0 + j, none⟩ from add_plain b 0 j, Nat.zero_add, (h w' hw).cell j]
  exact List.getElem?_eq_getElem hj
theorem gowK {ft : Nat → Prop} {Y : Option Addr} {cy : Nat} {rs : List RuleL} (h : OwnG 33 ft w 0 Y cy rs) : kG Y cy rs w := by
  have h1 := h.read
  obtain ⟨cells, hr, _⟩ := h
  exact ⟨hr.cap.1, h1⟩
set_option maxHeartbeats 1600000 in
theorem drawDerives_c (hC : Byts w C bs) (hk : ∀ w' gm ft Y cy non X cx ws, Drawn 101 gm → Apt w w' [ows X cx ws, gth ft Y cy gm.rules] → k (.tuple #[grv gm Y cy, .int .i64 non, .slice X (List.length ws) cx]) w') :
    CallK Try.prog 16 [.slice C bs.length cap] k w := by
  refine enter16 ?_
  unfold S16
  refine draw0 fun b1 b4 w1 H => ?_
  refine any_c H hC (by omega) fun w2 gm ft Y cy hd H => ?_
  refine allocH H inf26 fun b8 w3 H => ?_
  refine storeH H 3 rfl sz26 rfl rfl rfl fun w4 H => ?_
  simp only [List.cons_append, List.nil_append, List.set_cons_zero, List.set_cons_succ] at H
  have H := H.drew
  refine ⟨fun w' => Box w' b8 [.int .i64 gm.nons, .int .i64 gm.toks, .slice Y gm.rules.length cy] 26, H.box 3 rfl, ?_⟩
  refine rdi (rdS26 rfl fun w' h => h) (rdi (rdS26 rfl fun w' h => h) ?_)
  refine pick_c H 0 rfl hC (by omega) (by omega) fun w5 a _ _ H => ?_
  simp only [List.set_cons_zero] at H
  refine ⟨H.box 3 rfl, ?_⟩
  refine pick_c H 0 rfl hC (by omega) (by omega) fun w6 c _ _ H => ?_
  simp only [List.set_cons_zero] at H
  refine ⟨H.box 3 rfl, ?_⟩
  rw [bin_quo (by decide)]
  simp only [bin_add, bin_sub, bin_mul, bin_eql, bin_neq, bin_lss, bin_leq, bin_gtr, bin_geq, un_not, un_neg, pick_true, pick_false, extract_two_0, extract_two_1, nilCheck_pointer, cond_true', cond_false', guard_tt, guard_ff, guard_tf, guard_ft, guard_undef, seqQ_normal, seqQ_ret, seqQ_exit, blockQ_ret, blockQ_normal, blockQ_exit, bodyQ_ret, bodyQ_normal, resK_nil, resK_tmp, ite_T, ite_F, upd_at, add_plain, add_zero', Nat.reduceEqDiff, fa8_0, fa8_1, fa8_2, fa8_3, fa14_0, fa14_1, fa19_0, len22, len24, fa26_0, fa26_1, fa26_2, len27, fa33_0, fa33_1, len35, fa77_0, fa77_1, fa88_0, fa88_1, fa88_2, fa88_3, fa88_4, fa88_5, fa114_0, fa114_1, fa114_2, fa124_0, fa124_1, len134, len136, len154, fa156_0, fa156_1, fa156_2, fa156_3, fa156_4, fa156_5, fa156_6, fa184_0, fa184_1, fa200_0, fa200_1, fa200_2, fa200_3, fa215_0, fa215_1, fa215_2, fa215_3, fa215_4, len218, len271, fa274_0, fa274_1, fa274_2, fa303_0, fa303_1, fa303_2, fa303_3, fa314_0, fa314_1, fa314_2, fa314_3, fa314_4, fa314_5, fa314_6, fa314_7, fa314_8, fa314_9, fa314_10]
  generalize IntKind.i64.wrap _ = non
  have hG := gowK (H.gow 1 rfl)
  refine wordIn_c H hC (by omega) hG.1 hG.2 hd.toks fun w7 Z d ws _ H => ?_
  refine ⟨H.box 4 rfl, ?_⟩
  refine storeH H 3 rfl sz26 rfl rfl rfl fun w8 H => ?_
  simp only [List.cons_append, List.nil_append, List.set_cons_zero, List.set_cons_succ] at H
  rw [rd_loadVar, ldB_agg agg26 sz26 rfl (H.box 3 rfl)]
  have H := ((H.erase 0).erase 3).erase 2
  simp only [List.eraseIdx_cons_zero, List.eraseIdx_cons_succ] at H
  exact hk w8 gm ft Y cy non Z d ws hd H
set_option maxHeartbeats 1600000 in
theorem drawInLanguage_c (hC : Byts w C bs) (hk : ∀ w' gm ft Y cy X cx ws, Drawn 101 gm → Apt w w' [ows X cx ws, gth ft Y cy gm.rules] → k (.tuple #[grv gm Y cy, .slice X (List.length ws) cx]) w') :
    CallK Try.prog 43 [.slice C bs.length cap] k w := by
  refine enter43 ?_
  unfold S43
  refine draw0 fun b1 b4 w1 H => ?_
  refine any_c H hC (by omega) fun w2 gm ft Y cy hd H => ?_
  refine allocH H inf26 fun b8 w3 H => ?_
  refine storeH H 3 rfl sz26 rfl rfl rfl fun w4 H => ?_
  simp only [List.cons_append, List.nil_append, List.set_cons_zero, List.set_cons_succ] at H
  have H := H.drew
  refine ⟨fun w' => Box w' b8 [.int .i64 gm.nons, .int .i64 gm.toks, .slice Y gm.rules.length cy] 26, H.box 3 rfl, ?_⟩
  refine rdi (rdS26 rfl fun w' h => h) (rdi (rdS26 rfl fun w' h => h) ?_)
  have hG := gowK (H.gow 1 rfl)
  refine wordIn_c H hC (by omega) hG.1 hG.2 hd.toks fun w7 Z d ws _ H => ?_
  refine ⟨H.box 4 rfl, ?_⟩
  refine storeH H 3 rfl sz26 rfl rfl rfl fun w8 H => ?_
  simp only [List.cons_append, List.nil_append, List.set_cons_zero, List.set_cons_succ] at H
  rw [rd_loadVar, ldB_agg agg26 sz26 rfl (H.box 3 rfl)]
  have H := ((H.erase 0).erase 3).erase 2
  simp only [List.eraseIdx_cons_zero, List.eraseIdx_cons_succ] at H
  exact hk w8 gm ft Y cy Z d ws hd H
theorem drawSpansOf_c (hC : Byts w C bs) (hk : ∀ w' gm ft Y cy X cx ws, Drawn 101 gm → Apt w w' [ows X cx ws, gth ft Y cy gm.rules] → k (.tuple #[grv gm Y cy, .slice X (List.length ws) cx]) w') :
    CallK Try.prog 29 [.slice C bs.length cap] k w := by
  refine enter29 ?_
  unfold S29
  have H := Apt.nil w
  refine allocH H inf26 fun b1 w1 H => ?_
  refine drawInLanguage_c (hC.gr H.gr) fun w2 gm ft Y cy X cx ws hd A => ?_
  have H := H.append A
  simp only [bin_add, bin_sub, bin_mul, bin_eql, bin_neq, bin_lss, bin_leq, bin_gtr, bin_geq, un_not, un_neg, pick_true, pick_false, extract_two_0, extract_two_1, nilCheck_pointer, cond_true', cond_false', guard_tt, guard_ff, guard_tf, guard_ft, guard_undef, seqQ_normal, seqQ_ret, seqQ_exit, blockQ_ret, blockQ_normal, blockQ_exit, bodyQ_ret, bodyQ_normal, resK_nil, resK_tmp, ite_T, ite_F, upd_at, add_plain, add_zero', Nat.reduceEqDiff, fa8_0, fa8_1, fa8_2, fa8_3, fa14_0, fa14_1, fa19_0, len22, len24, fa26_0, fa26_1, fa26_2, len27, fa33_0, fa33_1, len35, fa77_0, fa77_1, fa88_0, fa88_1, fa88_2, fa88_3, fa88_4, fa88_5, fa114_0, fa114_1, fa114_2, fa124_0, fa124_1, len134, len136, len154, fa156_0, fa156_1, fa156_2, fa156_3, fa156_4, fa156_5, fa156_6, fa184_0, fa184_1, fa200_0, fa200_1, fa200_2, fa200_3, fa215_0, fa215_1, fa215_2, fa215_3, fa215_4, len218, len271, fa274_0, fa274_1, fa274_2, fa303_0, fa303_1, fa303_2, fa303_3, fa314_0, fa314_1, fa314_2, fa314_3, fa314_4, fa314_5, fa314_6, fa314_7, fa314_8, fa314_9, fa314_10]
  simp only [List.cons_append, List.nil_append] at H
  refine storeH H 0 rfl sz26 rfl rfl rfl fun w3 H => ?_
  simp only [List.cons_append, List.nil_append, List.set_cons_zero, List.set_cons_succ] at H
  rw [rd_loadVar, ldB_agg agg26 sz26 rfl (H.box 0 rfl)]
  have H := H.erase 0
  simp only [List.eraseIdx_cons_zero, List.eraseIdx_cons_succ] at H
  exact hk w3 gm ft Y cy X cx ws hd H
set_option maxHeartbeats 1600000 in
theorem drawShortWords_c (hC : Byts w C bs) (hk : ∀ w' gm ft Y cy most, Drawn 101 gm → Apt w w' [gth ft Y cy gm.rules] → k (.tuple #[grv gm Y cy, .int .i64 most]) w') :
    CallK Try.prog 22 [.slice C bs.length cap] k w := by
  refine enter22 ?_
  unfold S22
  refine draw0 fun b1 b4 w1 H => ?_
  refine any_c H hC (by omega) fun w2 gm ft Y cy hd H => ?_
  refine buildH H u27 inf3 (ints [0, 1, 2, 3, 3, 4, 5]) (by decide) (by decide) (by simp [Instr.fill, madeCells, Value.cells, rng7, ints]) rfl fun b8 w3 H => ?_
  simp only [List.cons_append, List.nil_append] at H
  refine among_c (xs := [0, 1, 2, 3, 3, 4, 5]) H 0 rfl hC (by omega) (fun w' H => Apt.ints H 3 (xs := [0, 1, 2, 3, 3, 4, 5]) rfl) rfl (by simp) (by simp) fun w4 j hj H => ?_
  simp only [List.set_cons_zero] at H
  generalize ([0, 1, 2, 3, 3, 4, 5] : List Int).getD j 0 = most
  refine storeH H 2 rfl sz26 rfl rfl rfl fun w8 H => ?_
  simp only [List.cons_append, List.nil_append, List.set_cons_zero, List.set_cons_succ] at H
  rw [rd_loadVar, ldB_agg agg26 sz26 rfl (H.box 2 rfl)]
  have H := ((H.erase 0).erase 2).erase 1
  simp only [List.eraseIdx_cons_zero, List.eraseIdx_cons_succ] at H
  exact hk w8 gm ft Y cy most hd H
set_option maxHeartbeats 1600000 in
theorem drawSeq_c (hC : Byts w C bs) (hk : ∀ w' gm ft Y cy Z cz xs X cx ws, Drawn 101 gm → Apt w w' [ows X cx ws, ows Z cz xs, gth ft Y cy gm.rules] → k (.tuple #[grv gm Y cy, .slice Z (List.length xs) cz, .slice X (List.length ws) cx]) w') :
    CallK Try.prog 27 [.slice C bs.length cap] k w := by
  refine enter27 ?_
  unfold S27
  refine draw0 fun b1 b4 w1 H => ?_
  refine any_c H hC (by omega) fun w2 gm ft Y cy hd H => ?_
  refine allocH H inf26 fun b8 w3 H => ?_
  refine storeH H 3 rfl sz26 rfl rfl rfl fun w4 H => ?_
  simp only [List.cons_append, List.nil_append, List.set_cons_zero, List.set_cons_succ] at H
  refine pick_c H 0 rfl hC (by omega) (by omega) fun w5 a _ ha H => ?_
  have ha := ha (by omega)
  simp only [List.set_cons_zero] at H
  have H := (H.addOwn (Gr.refl _) (show Own 3 w5 w5.heap.size none 0 [] from Row.nil _ _ _ _)).insert 1
  simp only [List.cons_append, List.take_succ_cons, List.take_zero, List.drop_succ_cons, List.drop_zero, List.nil_append] at H
  refine loop_ghost (fun o f w' => o ≤ a ∧ f 8 = .int .i64 (o : Int) ∧ ∃ N2 Z d, ∃ xs : List Int, f 7 = .slice Z xs.length d ∧ N2 ≤ 700 + (a - o) * 2 ∧ xs.length ≤ a - o ∧ Apt w w' [cur b4 (.slice C bs.length cap) N2, ows Z d xs, gth ft Y cy gm.rules, bx b1 zg 26, bx b8 [.int .i64 gm.nons, .int .i64 gm.toks, .slice Y gm.rules.length cy] 26]) (fun o => o) a
    ⟨Nat.le_refl _, rfl, _, none, 0, [], rfl, by omega, by simp, H⟩ ?_
  clear H
  rintro o f w6 NN hag ⟨ho, f8, N2, Z, d, xs, f7, hN2, hxs, H⟩ hN'
  have f2 : f 2 = ptrv b1 := hag 2 (by decide)
  have f5 : f 5 = ptrv b4 := hag 5 (by decide)
  have f6 : f 6 = ptrv b8 := hag 6 (by decide)
  simp only [f2, f5, f6, f7, f8, bin_add, bin_sub, bin_mul, bin_eql, bin_neq, bin_lss, bin_leq, bin_gtr, bin_geq, un_not, un_neg, pick_true, pick_false, extract_two_0, extract_two_1, nilCheck_pointer, cond_true', cond_false', guard_tt, guard_ff, guard_tf, guard_ft, guard_undef, seqQ_normal, seqQ_ret, seqQ_exit, blockQ_ret, blockQ_normal, blockQ_exit, bodyQ_ret, bodyQ_normal, resK_nil, resK_tmp, ite_T, ite_F, upd_at, add_plain, add_zero', Nat.reduceEqDiff, fa8_0, fa8_1, fa8_2, fa8_3, fa14_0, fa14_1, fa19_0, len22, len24, fa26_0, fa26_1, fa26_2, len27, fa33_0, fa33_1, len35, fa77_0, fa77_1, fa88_0, fa88_1, fa88_2, fa88_3, fa88_4, fa88_5, fa114_0, fa114_1, fa114_2, fa124_0, fa124_1, len134, len136, len154, fa156_0, fa156_1, fa156_2, fa156_3, fa156_4, fa156_5, fa156_6, fa184_0, fa184_1, fa200_0, fa200_1, fa200_2, fa200_3, fa215_0, fa215_1, fa215_2, fa215_3, fa215_4, len218, len271, fa274_0, fa274_1, fa274_2, fa303_0, fa303_1, fa303_2, fa303_3, fa314_0, fa314_1, fa314_2, fa314_3, fa314_4, fa314_5, fa314_6, fa314_7, fa314_8, fa314_9, fa314_10]
  by_cases ho0 : 0 < o
  case neg =>
    simp only [show ¬ ((0 : Int) < (o : Int)) from by omega, decide_false, f2, f5, f6, f7, bin_add, bin_sub, bin_mul, bin_eql, bin_neq, bin_lss, bin_leq, bin_gtr, bin_geq, un_not, un_neg, pick_true, pick_false, extract_two_0, extract_two_1, nilCheck_pointer, cond_true', cond_false', guard_tt, guard_ff, guard_tf, guard_ft, guard_undef, seqQ_normal, seqQ_ret, seqQ_exit, blockQ_ret, blockQ_normal, blockQ_exit, bodyQ_ret, bodyQ_normal, resK_nil, resK_tmp, ite_T, ite_F, upd_at, add_plain, add_zero', Nat.reduceEqDiff, fa8_0, fa8_1, fa8_2, fa8_3, fa14_0, fa14_1, fa19_0, len22, len24, fa26_0, fa26_1, fa26_2, len27, fa33_0, fa33_1, len35, fa77_0, fa77_1, fa88_0, fa88_1, fa88_2, fa88_3, fa88_4, fa88_5, fa114_0, fa114_1, fa114_2, fa124_0, fa124_1, len134, len136, len154, fa156_0, fa156_1, fa156_2, fa156_3, fa156_4, fa156_5, fa156_6, fa184_0, fa184_1, fa200_0, fa200_1, fa200_2, fa200_3, fa215_0, fa215_1, fa215_2, fa215_3, fa215_4, len218, len271, fa274_0, fa274_1, fa274_2, fa303_0, fa303_1, fa303_2, fa303_3, fa314_0, fa314_1, fa314_2, fa314_3, fa314_4, fa314_5, fa314_6, fa314_7, fa314_8, fa314_9, fa314_10]
    have H := H.drew
    refine ⟨fun w' => Box w' b8 [.int .i64 gm.nons, .int .i64 gm.toks, .slice Y gm.rules.length cy] 26, H.box 4 rfl, ?_⟩
    refine rdi (rdS26 rfl fun w' h => h) (rdi (rdS26 rfl fun w' h => h) ?_)
    have hG := gowK (H.gow 2 rfl)
    refine wordIn_c H hC (by omega) hG.1 hG.2 hd.toks fun w7 U e ws _ H => ?_
    refine ⟨H.box 5 rfl, ?_⟩
    refine storeH H 4 rfl sz26 rfl rfl rfl fun w8 H => ?_
    simp only [List.cons_append, List.nil_append, List.set_cons_zero, List.set_cons_succ] at H
    rw [rd_loadVar, ldB_agg agg26 sz26 rfl (H.box 4 rfl)]
    have H := ((H.erase 0).erase 4).erase 3
    simp only [List.eraseIdx_cons_zero, List.eraseIdx_cons_succ] at H
    exact hk w8 gm ft Y cy Z d xs U e ws hd H
  simp only [show ((0 : Int) < (o : Int)) from by omega, decide_true, bin_add, bin_sub, bin_mul, bin_eql, bin_neq, bin_lss, bin_leq, bin_gtr, bin_geq, un_not, un_neg, pick_true, pick_false, extract_two_0, extract_two_1, nilCheck_pointer, cond_true', cond_false', guard_tt, guard_ff, guard_tf, guard_ft, guard_undef, seqQ_normal, seqQ_ret, seqQ_exit, blockQ_ret, blockQ_normal, blockQ_exit, bodyQ_ret, bodyQ_normal, resK_nil, resK_tmp, ite_T, ite_F, upd_at, add_plain, add_zero', Nat.reduceEqDiff, fa8_0, fa8_1, fa8_2, fa8_3, fa14_0, fa14_1, fa19_0, len22, len24, fa26_0, fa26_1, fa26_2, len27, fa33_0, fa33_1, len35, fa77_0, fa77_1, fa88_0, fa88_1, fa88_2, fa88_3, fa88_4, fa88_5, fa114_0, fa114_1, fa114_2, fa124_0, fa124_1, len134, len136, len154, fa156_0, fa156_1, fa156_2, fa156_3, fa156_4, fa156_5, fa156_6, fa184_0, fa184_1, fa200_0, fa200_1, fa200_2, fa200_3, fa215_0, fa215_1, fa215_2, fa215_3, fa215_4, len218, len271, fa274_0, fa274_1, fa274_2, fa303_0, fa303_1, fa303_2, fa303_3, fa314_0, fa314_1, fa314_2, fa314_3, fa314_4, fa314_5, fa314_6, fa314_7, fa314_8, fa314_9, fa314_10]
  rw [ldB3 (H.box 4 rfl) rfl]
  refine l1Most_c ?_
  have hnons := hd.nons
  simp only [bin_add, bin_sub, bin_mul, bin_eql, bin_neq, bin_lss, bin_leq, bin_gtr, bin_geq, un_not, un_neg, pick_true, pick_false, extract_two_0, extract_two_1, nilCheck_pointer, cond_true', cond_false', guard_tt, guard_ff, guard_tf, guard_ft, guard_undef, seqQ_normal, seqQ_ret, seqQ_exit, blockQ_ret, blockQ_normal, blockQ_exit, bodyQ_ret, bodyQ_normal, resK_nil, resK_tmp, ite_T, ite_F, upd_at, add_plain, add_zero', Nat.reduceEqDiff, fa8_0, fa8_1, fa8_2, fa8_3, fa14_0, fa14_1, fa19_0, len22, len24, fa26_0, fa26_1, fa26_2, len27, fa33_0, fa33_1, len35, fa77_0, fa77_1, fa88_0, fa88_1, fa88_2, fa88_3, fa88_4, fa88_5, fa114_0, fa114_1, fa114_2, fa124_0, fa124_1, len134, len136, len154, fa156_0, fa156_1, fa156_2, fa156_3, fa156_4, fa156_5, fa156_6, fa184_0, fa184_1, fa200_0, fa200_1, fa200_2, fa200_3, fa215_0, fa215_1, fa215_2, fa215_3, fa215_4, len218, len271, fa274_0, fa274_1, fa274_2, fa303_0, fa303_1, fa303_2, fa303_3, fa314_0, fa314_1, fa314_2, fa314_3, fa314_4, fa314_5, fa314_6, fa314_7, fa314_8, fa314_9, fa314_10]
  have hm : ∃ m : Int, 0 ≤ m ∧ m ≤ 1000 ∧ (if (1 : Int) < gm.nons then gm.nons else 1) = m := ⟨_, by split <;> omega, by split <;> omega, rfl⟩
  obtain ⟨m, hm0, hm1, hme⟩ := hm
  rw [hme, i64_of (by omega) (by omega)]
  refine pick_c H 0 rfl hC (by omega) (by omega) fun w7 c _ _ H => ?_
  simp only [List.set_cons_zero, bin_add, bin_sub, bin_mul, bin_eql, bin_neq, bin_lss, bin_leq, bin_gtr, bin_geq, un_not, un_neg, pick_true, pick_false, extract_two_0, extract_two_1, nilCheck_pointer, cond_true', cond_false', guard_tt, guard_ff, guard_tf, guard_ft, guard_undef, seqQ_normal, seqQ_ret, seqQ_exit, blockQ_ret, blockQ_normal, blockQ_exit, bodyQ_ret, bodyQ_normal, resK_nil, resK_tmp, ite_T, ite_F, upd_at, add_plain, add_zero', Nat.reduceEqDiff, fa8_0, fa8_1, fa8_2, fa8_3, fa14_0, fa14_1, fa19_0, len22, len24, fa26_0, fa26_1, fa26_2, len27, fa33_0, fa33_1, len35, fa77_0, fa77_1, fa88_0, fa88_1, fa88_2, fa88_3, fa88_4, fa88_5, fa114_0, fa114_1, fa114_2, fa124_0, fa124_1, len134, len136, len154, fa156_0, fa156_1, fa156_2, fa156_3, fa156_4, fa156_5, fa156_6, fa184_0, fa184_1, fa200_0, fa200_1, fa200_2, fa200_3, fa215_0, fa215_1, fa215_2, fa215_3, fa215_4, len218, len271, fa274_0, fa274_1, fa274_2, fa303_0, fa303_1, fa303_2, fa303_3, fa314_0, fa314_1, fa314_2, fa314_3, fa314_4, fa314_5, fa314_6, fa314_7, fa314_8, fa314_9, fa314_10] at H ⊢
  generalize IntKind.i64.wrap _ = x
  refine pushH H 1 rfl rfl (by omega) fun t1 Z2 d2 w8 H => ?_
  simp only [List.set_cons_zero, List.set_cons_succ, bin_add, bin_sub, bin_mul, bin_eql, bin_neq, bin_lss, bin_leq, bin_gtr, bin_geq, un_not, un_neg, pick_true, pick_false, extract_two_0, extract_two_1, nilCheck_pointer, cond_true', cond_false', guard_tt, guard_ff, guard_tf, guard_ft, guard_undef, seqQ_normal, seqQ_ret, seqQ_exit, blockQ_ret, blockQ_normal, blockQ_exit, bodyQ_ret, bodyQ_normal, resK_nil, resK_tmp, ite_T, ite_F, upd_at, add_plain, add_zero', Nat.reduceEqDiff, fa8_0, fa8_1, fa8_2, fa8_3, fa14_0, fa14_1, fa19_0, len22, len24, fa26_0, fa26_1, fa26_2, len27, fa33_0, fa33_1, len35, fa77_0, fa77_1, fa88_0, fa88_1, fa88_2, fa88_3, fa88_4, fa88_5, fa114_0, fa114_1, fa114_2, fa124_0, fa124_1, len134, len136, len154, fa156_0, fa156_1, fa156_2, fa156_3, fa156_4, fa156_5, fa156_6, fa184_0, fa184_1, fa200_0, fa200_1, fa200_2, fa200_3, fa215_0, fa215_1, fa215_2, fa215_3, fa215_4, len218, len271, fa274_0, fa274_1, fa274_2, fa303_0, fa303_1, fa303_2, fa303_3, fa314_0, fa314_1, fa314_2, fa314_3, fa314_4, fa314_5, fa314_6, fa314_7, fa314_8, fa314_9, fa314_10] at H ⊢
  rw [i64_of (by omega) (by omega), show (o : Int) - 1 = ((o - 1 : Nat) : Int) from by omega]
  exact hN' (o - 1) _ _ ⟨by omega, rfl, _, Z2, d2, xs ++ [x], rfl, by omega, by rw [List.length_append, List.length_singleton]; omega, H⟩ (by omega)
end
end Go.Proofs.Ytegcjkhebecgbaa

/- What the drawn laws do: comparisons of yes and no, boxes of rules, bytes that are known. -/
set_option linter.unusedVariables false
set_option linter.unusedSimpArgs false
set_option maxRecDepth 100000
namespace Go.Proofs.Ytegcjkhebecgbaa
open Go Go.Sh Go.RowKit
abbrev kC (C : Option Addr) (bs : List Int) : World → Prop := fun w => Byts w C bs
section
variable {S : WS} {k : Value → Prop}
theorem bneq {c x y : Bool} : Rd Try.prog S (sBin .neq 4 c (.bool x) (.bool y)) k = k (.bool (!(x == y))) := bin_neq_bool Try.underlying4
theorem beql {c x y : Bool} : Rd Try.prog S (sBin .eql 4 c (.bool x) (.bool y)) k = k (.bool (x == y)) := bin_eql_bool Try.underlying4
theorem extract3_0 {a b c : Value} : Rd Try.prog S (sExtract (.tuple #[a, b, c]) 0) k = k a := extract_three_0
theorem extract3_1 {a b c : Value} : Rd Try.prog S (sExtract (.tuple #[a, b, c]) 1) k = k b := extract_three_1
theorem extract3_2 {a b c : Value} : Rd Try.prog S (sExtract (.tuple #[a, b, c]) 2) k = k c := extract_three_2
end
section
variable {w w' : World} {L : List (World → Prop)}
theorem knC (H : Kn w L) {C : Option Addr} {bs : List Int} (h : Byts w C bs) : Kn w (L ++ [kC C bs]) := H.add fun w' g => h.gr g
/-- A drawn grammar is known from now on. -/
theorem knG (H : Kn w L) {ft : Nat → Prop} {Y : Option Addr} {cy : Nat} {rs : List RuleL} {w0 : World} {M : List Thing} (A : Apt w0 w M) (i : Nat) (hi : M[i]? = some (gth ft Y cy rs)) : Kn w (L ++ [kG Y cy rs]) :=
  H.addG (gowK (A.gow i hi)).1 (gowK (A.gow i hi)).2
theorem knI (H : Kn w L) {X : Option Addr} {cx : Nat} {xs : List Int} {w0 : World} {M : List Thing} (A : Apt w0 w M) (i : Nat) (hi : M[i]? = some (ows X cx xs)) : Kn w (L ++ [kI X xs cx]) :=
  H.addI (A.ints i hi) (A.row i hi).cap.1
/-- A grammar is put into a place of its own. -/
theorem newG {k : Value → World → Prop} (H : Kn w L) {gm : Gram} {Y : Option Addr} {cy : Nat} (h : ∀ b w', Kn w' (L ++ [kB b [.int .i64 gm.nons, .int .i64 gm.toks, .slice Y gm.rules.length cy] 26]) → k (ptrv b) w') :
    Do Try.prog (sAlloc 26) (fun p w1 => Do Try.prog (sStore 26 p (grv gm Y cy)) (fun _ w2 => k p w2) w1) w :=
  do_new (cs := [.int .i64 gm.nons, .int .i64 gm.toks, .slice Y gm.rules.length cy]) H inf26 sz26 rfl rfl rfl rfl h
/-- A rule is put into a place of its own. -/
theorem newR {k : Value → World → Prop} (H : Kn w L) {l : Int} {Y : Option Addr} {n c : Nat} (h : ∀ b w', Kn w' (L ++ [kB b [.int .i64 l, .slice Y n c] 33]) → k (ptrv b) w') :
    Do Try.prog (sAlloc 33) (fun p w1 => Do Try.prog (sStore 33 p (.agg #[.int .i64 l, .slice Y n c])) (fun _ w2 => k p w2) w1) w :=
  do_new (cs := [.int .i64 l, .slice Y n c]) H inf33 sz33 rfl rfl rfl rfl h
end
end Go.Proofs.Ytegcjkhebecgbaa

/- Contracts: words of so many tokens, and all short words of a language, by the program. -/
set_option linter.unusedVariables false
set_option linter.unusedSimpArgs false
set_option maxRecDepth 100000
namespace Go.Sh
open Go
/-- Slices of numbers of which those from place n on are the call's own still. -/
structure OwnSF (e1 e2 : Nat) (w : World) (B : Nat) (X : Option Addr) (c : Nat) (ls : List (List Int)) (ps : Nat → Option Addr × Nat) (n : Nat) : Prop where
  row : ∃ cells, Row w B e1 1 X ls.length c cells ∧ ∀ j, j < ls.length → cells[j]? = some (.slice (ps j).1 (rgt ls j).length (ps j).2)
  own : ∀ j, n ≤ j → j < ls.length → Own e2 w B (ps j).1 (ps j).2 (rgt ls j)
  two : ∀ i j, n ≤ i → n ≤ j → i < ls.length → j < ls.length → i ≠ j → blk (ps i).1 = none ∨ blk (ps i).1 ≠ blk (ps j).1
def FootF (X : Option Addr) (ps : Nat → Option Addr × Nat) (n m : Nat) (q : Nat) : Prop := blk X = some q ∨ ∃ l, n ≤ l ∧ l < m ∧ blk (ps l).1 = some q
section
variable {e1 e2 c n B : Nat} {w w' w0 : World} {X : Option Addr} {ls : List (List Int)} {ps : Nat → Option Addr × Nat} {L : List Thing}
theorem OwnSF.same (h : OwnSF e1 e2 w B X c ls ps n) (hs : ∀ q, FootF X ps n ls.length q → w'.heap[q]? = w.heap[q]?) : OwnSF e1 e2 w' B X c ls ps n := by
  obtain ⟨⟨cells, hr, hc⟩, ho, ht⟩ := h
  exact ⟨⟨cells, hr.same fun q hq => hs q (.inl hq), hc⟩, fun j hn hj => Row.same (ho j hn hj) fun q hq => hs q (.inr ⟨j, hn, hj, hq⟩), ht⟩
theorem OwnSF.up {B' : Nat} (h : OwnSF e1 e2 w B X c ls ps n) (hs : ∀ q, FootF X ps n ls.length q → B' ≤ q) : OwnSF e1 e2 w B' X c ls ps n := by
  obtain ⟨⟨cells, hr, hc⟩, ho, ht⟩ := h
  exact ⟨⟨cells, hr.up fun q hq => hs q (.inl hq), hc⟩, fun j hn hj => Row.up (ho j hn hj) fun q hq => hs q (.inr ⟨j, hn, hj, hq⟩), ht⟩
theorem OwnSF.mono {B' : Nat} (h : OwnSF e1 e2 w B X c ls ps n) (hb : B' ≤ B) : OwnSF e1 e2 w B' X c ls ps n := by
  obtain ⟨⟨cells, hr, hc⟩, ho, ht⟩ := h
  exact ⟨⟨cells, Row.mono hr hb, hc⟩, fun j hn hj => Row.mono (ho j hn hj) hb, ht⟩
theorem OwnSF.foot (h : OwnSF e1 e2 w B X c ls ps n) {q : Nat} (hq : FootF X ps n ls.length q) : B ≤ q ∧ q < w.heap.size := by
  obtain ⟨⟨cells, hr, hc⟩, ho, ht⟩ := h
  rcases hq with hq | ⟨l, hn, hl, hq⟩
  · exact hr.ge hq
  · exact Row.ge (ho l hn hl) hq
theorem OwnSF.ptr (h : OwnSF e1 e2 w B X c ls ps n) (hl : 0 < ls.length) : X = some (ad X) := by
  obtain ⟨⟨cells, hr, hc⟩, _⟩ := h
  exact hr.ptr hl
theorem OwnSF.cell (h : OwnSF e1 e2 w B X c ls ps n) {j : Nat} (hj : j < ls.length) : w.cell? ((ad X).add j) = some (.slice (ps j).1 (rgt ls j).length (ps j).2) := by
  obtain ⟨⟨cells, hr, hc⟩, _⟩ := h
  exact hr.src.cell _ _ (hc j hj)
def lsfi (e1 e2 : Nat) (X : Option Addr) (c : Nat) (ls : List (List Int)) (ps : Nat → Option Addr × Nat) (n : Nat) : Thing := ⟨fun w => OwnSF e1 e2 w 0 X c ls ps n, FootF X ps n ls.length⟩
theorem Apt.lsfi (H : Apt w0 w L) (i : Nat) (hi : L[i]? = some (lsfi e1 e2 X c ls ps n)) : OwnSF e1 e2 w w0.heap.size X c ls ps n := OwnSF.up (H.get i hi) (H.ok i _ hi).lo
theorem Apt.lsf0 (H : Apt w0 w L) (i : Nat) (hi : L[i]? = some (Sh.lssi e1 e2 X c ls ps)) : Apt w0 w (L.set i (Sh.lsfi e1 e2 X c ls ps 0)) := by
  have o := H.lssi i hi
  refine H.set hi (Gx.refl _ w) (fun q hq => .inl ?_) (fun q hq => (o.foot ?_).2) fun w' hs => ?_
  · rcases hq with hq | ⟨l, _, hl, hq⟩
    · exact .inl hq
    · exact .inr ⟨l, hl, hq⟩
  · rcases hq with hq | ⟨l, _, hl, hq⟩
    · exact .inl hq
    · exact .inr ⟨l, hl, hq⟩
  · have o' : OwnSF e1 e2 w w0.heap.size X c ls ps 0 := ⟨o.row, fun j _ hj => o.own j hj, fun i j _ _ hi hj => o.two i j hi hj⟩
    exact (o'.mono (Nat.zero_le _)).same hs
/-- The slice at place n is taken out. -/
theorem Apt.pull (H : Apt w0 w L) (j : Nat) (he : e1 ≠ e2) (hj : L[j]? = some (Sh.lsfi e1 e2 X c ls ps n)) (hn : n < ls.length) : Apt w0 w (L.set j (Sh.lsfi e1 e2 X c ls ps (n + 1)) ++ [rwi e2 1 (ps n).1 (rgt ls n).length (ps n).2 (Sh.ints (rgt ls n))]) := by
  have o := H.lsfi j hj
  have okj := H.ok j _ hj
  have hsub : ∀ q, FootF X ps (n + 1) ls.length q → FootF X ps n ls.length q := fun q hq => by
    rcases hq with hq | ⟨l, h1, hl, hq⟩
    · exact .inl hq
    · exact .inr ⟨l, by omega, hl, hq⟩
  have hin : ∀ q, blk (ps n).1 = some q → FootF X ps n ls.length q := fun q hq => .inr ⟨n, Nat.le_refl _, hn, hq⟩
  have hoff : ∀ q, FootF X ps (n + 1) ls.length q → blk (ps n).1 ≠ some q := fun q hq e => by
    rcases hq with hq | ⟨l, h1, hl, hq⟩
    · obtain ⟨cells, hr, _⟩ := o.row
      rcases row_ne (o.own n (Nat.le_refl _) hn) hr (fun e => he e.symm) with h | h
      · rw [h] at e; cases e
      · exact h (e.trans hq.symm)
    · rcases o.two n l (Nat.le_refl _) (by omega) hn hl (by omega) with h | h
      · rw [h] at e; cases e
      · exact h (e.trans hq.symm)
  have sub : ∀ l x, (L.set j (Sh.lsfi e1 e2 X c ls ps (n + 1)) ++ [rwi e2 1 (ps n).1 (rgt ls n).length (ps n).2 (Sh.ints (rgt ls n))])[l]? = some x → (l = j ∧ x = Sh.lsfi e1 e2 X c ls ps (n + 1)) ∨ (l ≠ j ∧ L[l]? = some x) ∨ (l = L.length ∧ x = rwi e2 1 (ps n).1 (rgt ls n).length (ps n).2 (Sh.ints (rgt ls n))) := fun l x hx => by
    rcases get_snoc hx with h | ⟨h1, h2⟩
    · rcases get_set h with h | h
      · exact .inl h
      · exact .inr (.inl h)
    · rw [List.length_set] at h1
      exact .inr (.inr ⟨h1, h2⟩)
  have ho := o.own n (Nat.le_refl _) hn
  refine ⟨H.gr, fun l x hx => ?_, fun l m x y hlm hx hy q hq hq' => ?_⟩
  · rcases sub l x hx with ⟨_, rfl⟩ | ⟨_, h⟩ | ⟨_, rfl⟩
    · have o' : OwnSF e1 e2 w w0.heap.size X c ls ps (n + 1) := ⟨o.row, fun i hi => o.own i (by omega), fun a b ha hb => o.two a b (by omega) (by omega)⟩
      exact ⟨fun q hq => okj.lo q (hsub q hq), fun q hq => okj.hi q (hsub q hq), fun w' hs => (o'.mono (Nat.zero_le _)).same hs⟩
    · exact H.ok l x h
    · exact ⟨fun q hq => okj.lo q (hin q hq), fun q hq => okj.hi q (hin q hq), rwi_kept ho⟩
  · rcases sub l x hx with ⟨hl, rfl⟩ | ⟨hl, h⟩ | ⟨hl, rfl⟩
    · rcases sub m y hy with ⟨hm, rfl⟩ | ⟨hm, h'⟩ | ⟨hm, rfl⟩
      · exact hlm (hl.trans hm.symm)
      · exact H.two j m _ y (fun e => hm e.symm) hj h' q (hsub q hq) hq'
      · exact hoff q hq hq'
    · rcases sub m y hy with ⟨hm, rfl⟩ | ⟨hm, h'⟩ | ⟨hm, rfl⟩
      · exact H.two l j x _ hl h hj q hq (hsub q hq')
      · exact H.two l m x y hlm h h' q hq hq'
      · exact H.two l j x _ hl h hj q hq (hin q hq')
    · rcases sub m y hy with ⟨hm, rfl⟩ | ⟨hm, h'⟩ | ⟨hm, rfl⟩
      · exact hoff q hq' hq
      · exact H.two m j y _ hm h' hj q hq' (hin q hq)
      · exact hlm (hl.trans hm.symm)
end
end Go.Sh
namespace Go.Proofs.Ytegcjkhebecgbaa
open Go Go.Sh Go.RowKit
abbrev lsf (X : Option Addr) (c : Nat) (ls : List (List Int)) (ps : Nat → Option Addr × Nat) (n : Nat) : Thing := lsfi 27 3 X c ls ps n
theorem wordsOf_c {toks n : Nat} {tk : Int} {w : World} (htk : tk = toks) (ht : toks ≤ 4) (hn : n ≤ 4) {k : Value → World → Prop}
    (hk : ∀ w' U d ps, Gr w w' → OwnSS 27 3 w' w.heap.size U d (wordsN toks n) ps → k (.slice U (wordsN toks n).length d) w') :
    CallK Try.prog 157 [.int .i64 tk, .int .i64 n] k w := by
  subst htk
  refine enter157 ?_
  unfold S157
  have H := Apt.nil w
  refine buildH H u27 inf3 [] (by decide) (by decide) (by simp [Instr.fill, madeCells]) rfl fun b0 w1 H => ?_
  refine buildH H u35 inf27 [.slice (some ⟨b0, 0, none⟩) 0 0] (by decide) (by decide) (by simp [Instr.fill, madeCells, Value.cells, rng1]) rfl fun b1 w2 H => ?_
  simp only [List.nil_append, List.cons_append] at H
  have H := (H.single (i := 1) (j := 0) (by decide) (e2 := 3) (ys := []) rfl rfl).erase 0
  simp only [List.set_cons_zero, List.set_cons_succ, List.eraseIdx_cons_zero, List.eraseIdx_cons_succ] at H
  refine loop_to n 0 (fun m f w' => m ≤ n ∧ f 13 = .int .i64 m ∧ ∃ (U : Option Addr) (d : Nat) (ps : Nat → Option Addr × Nat), f 5 = .slice U (wordsN toks m).length d ∧ Apt w w' [lss U d (wordsN toks m) ps])
    ⟨Nat.zero_le _, rfl, _, _, _, rfl, H⟩ ?_
  rintro m f w3 N hag ⟨hm, h13, U, d, ps, h5, H⟩ hN
  have f0 : f 0 = .int .i64 toks := hag 0 (by decide)
  have f12 : f 12 = .int .i64 n := hag 12 (by decide)
  simp only [f12, h13, h5, f0, go_sem, Nat.reduceEqDiff]
  by_cases hlt : m < n
  case neg =>
    simp only [show ¬ ((m : Int) < n) from by omega, decide_false, go_sem, Nat.reduceEqDiff]
    obtain rfl : m = n := by omega
    exact hk _ U d ps H.gr (H.lssi 0 rfl)
  simp only [show ((m : Int) < n) from by omega, decide_true, go_sem, Nat.reduceEqDiff]
  have hwl := wordsN_le (toks := toks) (n := m) (by omega) (by omega)
  have hwm := fun w => @wordsN_mem toks m w
  have hnext : wordsN toks (m + 1) = (wordsN toks m).flatMap (extW toks) := rfl
  generalize wordsN toks m = ls at *
  refine buildH H u35 inf27 [] (by decide) (by decide) (by simp [Instr.fill, madeCells]) rfl fun b2 w4 H => ?_
  simp only [List.nil_append, List.cons_append] at H
  have H := H.emptySS 1 (e2 := 3) (fun _ => (none, 0)) rfl
  simp only [List.set_cons_zero, List.set_cons_succ] at H
  refine loop_to ls.length 0 (fun i f w' => i ≤ ls.length ∧ f 18 = .int .i64 i ∧ ∃ (X : Option Addr) (c : Nat) (rs : Nat → Option Addr × Nat), f 6 = .slice X ((ls.take i).flatMap (extW toks)).length c ∧
      Apt w w' [lss U d ls ps, lss X c ((ls.take i).flatMap (extW toks)) rs])
    ⟨Nat.zero_le _, rfl, _, _, _, rfl, H⟩ ?_
  rintro i g w5 N2 hag2 ⟨hi, h18, X, c, rs, h6, H⟩ hN2
  have g0 : g 0 = .int .i64 toks := (hag2 0 (by decide)).trans f0
  have g16 : g 16 = .slice U ls.length d := hag2 16 (by decide)
  have g17 : g 17 = .int .i64 ls.length := hag2 17 (by decide)
  have g13 : g 13 = .int .i64 m := (hag2 13 (by decide)).trans h13
  simp only [g0, g16, g17, g13, h18, h6, go_sem, Nat.reduceEqDiff]
  by_cases hlt2 : i < ls.length
  case neg =>
    simp only [show ¬ ((i : Int) < ls.length) from by omega, decide_false, go_sem, Nat.reduceEqDiff]
    rw [List.take_of_length_le (by omega)] at H h6 ⊢
    rw [i64_of (by omega) (by omega)]
    refine hN _ _ hlt ⟨by omega, rfl, X, c, rs, ?_, ?_⟩
    · rw [hnext]
      exact rfl
    · rw [hnext]
      exact H.erase 0
  simp only [show ((i : Int) < ls.length) from by omega, decide_true, go_sem, Nat.reduceEqDiff]
  have o := H.lssi 0 rfl
  have hm2 := hwm _ (rgt_mem hlt2)
  have hflat := flatMap_take_le (ls := ls) (k := toks) i
  have hmul : ls.length * toks ≤ 1024 * 4 := Nat.mul_le_mul hwl (by omega)
  have hel : ∀ t, (extW t (rgt ls i)).length = t := fun t => by simp [extW]
  refine rdi (ixn35 (fun h => o.ptr h) hlt2) ?_
  refine rdi (ld27 (o.cell hlt2)) ?_
  refine loop_to toks 0 (fun t f w' => t ≤ toks ∧ f 23 = .int .i64 t ∧ ∃ (X : Option Addr) (c : Nat) (rs : Nat → Option Addr × Nat), f 6 = .slice X ((ls.take i).flatMap (extW toks) ++ extW t (rgt ls i)).length c ∧
      Apt w w' [lss U d ls ps, lss X c ((ls.take i).flatMap (extW toks) ++ extW t (rgt ls i)) rs])
    ⟨Nat.zero_le _, rfl, X, c, rs, by simp only [extW, List.range_zero, List.map_nil, List.append_nil]; exact h6, by simpa only [extW, List.range_zero, List.map_nil, List.append_nil] using H⟩ ?_
  rintro t r w7 N3 hag3 ⟨ht', r23, X, c, rs, r6, H⟩ hN3
  have r8 : r 8 = .slice (ps i).1 (rgt ls i).length (ps i).2 := hag3 8 (by decide)
  have r22 : r 22 = .int .i64 toks := hag3 22 (by decide)
  have r18 : r 18 = .int .i64 i := (hag3 18 (by decide)).trans h18
  simp only [r8, r22, r23, r6, go_sem, Nat.reduceEqDiff]
  by_cases hlt3 : t < toks
  case neg =>
    simp only [show ¬ ((t : Int) < toks) from by omega, decide_false, r18, go_sem, Nat.reduceEqDiff]
    rw [i64_of (by omega) (by omega)]
    obtain rfl : t = toks := by omega
    refine hN2 _ _ hlt2 ⟨by omega, rfl, X, c, rs, ?_, ?_⟩
    · rw [take_snoc_rgt hlt2, flatMap_snoc]
      exact r6
    · rw [take_snoc_rgt hlt2, flatMap_snoc]
      exact H
  simp only [show ((t : Int) < toks) from by omega, decide_true, go_sem, Nat.reduceEqDiff]
  refine buildH H u27 inf3 [] (by decide) (by decide) (by simp [Instr.fill, madeCells]) rfl fun b3 w8 H => ?_
  simp only [List.nil_append, List.cons_append] at H
  have o := H.lssi 0 rfl
  have hwi := (o.own i hlt2).ints
  refine apH H 2 (xs := []) rfl hwi rfl rfl (by simp; omega) fun X1 d1 w9 H => ?_
  simp only [List.set_cons_zero, List.set_cons_succ, List.nil_append] at H ⊢
  refine pushH H 2 rfl rfl (by omega) fun t1 X2 d2 w10 H => ?_
  simp only [List.set_cons_zero, List.set_cons_succ] at H
  refine pushSSH H 1 2 (by decide) rfl rfl rfl rfl (by rw [List.length_append, hel]; omega) fun t2 X3 c3 w11 rs3 H => ?_
  have H := H.erase 2
  simp only [List.set_cons_zero, List.set_cons_succ, List.eraseIdx_cons_zero, List.eraseIdx_cons_succ] at H
  rw [i64_of (by omega) (by omega)]
  refine hN3 _ _ hlt3 ⟨by omega, rfl, X3, c3, rs3, ?_, ?_⟩
  · rw [extW_succ, ← List.append_assoc]
    rfl
  · rw [extW_succ, ← List.append_assoc]
    exact H
theorem implShortWords_c {F : Nat → Prop} {w : World} {v : Value} {gm : Gram} {most : Int} (hv : GramV F w v gm) {k : Value → World → Prop}
    (hk : ∀ w' U d ps, Gr w w' → OwnSS 27 3 w' w.heap.size U d (shortV gm most).1 ps → k (.tuple #[.slice U (shortV gm most).1.length d, .bool (shortV gm most).2]) w') :
    CallK Try.prog 23 [v, .int .i64 most] k w := by
  obtain ⟨Y, cy, rfl, hc, hy⟩ := hv
  refine enter23 ?_
  unfold S23
  have H := Apt.nil w
  refine boxH H fun b1 w1 H => ?_
  rw [ldB_agg agg26 sz26 rfl (H.box 0 rfl)]
  refine isGrammar_c (gm := gm) ⟨Y, cy, rfl, hc, hy.gr H.gr⟩ fun w2 g2 => ?_
  have H := H.step g2
  unfold shortV at hk
  cases hg : goodG gm
  · simp only [Bool.not_false, go_sem, Nat.reduceEqDiff]
    rw [hg, Bool.false_and, if_neg Bool.false_ne_true] at hk
    exact hk _ none 0 (fun _ => (none, 0)) H.gr (OwnSS.nil _ _ _ _ _)
  simp only [Bool.not_true, go_sem, Nat.reduceEqDiff]
  refine in_c ?_
  rw [hg, Bool.true_and] at hk
  cases hm : inB most 0 4
  · simp only [Bool.not_false, go_sem, Nat.reduceEqDiff]
    rw [hm, if_neg Bool.false_ne_true] at hk
    exact hk _ none 0 (fun _ => (none, 0)) H.gr (OwnSS.nil _ _ _ _ _)
  rw [hm, if_pos rfl] at hk
  obtain ⟨most, rfl⟩ : ∃ m' : Nat, most = m' := by
    simp only [inB, Bool.and_eq_true, decide_eq_true_eq] at hm
    exact ⟨most.toNat, by omega⟩
  have hm4 : most ≤ 4 := by
    simp only [inB, Bool.and_eq_true, decide_eq_true_eq] at hm
    omega
  rw [Int.toNat_natCast] at hk
  dsimp only at hk
  have htk := good_toks hg
  obtain ⟨toks, htoks⟩ : ∃ t : Nat, gm.toks = t := ⟨gm.toks.toNat, by omega⟩
  have htn : gm.toks.toNat = toks := by omega
  simp only [Bool.not_true, go_sem, Nat.reduceEqDiff]
  simp only [List.nil_append] at H
  refine buildH H u35 inf27 [] (by decide) (by decide) (by simp [Instr.fill, madeCells]) rfl fun b2 w3 H => ?_
  simp only [List.nil_append, List.cons_append] at H
  have H := H.emptySS 1 (e2 := 3) (fun _ => (none, 0)) rfl
  simp only [List.set_cons_zero, List.set_cons_succ] at H
  rw [i64_of (by omega) (by omega)]
  refine loop_to (most + 1) 0 (fun n f w' => n ≤ most + 1 ∧ f 21 = .int .i64 n ∧ ∃ (V : Option Addr) (e : Nat) (qs : Nat → Option Addr × Nat), f 6 = .slice V (shortW gm n).length e ∧
      Apt w w' [bx b1 [.int .i64 gm.nons, .int .i64 gm.toks, .slice Y gm.rules.length cy] 26, lss V e (shortW gm n) qs])
    ⟨Nat.zero_le _, rfl, _, _, _, rfl, H⟩ ?_
  rintro n f w4 N hag ⟨hn, h21, V, e, qs, h6, H⟩ hN
  have f20 : f 20 = .int .i64 ((most : Int) + 1) := hag 20 (by decide)
  have f2 : f 2 = ptrv b1 := hag 2 (by decide)
  simp only [f20, f2, h21, h6, go_sem, Nat.reduceEqDiff]
  by_cases hlt0 : n < most + 1
  case neg =>
    simp only [show ¬ ((n : Int) < (most : Int) + 1) from by omega, decide_false, go_sem, Nat.reduceEqDiff]
    obtain rfl : n = most + 1 := by omega
    exact hk _ V e qs H.gr (H.lssi 1 rfl)
  simp only [show ((n : Int) < (most : Int) + 1) from by omega, decide_true, go_sem, Nat.reduceEqDiff]
  rw [ldB3 (H.box 0 rfl) rfl]
  refine wordsOf_c (toks := toks) htoks (by omega) (by omega) fun w5 U d ps g5 o5 => ?_
  have H := H.addLss g5 o5
  have H := H.lsf0 2 rfl
  simp only [List.nil_append, List.cons_append, List.set_cons_zero, List.set_cons_succ] at H
  have hwl := wordsN_le (toks := toks) (n := n) (by omega) (by omega)
  have hwm := fun w => @wordsN_mem toks n w
  have hsl := shortW_len (gm := gm) htk.2 (n := n) (by omega)
  have hshort := shortW_succ gm n
  rw [htn] at hshort
  clear o5
  generalize wordsN toks n = ls at *
  generalize shortW gm n = so at *
  simp only [go_sem, Nat.reduceEqDiff]
  refine loop_to ls.length 0 (fun i f w' => i ≤ ls.length ∧ f 29 = .int .i64 i ∧ ∃ (V : Option Addr) (e : Nat) (qs : Nat → Option Addr × Nat), f 6 = .slice V (so ++ (ls.take i).filter (inL gm.rules)).length e ∧
      Apt w w' [bx b1 [.int .i64 gm.nons, .int .i64 gm.toks, .slice Y gm.rules.length cy] 26, lss V e (so ++ (ls.take i).filter (inL gm.rules)) qs, lsf U d ls ps i])
    ⟨Nat.zero_le _, rfl, V, e, qs, by simp only [List.take_zero, List.filter_nil, List.append_nil]; exact h6, by simpa only [List.take_zero, List.filter_nil, List.append_nil] using H⟩ ?_
  rintro i g w6 N2 hag2 ⟨hi, h29, V, e, qs, h6, H⟩ hN2
  have g27 : g 27 = .slice U ls.length d := hag2 27 (by decide)
  have g28 : g 28 = .int .i64 ls.length := hag2 28 (by decide)
  have g2' : g 2 = ptrv b1 := (hag2 2 (by decide)).trans f2
  have g7 : g 7 = .int .i64 n := hag2 7 (by decide)
  have g21 : g 21 = .int .i64 n := (hag2 21 (by decide)).trans h21
  simp only [g27, g28, g2', g7, g21, h29, h6, go_sem, Nat.reduceEqDiff]
  by_cases hlt : i < ls.length
  case neg =>
    simp only [show ¬ ((i : Int) < ls.length) from by omega, decide_false, go_sem, Nat.reduceEqDiff]
    rw [List.take_of_length_le (by omega)] at H h6
    rw [i64_of (by omega) (by omega)]
    refine hN _ _ hlt0 ⟨by omega, rfl, V, e, qs, ?_, ?_⟩
    · rw [hshort]
      exact h6
    · rw [hshort]
      exact H.erase 2
  simp only [show ((i : Int) < ls.length) from by omega, decide_true, go_sem, Nat.reduceEqDiff]
  have o := H.lsfi 2 rfl
  have hm2 := hwm _ (rgt_mem hlt)
  have hwi := (o.own i (Nat.le_refl _) hlt).ints
  have hfl := filter_le (inL gm.rules) (ls.take i)
  rw [List.length_take] at hfl
  have hxt : ∀ t ∈ rgt ls i, 0 ≤ t ∧ t ≤ 100 := fun t hmem => by
    have := hm2.2 t hmem
    omega
  refine rdi (ixn35 (fun h => o.ptr h) hlt) ?_
  refine rdi (ld27 (o.cell hlt)) ?_
  refine rdi (ldB_agg agg26 sz26 rfl (H.box 0 rfl)) ?_
  refine spans_c (gm := gm) ⟨Y, cy, rfl, hc, hy.gr H.gr⟩ hg hwi rfl (by omega) hxt fun w7 bT HT => ?_
  simp only [go_sem, Nat.reduceEqDiff]
  refine rdi (ixa122 (by decide) (by decide)) ?_
  refine rdi (ixa121 (by decide) (by decide)) ?_
  refine rdi (ixa120 (by omega) (by omega)) ?_
  simp only [Int.toNat_natCast, go_sem, Nat.reduceEqDiff]
  have hoff : 0 + (0 + 1) + Int.toNat 0 * 121 + Int.toNat 0 * 11 + n = 0 * 121 + 0 * 11 + (rgt ls i).length + 1 := by
    rw [show Int.toNat 0 = 0 from rfl, hm2.1]
    omega
  rw [hoff]
  refine rdi (ldB4 (HT.box 0 rfl) (cellsT_at (by decide) (by decide) (by omega))) ?_
  have H := (H.step HT.gr).pull 2 (by decide) rfl hlt
  simp only [List.nil_append, List.cons_append, List.set_cons_zero, List.set_cons_succ] at H
  have hsp : spanT gm.rules (rgt ls i) 0 0 (rgt ls i).length = inL gm.rules (rgt ls i) := rfl
  rw [hsp]
  cases hin : inL gm.rules (rgt ls i)
  · simp only [go_sem, Nat.reduceEqDiff]
    rw [i64_of (by omega) (by omega)]
    have hso : so ++ (ls.take (i + 1)).filter (inL gm.rules) = so ++ (ls.take i).filter (inL gm.rules) := by
      rw [take_snoc_rgt hlt, filter_snoc, hin, if_neg Bool.false_ne_true, List.append_nil]
    rw [← hso] at H h6
    exact hN2 _ _ hlt ⟨by omega, rfl, V, e, qs, h6, H.erase 3⟩
  · simp only [go_sem, Nat.reduceEqDiff]
    have hso : so ++ (ls.take (i + 1)).filter (inL gm.rules) = so ++ (ls.take i).filter (inL gm.rules) ++ [rgt ls i] := by
      rw [take_snoc_rgt hlt, filter_snoc, hin, if_pos rfl, List.append_assoc]
    refine pushSSH H 1 3 (by decide) rfl rfl rfl rfl (by rw [List.length_append]; omega) fun t V' e' w8 qs' H => ?_
    have H := H.erase 3
    simp only [List.set_cons_zero, List.set_cons_succ, List.eraseIdx_cons_zero, List.eraseIdx_cons_succ] at H
    rw [i64_of (by omega) (by omega)]
    rw [← hso] at H
    refine hN2 _ _ hlt ⟨by omega, rfl, V', e', qs', ?_, H⟩
    rw [hso]
    exact rfl
end Go.Proofs.Ytegcjkhebecgbaa

/- Contract: what comes again and again, by the program. -/
set_option linter.unusedVariables false
set_option linter.unusedSimpArgs false
set_option maxRecDepth 100000
namespace Go.Proofs.Ytegcjkhebecgbaa
open Go Go.Sh Go.RowKit

end Go.Proofs.Ytegcjkhebecgbaa

/- Bm: bodies of functions as terms of the frame calculus, printed by shgen.py of this repository. -/
set_option linter.unusedVariables false
set_option maxRecDepth 100000
namespace Go.Proofs.Ytegcjkhebecgbaa
open Go Go.Sh

/-! loop.example/g00758/spec.l20Two -/
end Go.Proofs.Ytegcjkhebecgbaa

/- Contract: whether two grammars may be set beside each other (the reference's l20Two). -/
set_option linter.unusedVariables false
set_option linter.unusedSimpArgs false
set_option maxRecDepth 100000
namespace Go.Sh
open Go
end Go.Sh
namespace Go.Proofs.Ytegcjkhebecgbaa
open Go Go.Sh Go.RowKit

end Go.Proofs.Ytegcjkhebecgbaa

/- Contracts: words in order, the first unlike word of two lists (the reference), equal lists (the program's library). -/
set_option linter.unusedVariables false
set_option linter.unusedSimpArgs false
set_option maxRecDepth 100000
namespace Go.Sh
open Go
end Go.Sh
namespace Go.Proofs.Ytegcjkhebecgbaa
open Go Go.Sh Go.RowKit
end Go.Proofs.Ytegcjkhebecgbaa

/- Contracts: equal lists (the program's library), SameUpTo of the reference and of the program. -/
set_option linter.unusedVariables false
set_option linter.unusedSimpArgs false
set_option maxRecDepth 100000
namespace Go.Sh
open Go
end Go.Sh
namespace Go.Proofs.Ytegcjkhebecgbaa
open Go Go.Sh Go.RowKit
end Go.Proofs.Ytegcjkhebecgbaa

/- Contracts: words compared (the program's library), FirstUnlike of the reference and of the program. -/
set_option linter.unusedVariables false
set_option linter.unusedSimpArgs false
set_option maxRecDepth 100000
namespace Go.Sh
open Go
def cmpI (x y : Int) : Int := if x < y then -1 else if y < x then 1 else 0
def cmpL : List Int → List Int → Int
  | x :: xs, y :: ys => if cmpI x y ≠ 0 then cmpI x y else cmpL xs ys
  | [], [] => 0
  | [], _ :: _ => -1
  | _ :: _, [] => 1
theorem cmpI_lt {x y : Int} : cmpI x y < 0 ↔ x < y := by
  unfold cmpI
  split
  · omega
  · split <;> omega
theorem cmpI_eq {x y : Int} : cmpI x y = 0 ↔ x = y := by
  unfold cmpI
  split
  · omega
  · split <;> omega
/-- The rest of a list of slices, from place i on. -/
structure AtS (w : World) (X : Option Addr) (n c : Nat) (ls : List (List Int)) (ps : Nat → Option Addr × Nat) (i : Nat) : Prop where
  len : n = ls.length - i
  le : n ≤ c
  ptr : 0 < n → X = some (ad X)
  cell : ∀ j, j < n → w.cell? ((ad X).add j) = some (.slice (ps (i + j)).1 (rgt ls (i + j)).length (ps (i + j)).2)
theorem AtS.gr {w w' : World} {X : Option Addr} {n c i : Nat} {ls : List (List Int)} {ps : Nat → Option Addr × Nat} (h : AtS w X n c ls ps i) (g : Gr w w') : AtS w' X n c ls ps i := ⟨h.len, h.le, h.ptr, fun j hj => g.cell (h.cell j hj)⟩
theorem AtS.first {w : World} {X : Option Addr} {n c i : Nat} {ls : List (List Int)} {ps : Nat → Option Addr × Nat} (h : AtS w X n c ls ps i) (h0 : 0 < n) : w.cell? ((ad X).add 0) = some (.slice (ps i).1 (rgt ls i).length (ps i).2) := h.cell 0 h0
theorem AtS.next {w : World} {X : Option Addr} {n c i : Nat} {ls : List (List Int)} {ps : Nat → Option Addr × Nat} (h : AtS w X n c ls ps i) (h0 : 0 < n) : AtS w (sub X 1 c 1) (n - 1) (c - 1) ls ps (i + 1) := by
  have hl := h.len
  have hle := h.le
  have hX := h.ptr h0
  refine ⟨by omega, by omega, fun h1 => ?_, fun j hj => ?_⟩
  · unfold Sh.sub
    rw [if_neg (by omega), hX]
    rfl
  · have := h.cell (j + 1) (by omega)
    unfold Sh.sub
    rw [if_neg (by omega), hX]
    show w.cell? (((ad X).add (1 * 1)).add j) = _
    rw [add_add, show 1 * 1 + j = j + 1 from by omega, this, show i + (j + 1) = i + 1 + j from by omega]
theorem AtS.of {w : World} {e1 e2 B c : Nat} {X : Option Addr} {ls : List (List Int)} {ps : Nat → Option Addr × Nat} (o : OwnSS e1 e2 w B X c ls ps) : AtS w X ls.length c ls ps 0 := by
  refine ⟨by omega, ?_, fun h => o.ptr h, fun j hj => ?_⟩
  · obtain ⟨⟨cells, hr, hc⟩, _⟩ := o
    exact hr.cap.1
  · rw [Nat.zero_add]
    exact o.cell hj
end Go.Sh
namespace Go.Proofs.Ytegcjkhebecgbaa
open Go Go.Sh Go.RowKit
end Go.Proofs.Ytegcjkhebecgbaa

/- The first of rising lists: the plain law. -/
set_option linter.unusedVariables false
set_option linter.unusedSimpArgs false
set_option maxRecDepth 100000
namespace Go.Sh
open Go
def ltL (a b : List Int) : Prop := cmpL a b < 0
theorem cmpI_anti (x y : Int) : cmpI y x = - cmpI x y := by
  unfold cmpI
  by_cases h1 : x < y
  · rw [if_pos h1, if_neg (by omega), if_pos h1]
    rfl
  · by_cases h2 : y < x
    · rw [if_pos h2, if_neg h1, if_pos h2]
    · rw [if_neg h2, if_neg h1, if_neg h1, if_neg h2]
      rfl
theorem cmpL_anti : ∀ a b : List Int, cmpL b a = - cmpL a b := by
  intro a
  induction a with
  | nil => intro b; cases b <;> rfl
  | cons x a ih =>
    intro b
    cases b with
    | nil => rfl
    | cons y b =>
      rw [cmpL, cmpL, cmpI_anti x y]
      by_cases h : cmpI x y = 0
      · rw [if_neg (fun e => e (by omega)), if_neg (fun e => e h)]
        exact ih b
      · rw [if_pos h, if_pos (by omega)]
theorem cmpL_zero : ∀ {a b : List Int}, cmpL a b = 0 → a = b := by
  intro a
  induction a with
  | nil => intro b h; cases b with
    | nil => rfl
    | cons y b => cases h
  | cons x a ih =>
    intro b h
    cases b with
    | nil => cases h
    | cons y b =>
      rw [cmpL] at h
      by_cases e : cmpI x y = 0
      · rw [if_neg (fun h => h e)] at h
        rw [cmpI_eq.1 e, ih h]
      · rw [if_pos e] at h
        exact absurd h e
theorem ltL_irrefl (a : List Int) : ¬ ltL a a := by
  intro h
  have := cmpL_anti a a
  unfold ltL at h
  omega
theorem ltL_tri (a b : List Int) : ltL a b ∨ a = b ∨ ltL b a := by
  unfold ltL
  have := cmpL_anti a b
  by_cases h : cmpL a b = 0
  · exact .inr (.inl (cmpL_zero h))
  · omega
theorem ltL_cons {x y : Int} {a b : List Int} : ltL (x :: a) (y :: b) ↔ x < y ∨ (x = y ∧ ltL a b) := by
  unfold ltL
  rw [cmpL]
  by_cases e : cmpI x y = 0
  · rw [if_neg (fun h => h e)]
    have := cmpI_eq.1 e
    omega
  · rw [if_pos e, cmpI_lt]
    have : ¬ x = y := fun h => e (cmpI_eq.2 h)
    omega
theorem ltL_trans : ∀ {a b c : List Int}, ltL a b → ltL b c → ltL a c := by
  intro a
  induction a with
  | nil =>
    intro b c h1 h2
    cases c with
    | nil =>
      cases b with
      | nil => exact h2
      | cons y b => exact absurd h2 (by unfold ltL; show ¬ ((1 : Int) < 0); omega)
    | cons z c => show (-1 : Int) < 0; omega
  | cons x a ih =>
    intro b c h1 h2
    cases b with
    | nil => exact absurd h1 (by unfold ltL; show ¬ ((1 : Int) < 0); omega)
    | cons y b =>
      cases c with
      | nil => exact absurd h2 (by unfold ltL; show ¬ ((1 : Int) < 0); omega)
      | cons z c =>
        rw [ltL_cons] at h1 h2 ⊢
        rcases h1 with h1 | ⟨h1, h1'⟩
        · rcases h2 with h2 | ⟨h2, h2'⟩
          · exact .inl (by omega)
          · exact .inl (by omega)
        · rcases h2 with h2 | ⟨h2, h2'⟩
          · exact .inl (by omega)
          · exact .inr ⟨by omega, ih h1' h2'⟩
/-- Rising. -/
abbrev Rise (l : List (List Int)) : Prop := l.Pairwise ltL
theorem rise_sub : ∀ {l' l : List (List Int)}, Rise l → Rise l' → (∀ x ∈ l, x ∈ l') → l.Sublist l' := by
  intro l'
  induction l' with
  | nil =>
    intro l _ _ h
    cases l with
    | nil => exact List.Sublist.slnil
    | cons a l => exact absurd (h a (List.mem_cons_self ..)) (by simp)
  | cons b s ih =>
    intro l hl hl' h
    cases l with
    | nil => exact List.nil_sublist _
    | cons a t =>
      have hl1 := List.pairwise_cons.1 hl
      have hl2 := List.pairwise_cons.1 hl'
      rcases List.mem_cons.1 (h a (List.mem_cons_self ..)) with e | e
      · subst e
        refine List.Sublist.cons_cons _ (ih hl1.2 hl2.2 fun x hx => ?_)
        rcases List.mem_cons.1 (h x (List.mem_cons_of_mem _ hx)) with e | e
        · subst e
          exact absurd (hl1.1 _ hx) (ltL_irrefl _)
        · exact e
      · refine List.Sublist.cons _ (ih hl hl2.2 fun x hx => ?_)
        rcases List.mem_cons.1 (h x hx) with e' | e'
        · subst e'
          rcases List.mem_cons.1 hx with e2 | e2
          · subst e2
            exact e
          · exact absurd (ltL_trans (hl1.1 _ e2) (hl2.1 _ e)) (ltL_irrefl _)
        · exact e'
/-- The first M lists of a set, rising. -/
structure Firsts (M : Nat) (S : List Int → Prop) (l : List (List Int)) : Prop where
  rise : Rise l
  mem : ∀ x ∈ l, S x
  len : l.length ≤ M
  all : ∀ x, S x → x ∈ l ∨ (l.length = M ∧ ∀ y ∈ l, ltL y x)
theorem Firsts.sub {M : Nat} {S : List Int → Prop} {l l' : List (List Int)} (h : Firsts M S l) (h' : Firsts M S l') : ∀ x ∈ l, x ∈ l' := by
  intro x hx
  rcases h'.all x (h.mem x hx) with e | ⟨e1, e2⟩
  · exact e
  · exfalso
    have hs : l'.Sublist l := rise_sub h'.rise h.rise fun y hy => by
      rcases h.all y (h'.mem y hy) with e | ⟨_, e3⟩
      · exact e
      · exact absurd (ltL_trans (e2 y hy) (e3 x hx)) (ltL_irrefl _)
    have := hs.eq_of_length_le (by rw [e1]; exact h.len)
    subst this
    exact ltL_irrefl _ (e2 x hx)
theorem Firsts.nil (M : Nat) {S : List Int → Prop} (h : ∀ x, ¬ S x) : Firsts M S [] := ⟨List.Pairwise.nil, fun x hx => by simp at hx, Nat.zero_le _, fun x hx => absurd hx (h x)⟩
theorem Firsts.zero (S : List Int → Prop) : Firsts 0 S [] := ⟨List.Pairwise.nil, fun x hx => by simp at hx, Nat.zero_le _, fun x hx => .inr ⟨rfl, fun y hy => by simp at hy⟩⟩
theorem Firsts.congr {M : Nat} {S S' : List Int → Prop} {l : List (List Int)} (h : Firsts M S l) (e : ∀ x, S' x ↔ S x) : Firsts M S' l := ⟨h.rise, fun x hx => (e x).2 (h.mem x hx), h.len, fun x hx => h.all x ((e x).1 hx)⟩
/-- M of S that are less than x. -/
def Under (M : Nat) (S : List Int → Prop) (x : List Int) : Prop := ∃ ys, Rise ys ∧ ys.length = M ∧ ∀ y ∈ ys, S y ∧ ltL y x
theorem Firsts.more {M : Nat} {S S' : List Int → Prop} {l : List (List Int)} (h : Firsts M S l) (h1 : ∀ x, S x → S' x) (h2 : ∀ x, S' x → S x ∨ Under M S x) : Firsts M S' l := by
  refine ⟨h.rise, fun x hx => h1 x (h.mem x hx), h.len, fun x hx => ?_⟩
  rcases h2 x hx with e | ⟨ys, hy1, hy2, hy3⟩
  · exact h.all x e
  by_cases hxl : x ∈ l
  · exact .inl hxl
  have key : ∀ z ∈ l, ltL z x := fun z hz => by
    rcases ltL_tri z x with e | e | e
    · exact e
    · subst e
      exact absurd hz hxl
    · exfalso
      have hs : ys.Sublist l := rise_sub hy1 h.rise fun y hy => by
        rcases h.all y (hy3 y hy).1 with e1 | ⟨_, e1⟩
        · exact e1
        · exact absurd (ltL_trans (e1 z hz) (ltL_trans (hy3 y hy).2 e)) (ltL_irrefl _)
      have := hs.eq_of_length_le (by rw [hy2]; exact h.len)
      subst this
      exact absurd (ltL_trans (hy3 z hz).2 e) (ltL_irrefl _)
  refine .inr ⟨?_, key⟩
  by_cases hlt : l.length = M
  · exact hlt
  · exfalso
    have hs : ys.Sublist l := rise_sub hy1 h.rise fun y hy => by
      rcases h.all y (hy3 y hy).1 with e1 | ⟨e1, _⟩
      · exact e1
      · exact absurd e1 hlt
    have := hs.length_le
    have := h.len
    omega
theorem Firsts.of_rise (M : Nat) {l : List (List Int)} (h : Rise l) : Firsts M (fun x => x ∈ l) (l.take M) := by
  refine ⟨h.sublist (List.take_sublist _ _), fun x hx => (List.take_sublist _ _).subset hx, by rw [List.length_take]; omega, fun x hx => ?_⟩
  rw [← List.take_append_drop M l] at hx
  rcases List.mem_append.1 hx with e | e
  · exact .inl e
  · refine .inr ⟨?_, fun y hy => ?_⟩
    · rw [List.length_take]
      have : 0 < (l.drop M).length := List.length_pos_of_mem e
      rw [List.length_drop] at this
      omega
    · have h' := h
      rw [← List.take_append_drop M l] at h'
      exact (List.pairwise_append.1 h').2.2 y hy x e
theorem Firsts.take {M m : Nat} {S : List Int → Prop} {l : List (List Int)} (h : Firsts M S l) (hm : m ≤ M) : Firsts m S (l.take m) := by
  refine (Firsts.of_rise m h.rise).more h.mem fun x hx => ?_
  rcases h.all x hx with e | ⟨e1, e2⟩
  · exact .inl e
  · refine .inr ⟨l.take m, h.rise.sublist (List.take_sublist _ _), by rw [List.length_take]; omega, fun y hy => ?_⟩
    have := (List.take_sublist _ _).subset hy
    exact ⟨this, e2 y this⟩
/-- One more comes. -/
theorem Firsts.add {M : Nat} {S : List Int → Prop} {pre post : List (List Int)} {x : List Int} (h : Firsts M S (pre ++ post)) (h1 : ∀ y ∈ pre, ltL y x) (h2 : ∀ y ∈ post, ltL x y) : Firsts M (fun z => S z ∨ z = x) (if M ≤ pre.length then pre ++ post else (pre ++ x :: post).take M) := by
  have hr : Rise (pre ++ x :: post) := by
    have := List.pairwise_append.1 h.rise
    refine List.pairwise_append.2 ⟨this.1, List.pairwise_cons.2 ⟨h2, this.2.1⟩, fun a ha b hb => ?_⟩
    rcases List.mem_cons.1 hb with e | e
    · subst e
      exact h1 a ha
    · exact this.2.2 a ha b e
  have hlen := h.len
  rw [List.length_append] at hlen
  have hf := Firsts.of_rise M hr
  have he : (pre ++ x :: post).take M = if M ≤ pre.length then pre ++ post else (pre ++ x :: post).take M := by
    split
    · rw [List.take_append_of_le_length (by omega), List.take_of_length_le (by omega)]
      have : post = [] := List.eq_nil_of_length_eq_zero (by omega)
      rw [this, List.append_nil]
    · rfl
  rw [← he]
  refine hf.more (fun z hz => ?_) fun z hz => ?_
  · rcases List.mem_append.1 hz with e | e
    · exact .inl (h.mem z (List.mem_append_left _ e))
    · rcases List.mem_cons.1 e with e | e
      · exact .inr e
      · exact .inl (h.mem z (List.mem_append_right _ e))
  · have hsub : ∀ y ∈ pre ++ post, y ∈ pre ++ x :: post := fun y hy => by
      rcases List.mem_append.1 hy with e | e
      · exact List.mem_append_left _ e
      · exact List.mem_append_right _ (List.mem_cons_of_mem _ e)
    rcases hz with hz | hz
    · rcases h.all z hz with e | ⟨e1, e2⟩
      · exact .inl (hsub z e)
      · exact .inr ⟨pre ++ post, h.rise, e1, fun y hy => ⟨hsub y hy, e2 y hy⟩⟩
    · subst hz
      exact .inl (List.mem_append_right _ (List.mem_cons_self ..))
/-- Others come behind. -/
theorem Firsts.append {M : Nat} {S S' : List Int → Prop} {l l' : List (List Int)} (h : Firsts M S l) (h' : Firsts (M - l.length) S' l') (hl : ∀ x y, S x → S' y → ltL x y) : Firsts M (fun z => S z ∨ S' z) (l ++ l') := by
  have h1 := h.len
  have h2 := h'.len
  refine ⟨List.pairwise_append.2 ⟨h.rise, h'.rise, fun a ha b hb => hl a b (h.mem a ha) (h'.mem b hb)⟩, fun x hx => ?_, by rw [List.length_append]; omega, fun x hx => ?_⟩
  · rcases List.mem_append.1 hx with e | e
    · exact .inl (h.mem x e)
    · exact .inr (h'.mem x e)
  · rcases hx with hx | hx
    · rcases h.all x hx with e | ⟨e1, e2⟩
      · exact .inl (List.mem_append_left _ e)
      · have : l' = [] := List.eq_nil_of_length_eq_zero (by omega)
        subst this
        rw [List.append_nil]
        exact .inr ⟨e1, e2⟩
    · rcases h'.all x hx with e | ⟨e1, e2⟩
      · exact .inl (List.mem_append_right _ e)
      · refine .inr ⟨by rw [List.length_append]; omega, fun y hy => ?_⟩
        rcases List.mem_append.1 hy with e | e
        · exact hl y x (h.mem y e) hx
        · exact e2 y e
theorem Firsts.map {M : Nat} {S : List Int → Prop} {l : List (List Int)} (h : Firsts M S l) (q : Int) : Firsts M (fun t => ∃ r, S r ∧ t = q :: r) (l.map (q :: ·)) := by
  refine ⟨List.pairwise_map.2 (h.rise.imp fun e => ltL_cons.2 (.inr ⟨rfl, e⟩)), fun x hx => ?_, by rw [List.length_map]; exact h.len, fun x hx => ?_⟩
  · obtain ⟨r, hr, rfl⟩ := List.mem_map.1 hx
    exact ⟨r, h.mem r hr, rfl⟩
  · obtain ⟨r, hr, rfl⟩ := hx
    rcases h.all r hr with e | ⟨e1, e2⟩
    · exact .inl (List.mem_map.2 ⟨r, e, rfl⟩)
    · refine .inr ⟨by rw [List.length_map]; exact e1, fun y hy => ?_⟩
      obtain ⟨y', hy', rfl⟩ := List.mem_map.1 hy
      exact ltL_cons.2 (.inr ⟨rfl, e2 y' hy'⟩)
/-! What two sets have together. -/
end Go.Sh

/- Numbers of trees by size: the plain law. -/
set_option linter.unusedVariables false
set_option linter.unusedSimpArgs false
set_option maxRecDepth 100000
namespace Go.Sh
open Go
def sumN (f : Nat → Nat) : Nat → Nat
  | 0 => 0
  | n + 1 => sumN f n + f n
/-- In how many ways symbols have trees of size s in all between i and j; c tells the nonterminals' numbers. -/
def cntR (c : Nat → Nat → Nat → Nat → Nat) (ws : List Int) : List Int → Nat → Nat → Nat → Nat
  | [], i, j, s => if i = j ∧ s = 0 then 1 else 0
  | x :: xs, i, j, s => if x < 0 then (if i < j ∧ ws.getD i 0 = -1 - x then cntR c ws xs (i + 1) j s else 0)
      else sumN (fun m => sumN (fun k => c x.toNat i (i + m) (k + 1) * cntR c ws xs (i + m) j (s - (k + 1))) s) (j + 1 - i)
def sumR (rs : List RuleL) (p : RuleL → Nat) : Nat := rs.foldl (fun a r => a + p r) 0
def cntT (rs : List RuleL) (ws : List Int) : Nat → Nat → Nat → Nat → Nat → Nat
  | 0, _, _, _, _ => 0
  | f + 1, A, i, j, s => if s = 0 then 0 else sumR rs fun r => if r.1 = (A : Int) then cntR (cntT rs ws f) ws r.2 i j (s - 1) else 0
/-- How many trees of size s. -/
def cntC (rs : List RuleL) (ws : List Int) (A i j s : Nat) : Nat := cntT rs ws s A i j s
theorem sumN_congr {f g : Nat → Nat} : ∀ {n : Nat}, (∀ k, k < n → f k = g k) → sumN f n = sumN g n := by
  intro n
  induction n with
  | zero => intro _; rfl
  | succ n ih =>
    intro h
    rw [sumN, sumN, ih fun k hk => h k (by omega), h n (by omega)]
theorem cntR_congr {c c' : Nat → Nat → Nat → Nat → Nat} {ws : List Int} : ∀ {xs : List Int} {i j s : Nat}, (∀ A i j k, k ≤ s → c A i j k = c' A i j k) → cntR c ws xs i j s = cntR c' ws xs i j s := by
  intro xs
  induction xs with
  | nil => intro i j s _; rfl
  | cons x xs ih =>
    intro i j s h
    rw [cntR, cntR]
    split
    · split
      · exact ih h
      · rfl
    · refine sumN_congr fun m _ => sumN_congr fun k hk => ?_
      rw [h _ _ _ _ (by omega), ih fun A i j k' hk' => h A i j k' (by omega)]
theorem sumR_congr {rs : List RuleL} {p q : RuleL → Nat} (h : ∀ r, p r = q r) : sumR rs p = sumR rs q := by
  rw [show p = q from funext h]
theorem cntT_more {rs : List RuleL} {ws : List Int} : ∀ {f g A i j s : Nat}, s ≤ f → s ≤ g → cntT rs ws f A i j s = cntT rs ws g A i j s := by
  intro f
  induction f with
  | zero =>
    intro g A i j s h1 h2
    obtain rfl : s = 0 := by omega
    cases g with
    | zero => rfl
    | succ g => rw [cntT, cntT, if_pos rfl]
  | succ f ih =>
    intro g A i j s h1 h2
    cases g with
    | zero =>
      obtain rfl : s = 0 := by omega
      rw [cntT, cntT, if_pos rfl]
    | succ g =>
      rw [cntT, cntT]
      split
      · rfl
      · refine sumR_congr fun r => ?_
        split
        · exact cntR_congr fun A i j k hk => ih (by omega) (by omega)
        · rfl
theorem cntC_zero (rs : List RuleL) (ws : List Int) (A i j : Nat) : cntC rs ws A i j 0 = 0 := rfl
theorem cntC_succ (rs : List RuleL) (ws : List Int) (A i j s : Nat) : cntC rs ws A i j (s + 1) = sumR rs fun r => if r.1 = (A : Int) then cntR (cntC rs ws) ws r.2 i j s else 0 := by
  unfold cntC
  rw [cntT, if_neg (by omega)]
  refine sumR_congr fun r => ?_
  split
  · exact cntR_congr fun A i j k hk => cntT_more (by omega) (Nat.le_refl _)
  · rfl
end Go.Sh

/- Where there are trees there is a span; what the reference and the program reckon with, kept at most M. -/
set_option linter.unusedVariables false
set_option linter.unusedSimpArgs false
set_option maxRecDepth 100000
namespace Go.Sh
open Go
theorem Inc.still {α : Type} {f : TS → α → TS} : ∀ {l : List α} {s : TS}, (∀ a ∈ l, ∀ s, Inc s (f s a)) → s.2 = false → (l.foldl f s).2 = false → ∀ a ∈ l, f s a = s := by
  intro l
  induction l with
  | nil => intro s _ _ _ a ha; simp at ha
  | cons b l ih =>
    intro s h hs he a ha
    rw [List.foldl_cons] at he
    have hb : f s b = s := by
      rcases h b (List.mem_cons_self ..) s with e | ⟨e, _⟩
      · exact e
      · exfalso
        rcases Inc.fold (fun c hc => h c (List.mem_cons_of_mem _ hc)) (f s b) with e' | ⟨e', _⟩
        · rw [e', e] at he
          cases he
        · rw [e'] at he
          cases he
    rcases List.mem_cons.1 ha with rfl | ha
    · exact hb
    · rw [hb] at he
      exact ih (fun c hc => h c (List.mem_cons_of_mem _ hc)) hs he a ha
theorem pass_closed {rs : List (Int × List Int)} {w : List Int} {T : Tab} (hr : ∀ r ∈ rs, r.1.toNat < 6) (hw : w.length ≤ 10) (h : (passT rs w (T, false)).2 = false) {r : Int × List Int} (hm : r ∈ rs) {i j : Nat} (hij : i ≤ j) (hj : j ≤ w.length) (hf : fitsT T w r.2 i j = true) : T r.1.toNat i j = true := by
  have h1 := Inc.still (f := ruleT w) (fun r h s => ruleT_inc (hr r h) hw s) rfl h r hm
  have h2 := Inc.still (f := rowT w r) (l := List.range (w.length + 1)) (s := (T, false)) (fun i hi s => rowT_inc (hr r hm) hw (by have := List.mem_range.1 hi; omega) s) rfl (by
    show (ruleT w (T, false) r).2 = false
    rw [h1]) i (List.mem_range.2 (by omega))
  have h3 := Inc.still (f := stepT w r i) (l := List.range' i (w.length + 1 - i)) (s := (T, false)) (fun j hj s => by
    rw [List.mem_range'_1] at hj
    exact stepT_inc (hr r hm) (by omega) (by omega)) rfl (by
    show (rowT w r (T, false) i).2 = false
    rw [h2]) j (List.mem_range'_1.2 ⟨hij, by omega⟩)
  unfold stepT at h3
  cases hT : T r.1.toNat i j
  · rw [if_pos (by simp [hT, hf])] at h3
    have := congrArg Prod.snd h3
    cases this
  · rfl
theorem pass_same {rs : List (Int × List Int)} {w : List Int} {T : Tab} (hr : ∀ r ∈ rs, r.1.toNat < 6) (hw : w.length ≤ 10) (h : (passT rs w (T, false)).2 = false) : (passT rs w (T, false)).1 = T := by
  rcases passT_inc hr hw (T, false) with e | ⟨e, _⟩
  · rw [e]
  · rw [e] at h
    cases h
theorem span_closed {rs : List (Int × List Int)} {w : List Int} (hr : ∀ r ∈ rs, r.1.toNat < 6) (hw : w.length ≤ 10) {r : Int × List Int} (hm : r ∈ rs) {i j : Nat} (hij : i ≤ j) (hj : j ≤ w.length) (hf : fitsT (spanT rs w) w r.2 i j = true) : spanT rs w r.1.toNat i j = true := by
  obtain ⟨U, hU⟩ := Span.ex hr hw 726 noTab (by unfold openT; exact Nat.le_trans List.countP_le_length (by simp))
  rw [← hU.eq] at hf ⊢
  have key : ∀ {T U : Tab}, Span rs w T U → fitsT U w r.2 i j = true → U r.1.toNat i j = true := by
    intro T U h
    induction h with
    | done h1 =>
      intro hf
      rw [pass_same hr hw h1] at hf ⊢
      exact pass_closed hr hw h1 hm hij hj hf
    | more _ _ ih => exact ih
  exact key hU hf
theorem sumN_pos {f : Nat → Nat} : ∀ {n : Nat}, 0 < sumN f n → ∃ k, k < n ∧ 0 < f k := by
  intro n
  induction n with
  | zero => intro h; simp [sumN] at h
  | succ n ih =>
    intro h
    rw [sumN] at h
    by_cases h0 : 0 < f n
    · exact ⟨n, by omega, h0⟩
    · obtain ⟨k, hk, h1⟩ := ih (by omega)
      exact ⟨k, by omega, h1⟩
theorem sumR_pos {p : RuleL → Nat} : ∀ {rs : List RuleL} , 0 < sumR rs p → ∃ r ∈ rs, 0 < p r := by
  have key : ∀ (rs : List RuleL) (a : Nat), 0 < rs.foldl (fun a r => a + p r) a → 0 < a ∨ ∃ r ∈ rs, 0 < p r := by
    intro rs
    induction rs with
    | nil => intro a h; exact .inl h
    | cons r rs ih =>
      intro a h
      rw [List.foldl_cons] at h
      rcases ih _ h with h1 | ⟨q, hq, h1⟩
      · by_cases h0 : 0 < p r
        · exact .inr ⟨r, List.mem_cons_self .., h0⟩
        · exact .inl (by omega)
      · exact .inr ⟨q, List.mem_cons_of_mem _ hq, h1⟩
  intro rs h
  rcases key rs 0 h with h | h
  · omega
  · exact h
/-- Symbols that have trees fit. -/
theorem cntR_fits {c : Nat → Nat → Nat → Nat → Nat} {T : Tab} {ws : List Int} : ∀ {xs : List Int} {i j s : Nat}, j ≤ ws.length → (∀ A i j k, i ≤ j → j ≤ ws.length → k ≤ s → 0 < c A i j k → T A i j = true) → 0 < cntR c ws xs i j s → fitsT T ws xs i j = true := by
  intro xs
  induction xs with
  | nil =>
    intro i j s hj hc h
    rw [cntR] at h
    split at h
    · rename_i h1
      exact decide_eq_true h1.1
    · omega
  | cons x xs ih =>
    intro i j s hj hc h
    rw [cntR] at h
    by_cases hx : x < 0
    · rw [if_pos hx] at h
      split at h
      · rename_i h1
        rw [fits_tok hx, decide_eq_true h1.1, decide_eq_true h1.2, ih hj hc h]
        rfl
      · omega
    · rw [if_neg hx] at h
      obtain ⟨m, hm, h1⟩ := sumN_pos h
      obtain ⟨k, hk, h2⟩ := sumN_pos h1
      have h3 : 0 < c x.toNat i (i + m) (k + 1) := Nat.pos_of_ne_zero fun e => by rw [e, Nat.zero_mul] at h2; omega
      have h4 : 0 < cntR c ws xs (i + m) j (s - (k + 1)) := Nat.pos_of_ne_zero fun e => by rw [e, Nat.mul_zero] at h2; omega
      rw [fits_non hx]
      refine any_at (m := i + m) (by omega) (by omega) ?_
      rw [hc _ _ _ _ (by omega) (by omega) (by omega) h3, ih hj (fun A i j k' a b d e => hc A i j k' a b (by omega) e) h4]
      rfl
theorem cntC_span {rs : List RuleL} {ws : List Int} (hr : ∀ r ∈ rs, r.1.toNat < 6) (hw : ws.length ≤ 10) : ∀ {s A i j : Nat}, i ≤ j → j ≤ ws.length → 0 < cntC rs ws A i j s → spanT rs ws A i j = true := by
  intro s
  induction s using Nat.strongRecOn with
  | _ s ih =>
    intro A i j hij hj h
    cases s with
    | zero => rw [cntC_zero] at h; omega
    | succ s =>
      rw [cntC_succ] at h
      obtain ⟨r, hm, h1⟩ := sumR_pos h
      split at h1
      · rename_i h2
        have hf := cntR_fits (T := spanT rs ws) hj (fun A i j k a b d e => ih k (by omega) a b e) h1
        have := span_closed hr hw hm hij hj hf
        rwa [h2, Int.toNat_natCast] at this
      · omega
end Go.Sh

/- Trees of a size as lists of rules: each is read in one way alone, and they are counted. -/
set_option linter.unusedVariables false
set_option linter.unusedSimpArgs false
set_option maxRecDepth 100000
namespace Go.Sh
open Go
/-- Lists of rules: of a nonterminal (inl), of symbols (inr); between two places, of a size in all. -/
inductive Der (rs : List RuleL) (ws : List Int) : Nat ⊕ List Int → Nat → Nat → Nat → List Int → Prop
  | tree {A q i j s : Nat} {r : List Int} : q < rs.length → (rul rs q).1 = (A : Int) → Der rs ws (.inr (rul rs q).2) i j s r → Der rs ws (.inl A) i j (s + 1) ((q : Int) :: r)
  | nil {i : Nat} : Der rs ws (.inr []) i i 0 []
  | tok {x : Int} {xs : List Int} {i j s : Nat} {r : List Int} : x < 0 → i < j → ws.getD i 0 = -1 - x → Der rs ws (.inr xs) (i + 1) j s r → Der rs ws (.inr (x :: xs)) i j s r
  | non {x : Int} {xs : List Int} {i m j k s : Nat} {a b : List Int} : ¬ x < 0 → i ≤ m → m ≤ j → Der rs ws (.inl x.toNat) i m k a → Der rs ws (.inr xs) m j s b → Der rs ws (.inr (x :: xs)) i j (k + s) (a ++ b)
section
variable {rs : List RuleL} {ws : List Int}
theorem der_tree {A i j s : Nat} {t : List Int} : Der rs ws (.inl A) i j s t ↔ ∃ (q : Nat) (r : List Int) (s' : Nat), s = s' + 1 ∧ t = (q : Int) :: r ∧ q < rs.length ∧ (rul rs q).1 = (A : Int) ∧ Der rs ws (.inr (rul rs q).2) i j s' r := by
  constructor
  · intro h
    cases h with
    | tree h1 h2 h3 => exact ⟨_, _, _, rfl, rfl, h1, h2, h3⟩
  · rintro ⟨q, r, s', rfl, rfl, h1, h2, h3⟩
    exact .tree h1 h2 h3
theorem der_le {c : Nat ⊕ List Int} {i j s : Nat} {t : List Int} (h : Der rs ws c i j s t) : i ≤ j := by
  induction h with
  | tree _ _ _ ih => exact ih
  | nil => exact Nat.le_refl _
  | tok _ h2 _ _ ih => omega
  | non _ h2 h3 _ _ _ _ => omega
theorem sumN_at {f : Nat → Nat} : ∀ {n k : Nat}, k < n → 0 < f k → 0 < sumN f n := by
  intro n
  induction n with
  | zero => intro k h; omega
  | succ n ih =>
    intro k h h1
    rw [sumN]
    by_cases e : k = n
    · subst e
      omega
    · have := ih (k := k) (by omega) h1
      omega
theorem sumR_at {p : RuleL → Nat} {rs : List RuleL} {r : RuleL} (hr : r ∈ rs) (h : 0 < p r) : 0 < sumR rs p := by
  have mono : ∀ (l : List RuleL) (a : Nat), a ≤ l.foldl (fun a r => a + p r) a := by
    intro l
    induction l with
    | nil => intro a; exact Nat.le_refl _
    | cons b l ih => intro a; exact Nat.le_trans (Nat.le_add_right a (p b)) (ih (a + p b))
  have key : ∀ (l : List RuleL) (a : Nat), r ∈ l → 0 < l.foldl (fun a r => a + p r) a := by
    intro l
    induction l with
    | nil => intro a h; simp at h
    | cons b l ih =>
      intro a hm
      rcases List.mem_cons.1 hm with e | e
      · subst e
        exact Nat.lt_of_lt_of_le (by omega) (mono l (a + p r))
      · exact ih (a + p b) e
  exact key rs 0 hr
def posD (rs : List RuleL) (ws : List Int) : Nat ⊕ List Int → Nat → Nat → Nat → Prop
  | .inl A, i, j, s => 0 < cntC rs ws A i j s
  | .inr xs, i, j, s => 0 < cntR (cntC rs ws) ws xs i j s
theorem der_posD {c : Nat ⊕ List Int} {i j s : Nat} {t : List Int} (h : Der rs ws c i j s t) : posD rs ws c i j s := by
  induction h with
  | tree h1 h2 h3 ih =>
    show 0 < cntC rs ws _ _ _ _
    rw [cntC_succ]
    refine sumR_at (r := rul rs _) (by rw [rul_eq h1]; exact List.getElem_mem h1) ?_
    rw [if_pos h2]
    exact ih
  | nil =>
    show 0 < cntR _ _ [] _ _ _
    rw [cntR, if_pos ⟨rfl, rfl⟩]
    omega
  | tok h1 h2 h3 h4 ih =>
    show 0 < cntR _ _ (_ :: _) _ _ _
    rw [cntR, if_pos h1, if_pos ⟨h2, h3⟩]
    exact ih
  | non h1 h2 h3 h4 h5 ih1 ih2 =>
    rename_i x xs i m j k s a b
    show 0 < cntR _ _ (x :: xs) _ _ _
    rw [cntR, if_neg h1]
    have hk : 0 < k := by
      obtain ⟨_, _, s', rfl, _⟩ := der_tree.1 h4
      omega
    refine sumN_at (k := m - i) (by omega) (sumN_at (k := k - 1) (by omega) ?_)
    rw [show i + (m - i) = m from by omega, show k - 1 + 1 = k from by omega, show k + s - k = s from by omega]
    exact Nat.mul_pos ih1 ih2
theorem der_posC {A i j s : Nat} {t : List Int} (h : Der rs ws (.inl A) i j s t) : 0 < cntC rs ws A i j s := der_posD h
theorem der_posR {xs : List Int} {i j s : Nat} {t : List Int} (h : Der rs ws (.inr xs) i j s t) : 0 < cntR (cntC rs ws) ws xs i j s := der_posD h
theorem der_span (hr : ∀ r ∈ rs, r.1.toNat < 6) (hw : ws.length ≤ 10) {A i j s : Nat} {t : List Int} (hj : j ≤ ws.length) (h : Der rs ws (.inl A) i j s t) : spanT rs ws A i j = true := cntC_span hr hw (der_le h) hj (der_posC h)
theorem der_fits (hr : ∀ r ∈ rs, r.1.toNat < 6) (hw : ws.length ≤ 10) {xs : List Int} {i j s : Nat} {t : List Int} (hj : j ≤ ws.length) (h : Der rs ws (.inr xs) i j s t) : fitsT (spanT rs ws) ws xs i j = true := cntR_fits hj (fun A i j k h1 h2 _ h3 => cntC_span hr hw h1 h2 h3) (der_posR h)
/-! The parts of a row: at m and k. -/
end
end Go.Sh

/- What is derived and what the tables say: the same. -/
set_option linter.unusedVariables false
set_option linter.unusedSimpArgs false
set_option maxRecDepth 100000
namespace Go.Sh
open Go
section
variable {rs : List RuleL} {ws : List Int}
/-- Every entry of a table has a derivation. -/
def SoundT (rs : List RuleL) (ws : List Int) (T : Tab) : Prop := ∀ A i j, T A i j = true → i ≤ j ∧ ∃ s t, Der rs ws (.inl A) i j s t
theorem fits_sound {T : Tab} (h : SoundT rs ws T) : ∀ {xs : List Int} {i j : Nat}, fitsT T ws xs i j = true → i ≤ j ∧ ∃ s t, Der rs ws (.inr xs) i j s t := by
  intro xs
  induction xs with
  | nil =>
    intro i j hf
    obtain rfl : i = j := of_decide_eq_true hf
    exact ⟨Nat.le_refl _, 0, [], .nil⟩
  | cons x xs ih =>
    intro i j hf
    by_cases hx : x < 0
    · rw [fits_tok hx] at hf
      simp only [Bool.and_eq_true, decide_eq_true_eq] at hf
      obtain ⟨h1, h2, h3⟩ := hf
      obtain ⟨h4, s, t, h5⟩ := ih h3
      exact ⟨by omega, s, t, .tok hx h1 h2 h5⟩
    · rw [fits_non hx, List.any_eq_true] at hf
      obtain ⟨m, hm, hf⟩ := hf
      rw [List.mem_range'_1] at hm
      simp only [Bool.and_eq_true] at hf
      obtain ⟨h1, k, a, h2⟩ := h _ _ _ hf.1
      obtain ⟨h3, s, t, h4⟩ := ih hf.2
      exact ⟨by omega, k + s, a ++ t, .non hx h1 h3 h2 h4⟩
theorem rule_at {r : RuleL} (h : r ∈ rs) : ∃ q, q < rs.length ∧ rul rs q = r := by
  obtain ⟨q, hq, e⟩ := List.getElem_of_mem h
  exact ⟨q, hq, by rw [rul_eq hq, e]⟩
theorem fold_inv {α σ : Type} {I : σ → Prop} {f : σ → α → σ} : ∀ {l : List α} {s : σ}, I s → (∀ a ∈ l, ∀ s, I s → I (f s a)) → I (l.foldl f s) := by
  intro l
  induction l with
  | nil => intro s h _; exact h
  | cons a l ih =>
    intro s h h1
    exact ih (h1 a (List.mem_cons_self ..) s h) fun b hb => h1 b (List.mem_cons_of_mem _ hb)
theorem pass_sound (h0 : ∀ r ∈ rs, 0 ≤ r.1) {s : TS} (h : SoundT rs ws s.1) : SoundT rs ws (passT rs ws s).1 := by
  refine fold_inv (I := fun s : TS => SoundT rs ws s.1) h fun r hr s hs => ?_
  refine fold_inv (I := fun s : TS => SoundT rs ws s.1) hs fun i hi s hs => ?_
  refine fold_inv (I := fun s : TS => SoundT rs ws s.1) hs fun j hj s hs => ?_
  unfold stepT
  split
  · rename_i hc
    simp only [Bool.and_eq_true] at hc
    intro A a b hab
    simp only [Tab.put] at hab
    split at hab
    · rename_i e
      obtain ⟨rfl, rfl, rfl⟩ := e
      obtain ⟨h1, s', t, h2⟩ := fits_sound hs hc.2
      obtain ⟨q, hq, e⟩ := rule_at hr
      refine ⟨h1, s' + 1, (q : Int) :: t, .tree hq ?_ (by rw [e]; exact h2)⟩
      rw [e]
      have := h0 r hr
      omega
    · exact hs A a b hab
  · exact hs
theorem span_sound (h0 : ∀ r ∈ rs, 0 ≤ r.1) : SoundT rs ws (spanT rs ws) := by
  intro A i j h
  unfold spanT at h
  split at h
  · rename_i hx
    have key : ∀ {T U : Tab}, Span rs ws T U → SoundT rs ws T → SoundT rs ws U := by
      intro T U h
      induction h with
      | done _ => exact fun h => pass_sound h0 h
      | more _ _ ih => exact fun h => ih (pass_sound h0 h)
    exact key (Classical.choose_spec hx) (fun A i j h => by cases h) A i j h
  · cases h
theorem span_iff (h0 : ∀ r ∈ rs, 0 ≤ r.1) (hr : ∀ r ∈ rs, r.1.toNat < 6) (hw : ws.length ≤ 10) {A i j : Nat} (hj : j ≤ ws.length) : spanT rs ws A i j = true ↔ ∃ s t, Der rs ws (.inl A) i j s t :=
  ⟨fun h => (span_sound h0 A i j h).2, fun ⟨_, _, h⟩ => der_span hr hw hj h⟩
theorem fits_iff (h0 : ∀ r ∈ rs, 0 ≤ r.1) (hr : ∀ r ∈ rs, r.1.toNat < 6) (hw : ws.length ≤ 10) {xs : List Int} {i j : Nat} (hj : j ≤ ws.length) : fitsT (spanT rs ws) ws xs i j = true ↔ ∃ s t, Der rs ws (.inr xs) i j s t :=
  ⟨fun h => (fits_sound (span_sound h0) h).2, fun ⟨_, _, h⟩ => der_fits hr hw hj h⟩
/-- A nonterminal derives what one of its rules does. -/
theorem span_rules (h0 : ∀ r ∈ rs, 0 ≤ r.1) (hr : ∀ r ∈ rs, r.1.toNat < 6) (hw : ws.length ≤ 10) {A i j : Nat} (hj : j ≤ ws.length) : spanT rs ws A i j = rs.any fun r => decide (r.1 = (A : Int)) && fitsT (spanT rs ws) ws r.2 i j := by
  rw [Bool.eq_iff_iff, span_iff h0 hr hw hj, List.any_eq_true]
  constructor
  · rintro ⟨s, t, h⟩
    obtain ⟨q, r, s', _, _, h1, h2, h3⟩ := der_tree.1 h
    refine ⟨rul rs q, by rw [rul_eq h1]; exact List.getElem_mem h1, ?_⟩
    rw [Bool.and_eq_true, fits_iff h0 hr hw hj]
    exact ⟨decide_eq_true h2, _, _, h3⟩
  · rintro ⟨r, hm, h⟩
    rw [Bool.and_eq_true, fits_iff h0 hr hw hj] at h
    obtain ⟨h1, s, t, h2⟩ := h
    obtain ⟨q, hq, e⟩ := rule_at hm
    exact ⟨_, _, .tree hq (by rw [e]; exact of_decide_eq_true h1) (by rw [e]; exact h2)⟩
end
end Go.Sh

/- Plain: what derives a word; other names, turned round; what derives something, what is reached, useful rules. -/
set_option linter.unusedVariables false
set_option linter.unusedSimpArgs false
set_option maxRecDepth 100000
namespace Go.Sh
open Go
/-- What derives a word. -/
inductive Yi (rs : List RuleL) : Nat ⊕ List Int → List Int → Prop
  | rule {A : Nat} {r : RuleL} {u : List Int} : r ∈ rs → r.1 = (A : Int) → Yi rs (.inr r.2) u → Yi rs (.inl A) u
  | nil : Yi rs (.inr []) []
  | tok {x : Int} {xs u : List Int} : x < 0 → Yi rs (.inr xs) u → Yi rs (.inr (x :: xs)) ((-1 - x) :: u)
  | non {x : Int} {xs u v : List Int} : ¬ x < 0 → Yi rs (.inl x.toNat) u → Yi rs (.inr xs) v → Yi rs (.inr (x :: xs)) (u ++ v)
def cut (ws : List Int) (i j : Nat) : List Int := (ws.drop i).take (j - i)
section
variable {rs : List RuleL}
/-! Parts. -/
end
/-! Other names of nonterminals; turned round. -/
/-! What derives something, what is reached. -/
inductive Clo (rs : List RuleL) (tok : Bool) : Nat → Prop
  | mk {A : Nat} {r : RuleL} : r ∈ rs → r.1 = (A : Int) → (∀ x ∈ r.2, x < 0 → tok = true) → (∀ x ∈ r.2, ¬ x < 0 → Clo rs tok x.toNat) → Clo rs tok A
/-- Reached from the first nonterminal. -/
inductive Rch (rs : List RuleL) : Nat → Prop
  | zero : Rch rs 0
  | step {A : Nat} {r : RuleL} {x : Int} : r ∈ rs → r.1 = (A : Int) → Rch rs A → x ∈ r.2 → ¬ x < 0 → Rch rs x.toNat
end Go.Sh

/- Contracts: SpansOf. -/
set_option linter.unusedVariables false
set_option linter.unusedSimpArgs false
set_option maxRecDepth 100000
namespace Go.Sh
open Go
def spK (T : Tab) (i j : Nat) (k : Nat) : List (List Int) := (List.range k).flatMap fun a => if T a i j = true then [[(i : Int), (j : Int), (a : Int)]] else []
def spJ (T : Tab) (nons i : Nat) (c : Nat) : List (List Int) := (List.range c).flatMap fun b => spK T i (i + b) nons
def spI (T : Tab) (nons n : Nat) (i : Nat) : List (List Int) := (List.range i).flatMap fun a => spJ T nons a (n - a)
theorem spK_succ (T : Tab) (i j k : Nat) : spK T i j (k + 1) = spK T i j k ++ (if T k i j = true then [[(i : Int), (j : Int), (k : Int)]] else []) := by simp [spK, List.range_succ]
theorem spJ_succ (T : Tab) (nons i c : Nat) : spJ T nons i (c + 1) = spJ T nons i c ++ spK T i (i + c) nons := by simp [spJ, List.range_succ]
theorem spI_succ (T : Tab) (nons n i : Nat) : spI T nons n (i + 1) = spI T nons n i ++ spJ T nons i (n - i) := by simp [spI, List.range_succ]
theorem spK_len (T : Tab) (i j k : Nat) : (spK T i j k).length ≤ k := by
  induction k with
  | zero => simp [spK]
  | succ k ih =>
    rw [spK_succ, List.length_append]
    split <;> simp <;> omega
theorem spJ_len (T : Tab) (nons i c : Nat) (h : nons ≤ 6) : (spJ T nons i c).length ≤ 6 * c := by
  induction c with
  | zero => simp [spJ]
  | succ c ih =>
    have := spK_len T i (i + c) nons
    rw [spJ_succ, List.length_append]
    omega
theorem spI_len (T : Tab) (nons n i : Nat) (h : nons ≤ 6) (hn : n ≤ 11) : (spI T nons n i).length ≤ 66 * i := by
  induction i with
  | zero => simp [spI]
  | succ i ih =>
    have := spJ_len T nons i (n - i) h
    rw [spI_succ, List.length_append]
    omega
theorem spK_mem {T : Tab} {i j k : Nat} {x : List Int} : x ∈ spK T i j k ↔ ∃ a, a < k ∧ T a i j = true ∧ x = [(i : Int), (j : Int), (a : Int)] := by
  unfold spK
  rw [List.mem_flatMap]
  constructor
  · rintro ⟨a, ha, h⟩
    rw [List.mem_range] at ha
    split at h
    · rename_i hT
      exact ⟨a, ha, hT, List.mem_singleton.1 h⟩
    · simp at h
  · rintro ⟨a, ha, hT, rfl⟩
    exact ⟨a, List.mem_range.2 ha, by rw [if_pos hT]; exact List.mem_singleton.2 rfl⟩
theorem spI_mem {T : Tab} {nons n : Nat} {x : List Int} : x ∈ spI T nons n n ↔ ∃ i j a : Nat, i ≤ j ∧ j < n ∧ a < nons ∧ T a i j = true ∧ x = [(i : Int), (j : Int), (a : Int)] := by
  unfold spI spJ
  simp only [List.mem_flatMap, List.mem_range, spK_mem]
  constructor
  · rintro ⟨i, hi, b, hb, a, ha, hT, rfl⟩
    exact ⟨i, i + b, a, by omega, by omega, ha, hT, rfl⟩
  · rintro ⟨i, j, a, h1, h2, h3, h4, rfl⟩
    refine ⟨i, by omega, j - i, by omega, a, h3, ?_, ?_⟩ <;> rw [show i + (j - i) = j from by omega]
    exact h4
noncomputable def spansV (gm : Gram) (ws : List Int) : List (List Int) × Bool := if wordG gm ws = true then (spI (spanT gm.rules ws) gm.nons.toNat (ws.length + 1) (ws.length + 1), true) else ([], false)
end Go.Sh
namespace Go.Proofs.Ytegcjkhebecgbaa
open Go Go.Sh Go.RowKit
section
variable {w : World} {X Z Y : Option Addr} {cx cz cy : Nat} {gm : Gram} {ws xs : List Int} {k : Value → World → Prop}
set_option maxHeartbeats 3200000 in
theorem specSpansOf_c (hG : kG Y cy gm.rules w) (hX : kI X ws cx w) (hk : ∀ w' U d, Gr w w' → Intss w' U (spansV gm ws).1 → k (.tuple #[.slice U (spansV gm ws).1.length d, .bool (spansV gm ws).2]) w') :
    CallK Try.prog 30 [grv gm Y cy, .slice X ws.length cx] k w := by
  refine enter30 ?_
  unfold S30
  have H := ((Kn.nil w).addG hG.1 hG.2).addI hX.1 hX.2
  refine do_box fun b1 w1 g1 hb B1 => ?_
  have H := (H.step g1).addB B1
  rw [ldB_agg agg26 sz26 rfl (H.get 3 rfl)]
  refine goodWord_c (gvK (H.get 1 rfl)) (H.get 2 rfl).1 rfl fun w2 g => ?_
  have H := H.step g
  unfold spansV at hk
  rw [show (goodG gm && wordB gm.toks ws) = wordG gm ws from rfl]
  cases hg : wordG gm ws
  · simp only [Bool.not_false, bin_add, bin_sub, bin_mul, bin_eql, bin_neq, bin_lss, bin_leq, bin_gtr, bin_geq, un_not, un_neg, pick_true, pick_false, extract_two_0, extract_two_1, nilCheck_pointer, cond_true', cond_false', guard_tt, guard_ff, guard_tf, guard_ft, guard_undef, seqQ_normal, seqQ_ret, seqQ_exit, blockQ_ret, blockQ_normal, blockQ_exit, bodyQ_ret, bodyQ_normal, resK_nil, resK_tmp, ite_T, ite_F, upd_at, add_plain, add_zero', Nat.reduceEqDiff, fa8_0, fa8_1, fa8_2, fa8_3, fa14_0, fa14_1, fa19_0, len22, len24, fa26_0, fa26_1, fa26_2, len27, fa33_0, fa33_1, len35, fa77_0, fa77_1, fa88_0, fa88_1, fa88_2, fa88_3, fa88_4, fa88_5, fa114_0, fa114_1, fa114_2, fa124_0, fa124_1, len134, len136, len154, fa156_0, fa156_1, fa156_2, fa156_3, fa156_4, fa156_5, fa156_6, fa184_0, fa184_1, fa200_0, fa200_1, fa200_2, fa200_3, fa215_0, fa215_1, fa215_2, fa215_3, fa215_4, len218, len271, fa274_0, fa274_1, fa274_2, fa303_0, fa303_1, fa303_2, fa303_3, fa314_0, fa314_1, fa314_2, fa314_3, fa314_4, fa314_5, fa314_6, fa314_7, fa314_8, fa314_9, fa314_10]
    rw [hg, if_neg Bool.false_ne_true] at hk
    exact hk _ none 0 (H.get 0 rfl) ⟨by simp, fun h => by simp at h, fun j hj => by simp at hj⟩
  rw [hg, if_pos rfl] at hk
  obtain ⟨hg1, hw⟩ : goodG gm = true ∧ wordB gm.toks ws = true := by simpa [wordG] using hg
  have hn := good_nons hg1
  have hW := wordB_of hw
  simp only [Bool.not_true, bin_add, bin_sub, bin_mul, bin_eql, bin_neq, bin_lss, bin_leq, bin_gtr, bin_geq, un_not, un_neg, pick_true, pick_false, extract_two_0, extract_two_1, nilCheck_pointer, cond_true', cond_false', guard_tt, guard_ff, guard_tf, guard_ft, guard_undef, seqQ_normal, seqQ_ret, seqQ_exit, blockQ_ret, blockQ_normal, blockQ_exit, bodyQ_ret, bodyQ_normal, resK_nil, resK_tmp, ite_T, ite_F, upd_at, add_plain, add_zero', Nat.reduceEqDiff, fa8_0, fa8_1, fa8_2, fa8_3, fa14_0, fa14_1, fa19_0, len22, len24, fa26_0, fa26_1, fa26_2, len27, fa33_0, fa33_1, len35, fa77_0, fa77_1, fa88_0, fa88_1, fa88_2, fa88_3, fa88_4, fa88_5, fa114_0, fa114_1, fa114_2, fa124_0, fa124_1, len134, len136, len154, fa156_0, fa156_1, fa156_2, fa156_3, fa156_4, fa156_5, fa156_6, fa184_0, fa184_1, fa200_0, fa200_1, fa200_2, fa200_3, fa215_0, fa215_1, fa215_2, fa215_3, fa215_4, len218, len271, fa274_0, fa274_1, fa274_2, fa303_0, fa303_1, fa303_2, fa303_3, fa314_0, fa314_1, fa314_2, fa314_3, fa314_4, fa314_5, fa314_6, fa314_7, fa314_8, fa314_9, fa314_10]
  rw [ldB_agg agg26 sz26 rfl (H.get 3 rfl)]
  refine l4Table_c (gm := gm) (gvK (H.get 1 rfl)) hg1 (H.get 2 rfl).1 rfl hW.1 fun w4 U cu nons g hnons hT => ?_
  have H := H.step g
  rw [i64_of (by omega) (by omega)]
  rw [show gm.nons.toNat = nons from by omega] at hk
  have hn6 : nons ≤ 6 := by omega
  generalize hL : ws.length = n at *
  generalize spanT gm.rules ws = T at *
  have A := ((Apt.nil w4).addNil 27 1).emptySS 0 (e2 := 3) (fun _ => (none, 0)) rfl
  simp only [List.nil_append, List.set_cons_zero] at A
  refine loop_to (n + 1) 0 (fun i f w' => i ≤ n + 1 ∧ f 9 = .int .i64 (i : Int) ∧ ∃ (V : Option Addr) (d : Nat) (ps : Nat → Option Addr × Nat), f 8 = .slice V (spI T nons (n + 1) i).length d ∧ Apt w4 w' [lss V d (spI T nons (n + 1) i) ps])
    ⟨Nat.zero_le _, rfl, none, 0, _, rfl, A⟩ ?_
  clear A
  rintro i f w5 N hag ⟨hi, h9, V, d, ps, h8, A⟩ hN
  have f6 : f 6 = .slice U nons cu := hag 6 (by decide)
  have f7 : f 7 = .int .i64 ((n : Int) + 1) := hag 7 (by decide)
  simp only [f7, h9, h8, bin_add, bin_sub, bin_mul, bin_eql, bin_neq, bin_lss, bin_leq, bin_gtr, bin_geq, un_not, un_neg, pick_true, pick_false, extract_two_0, extract_two_1, nilCheck_pointer, cond_true', cond_false', guard_tt, guard_ff, guard_tf, guard_ft, guard_undef, seqQ_normal, seqQ_ret, seqQ_exit, blockQ_ret, blockQ_normal, blockQ_exit, bodyQ_ret, bodyQ_normal, resK_nil, resK_tmp, ite_T, ite_F, upd_at, add_plain, add_zero', Nat.reduceEqDiff, fa8_0, fa8_1, fa8_2, fa8_3, fa14_0, fa14_1, fa19_0, len22, len24, fa26_0, fa26_1, fa26_2, len27, fa33_0, fa33_1, len35, fa77_0, fa77_1, fa88_0, fa88_1, fa88_2, fa88_3, fa88_4, fa88_5, fa114_0, fa114_1, fa114_2, fa124_0, fa124_1, len134, len136, len154, fa156_0, fa156_1, fa156_2, fa156_3, fa156_4, fa156_5, fa156_6, fa184_0, fa184_1, fa200_0, fa200_1, fa200_2, fa200_3, fa215_0, fa215_1, fa215_2, fa215_3, fa215_4, len218, len271, fa274_0, fa274_1, fa274_2, fa303_0, fa303_1, fa303_2, fa303_3, fa314_0, fa314_1, fa314_2, fa314_3, fa314_4, fa314_5, fa314_6, fa314_7, fa314_8, fa314_9, fa314_10]
  by_cases hlt : i < n + 1
  case neg =>
    obtain rfl : i = n + 1 := by omega
    simp only [show ¬ (((n + 1 : Nat) : Int) < (n : Int) + 1) from by omega, decide_false, bin_add, bin_sub, bin_mul, bin_eql, bin_neq, bin_lss, bin_leq, bin_gtr, bin_geq, un_not, un_neg, pick_true, pick_false, extract_two_0, extract_two_1, nilCheck_pointer, cond_true', cond_false', guard_tt, guard_ff, guard_tf, guard_ft, guard_undef, seqQ_normal, seqQ_ret, seqQ_exit, blockQ_ret, blockQ_normal, blockQ_exit, bodyQ_ret, bodyQ_normal, resK_nil, resK_tmp, ite_T, ite_F, upd_at, add_plain, add_zero', Nat.reduceEqDiff, fa8_0, fa8_1, fa8_2, fa8_3, fa14_0, fa14_1, fa19_0, len22, len24, fa26_0, fa26_1, fa26_2, len27, fa33_0, fa33_1, len35, fa77_0, fa77_1, fa88_0, fa88_1, fa88_2, fa88_3, fa88_4, fa88_5, fa114_0, fa114_1, fa114_2, fa124_0, fa124_1, len134, len136, len154, fa156_0, fa156_1, fa156_2, fa156_3, fa156_4, fa156_5, fa156_6, fa184_0, fa184_1, fa200_0, fa200_1, fa200_2, fa200_3, fa215_0, fa215_1, fa215_2, fa215_3, fa215_4, len218, len271, fa274_0, fa274_1, fa274_2, fa303_0, fa303_1, fa303_2, fa303_3, fa314_0, fa314_1, fa314_2, fa314_3, fa314_4, fa314_5, fa314_6, fa314_7, fa314_8, fa314_9, fa314_10]
    exact hk _ V d (gr_trans (H.get 0 rfl) A.gr) (A.lssi 0 rfl).read
  simp only [show ((i : Int) < (n : Int) + 1) from by omega, decide_true, bin_add, bin_sub, bin_mul, bin_eql, bin_neq, bin_lss, bin_leq, bin_gtr, bin_geq, un_not, un_neg, pick_true, pick_false, extract_two_0, extract_two_1, nilCheck_pointer, cond_true', cond_false', guard_tt, guard_ff, guard_tf, guard_ft, guard_undef, seqQ_normal, seqQ_ret, seqQ_exit, blockQ_ret, blockQ_normal, blockQ_exit, bodyQ_ret, bodyQ_normal, resK_nil, resK_tmp, ite_T, ite_F, upd_at, add_plain, add_zero', Nat.reduceEqDiff, fa8_0, fa8_1, fa8_2, fa8_3, fa14_0, fa14_1, fa19_0, len22, len24, fa26_0, fa26_1, fa26_2, len27, fa33_0, fa33_1, len35, fa77_0, fa77_1, fa88_0, fa88_1, fa88_2, fa88_3, fa88_4, fa88_5, fa114_0, fa114_1, fa114_2, fa124_0, fa124_1, len134, len136, len154, fa156_0, fa156_1, fa156_2, fa156_3, fa156_4, fa156_5, fa156_6, fa184_0, fa184_1, fa200_0, fa200_1, fa200_2, fa200_3, fa215_0, fa215_1, fa215_2, fa215_3, fa215_4, len218, len271, fa274_0, fa274_1, fa274_2, fa303_0, fa303_1, fa303_2, fa303_3, fa314_0, fa314_1, fa314_2, fa314_3, fa314_4, fa314_5, fa314_6, fa314_7, fa314_8, fa314_9, fa314_10]
  have hI := spI_len T nons (n + 1) i hn6 (by omega)
  refine loop_to (n + 1) i (fun j f w' => i ≤ j ∧ j ≤ n + 1 ∧ f 10 = .int .i64 (j : Int) ∧ ∃ (V : Option Addr) (d : Nat) (ps : Nat → Option Addr × Nat), f 8 = .slice V (spI T nons (n + 1) i ++ spJ T nons i (j - i)).length d ∧ Apt w4 w' [lss V d (spI T nons (n + 1) i ++ spJ T nons i (j - i)) ps])
    ⟨Nat.le_refl _, hi, rfl, V, d, ps, by rw [Nat.sub_self, show spJ T nons i 0 = [] from rfl, List.append_nil]; exact h8, by rw [Nat.sub_self, show spJ T nons i 0 = [] from rfl, List.append_nil]; exact A⟩ ?_
  clear A
  rintro j q w6 N2 hag2 ⟨hij, hj, h10, V, d, ps, h8, A⟩ hN2
  have q6 : q 6 = .slice U nons cu := (hag2 6 (by decide)).trans f6
  have q7 : q 7 = .int .i64 ((n : Int) + 1) := (hag2 7 (by decide)).trans f7
  have q9 : q 9 = .int .i64 (i : Int) := (hag2 9 (by decide)).trans h9
  simp only [q6, q7, q9, h10, h8, bin_add, bin_sub, bin_mul, bin_eql, bin_neq, bin_lss, bin_leq, bin_gtr, bin_geq, un_not, un_neg, pick_true, pick_false, extract_two_0, extract_two_1, nilCheck_pointer, cond_true', cond_false', guard_tt, guard_ff, guard_tf, guard_ft, guard_undef, seqQ_normal, seqQ_ret, seqQ_exit, blockQ_ret, blockQ_normal, blockQ_exit, bodyQ_ret, bodyQ_normal, resK_nil, resK_tmp, ite_T, ite_F, upd_at, add_plain, add_zero', Nat.reduceEqDiff, fa8_0, fa8_1, fa8_2, fa8_3, fa14_0, fa14_1, fa19_0, len22, len24, fa26_0, fa26_1, fa26_2, len27, fa33_0, fa33_1, len35, fa77_0, fa77_1, fa88_0, fa88_1, fa88_2, fa88_3, fa88_4, fa88_5, fa114_0, fa114_1, fa114_2, fa124_0, fa124_1, len134, len136, len154, fa156_0, fa156_1, fa156_2, fa156_3, fa156_4, fa156_5, fa156_6, fa184_0, fa184_1, fa200_0, fa200_1, fa200_2, fa200_3, fa215_0, fa215_1, fa215_2, fa215_3, fa215_4, len218, len271, fa274_0, fa274_1, fa274_2, fa303_0, fa303_1, fa303_2, fa303_3, fa314_0, fa314_1, fa314_2, fa314_3, fa314_4, fa314_5, fa314_6, fa314_7, fa314_8, fa314_9, fa314_10]
  by_cases hlt2 : j < n + 1
  case neg =>
    obtain rfl : j = n + 1 := by omega
    simp only [show ¬ (((n + 1 : Nat) : Int) < (n : Int) + 1) from by omega, decide_false, q9, bin_add, bin_sub, bin_mul, bin_eql, bin_neq, bin_lss, bin_leq, bin_gtr, bin_geq, un_not, un_neg, pick_true, pick_false, extract_two_0, extract_two_1, nilCheck_pointer, cond_true', cond_false', guard_tt, guard_ff, guard_tf, guard_ft, guard_undef, seqQ_normal, seqQ_ret, seqQ_exit, blockQ_ret, blockQ_normal, blockQ_exit, bodyQ_ret, bodyQ_normal, resK_nil, resK_tmp, ite_T, ite_F, upd_at, add_plain, add_zero', Nat.reduceEqDiff, fa8_0, fa8_1, fa8_2, fa8_3, fa14_0, fa14_1, fa19_0, len22, len24, fa26_0, fa26_1, fa26_2, len27, fa33_0, fa33_1, len35, fa77_0, fa77_1, fa88_0, fa88_1, fa88_2, fa88_3, fa88_4, fa88_5, fa114_0, fa114_1, fa114_2, fa124_0, fa124_1, len134, len136, len154, fa156_0, fa156_1, fa156_2, fa156_3, fa156_4, fa156_5, fa156_6, fa184_0, fa184_1, fa200_0, fa200_1, fa200_2, fa200_3, fa215_0, fa215_1, fa215_2, fa215_3, fa215_4, len218, len271, fa274_0, fa274_1, fa274_2, fa303_0, fa303_1, fa303_2, fa303_3, fa314_0, fa314_1, fa314_2, fa314_3, fa314_4, fa314_5, fa314_6, fa314_7, fa314_8, fa314_9, fa314_10]
    rw [i64_of (by omega) (by omega)]
    refine hN _ _ hlt ⟨by omega, rfl, V, d, ps, ?_, ?_⟩
    · rw [spI_succ]
      exact h8
    · rw [spI_succ]
      exact A
  simp only [show ((j : Int) < (n : Int) + 1) from by omega, decide_true, bin_add, bin_sub, bin_mul, bin_eql, bin_neq, bin_lss, bin_leq, bin_gtr, bin_geq, un_not, un_neg, pick_true, pick_false, extract_two_0, extract_two_1, nilCheck_pointer, cond_true', cond_false', guard_tt, guard_ff, guard_tf, guard_ft, guard_undef, seqQ_normal, seqQ_ret, seqQ_exit, blockQ_ret, blockQ_normal, blockQ_exit, bodyQ_ret, bodyQ_normal, resK_nil, resK_tmp, ite_T, ite_F, upd_at, add_plain, add_zero', Nat.reduceEqDiff, fa8_0, fa8_1, fa8_2, fa8_3, fa14_0, fa14_1, fa19_0, len22, len24, fa26_0, fa26_1, fa26_2, len27, fa33_0, fa33_1, len35, fa77_0, fa77_1, fa88_0, fa88_1, fa88_2, fa88_3, fa88_4, fa88_5, fa114_0, fa114_1, fa114_2, fa124_0, fa124_1, len134, len136, len154, fa156_0, fa156_1, fa156_2, fa156_3, fa156_4, fa156_5, fa156_6, fa184_0, fa184_1, fa200_0, fa200_1, fa200_2, fa200_3, fa215_0, fa215_1, fa215_2, fa215_3, fa215_4, len218, len271, fa274_0, fa274_1, fa274_2, fa303_0, fa303_1, fa303_2, fa303_3, fa314_0, fa314_1, fa314_2, fa314_3, fa314_4, fa314_5, fa314_6, fa314_7, fa314_8, fa314_9, fa314_10]
  have hJ := spJ_len T nons i (j - i) hn6
  generalize hP : spI T nons (n + 1) i ++ spJ T nons i (j - i) = P at *
  have hPl : P.length ≤ 2000 := by
    rw [← hP, List.length_append]
    omega
  refine loop_to nons 0 (fun c f w' => c ≤ nons ∧ f 35 = .int .i64 (c : Int) ∧ ∃ (V : Option Addr) (d : Nat) (ps : Nat → Option Addr × Nat), f 8 = .slice V (P ++ spK T i j c).length d ∧ Apt w4 w' [lss V d (P ++ spK T i j c) ps])
    ⟨Nat.zero_le _, rfl, V, d, ps, by rw [show spK T i j 0 = [] from rfl, List.append_nil]; exact h8, by rw [show spK T i j 0 = [] from rfl, List.append_nil]; exact A⟩ ?_
  clear A
  rintro c r w7 N3 hag3 ⟨hc, h35, V, d, ps, r8, A⟩ hN3
  have r6 : r 6 = .slice U nons cu := (hag3 6 (by decide)).trans q6
  have r7 : r 7 = .int .i64 ((n : Int) + 1) := (hag3 7 (by decide)).trans q7
  have r9 : r 9 = .int .i64 (i : Int) := (hag3 9 (by decide)).trans q9
  have r10 : r 10 = .int .i64 (j : Int) := (hag3 10 (by decide)).trans h10
  have r34 : r 34 = .int .i64 (nons : Int) := hag3 34 (by decide)
  simp only [r6, r7, r9, r10, r34, h35, r8, bin_add, bin_sub, bin_mul, bin_eql, bin_neq, bin_lss, bin_leq, bin_gtr, bin_geq, un_not, un_neg, pick_true, pick_false, extract_two_0, extract_two_1, nilCheck_pointer, cond_true', cond_false', guard_tt, guard_ff, guard_tf, guard_ft, guard_undef, seqQ_normal, seqQ_ret, seqQ_exit, blockQ_ret, blockQ_normal, blockQ_exit, bodyQ_ret, bodyQ_normal, resK_nil, resK_tmp, ite_T, ite_F, upd_at, add_plain, add_zero', Nat.reduceEqDiff, fa8_0, fa8_1, fa8_2, fa8_3, fa14_0, fa14_1, fa19_0, len22, len24, fa26_0, fa26_1, fa26_2, len27, fa33_0, fa33_1, len35, fa77_0, fa77_1, fa88_0, fa88_1, fa88_2, fa88_3, fa88_4, fa88_5, fa114_0, fa114_1, fa114_2, fa124_0, fa124_1, len134, len136, len154, fa156_0, fa156_1, fa156_2, fa156_3, fa156_4, fa156_5, fa156_6, fa184_0, fa184_1, fa200_0, fa200_1, fa200_2, fa200_3, fa215_0, fa215_1, fa215_2, fa215_3, fa215_4, len218, len271, fa274_0, fa274_1, fa274_2, fa303_0, fa303_1, fa303_2, fa303_3, fa314_0, fa314_1, fa314_2, fa314_3, fa314_4, fa314_5, fa314_6, fa314_7, fa314_8, fa314_9, fa314_10]
  by_cases hlt3 : c < nons
  case neg =>
    obtain rfl : c = nons := by omega
    simp only [show ¬ ((c : Int) < (c : Int)) from by omega, decide_false, r10, bin_add, bin_sub, bin_mul, bin_eql, bin_neq, bin_lss, bin_leq, bin_gtr, bin_geq, un_not, un_neg, pick_true, pick_false, extract_two_0, extract_two_1, nilCheck_pointer, cond_true', cond_false', guard_tt, guard_ff, guard_tf, guard_ft, guard_undef, seqQ_normal, seqQ_ret, seqQ_exit, blockQ_ret, blockQ_normal, blockQ_exit, bodyQ_ret, bodyQ_normal, resK_nil, resK_tmp, ite_T, ite_F, upd_at, add_plain, add_zero', Nat.reduceEqDiff, fa8_0, fa8_1, fa8_2, fa8_3, fa14_0, fa14_1, fa19_0, len22, len24, fa26_0, fa26_1, fa26_2, len27, fa33_0, fa33_1, len35, fa77_0, fa77_1, fa88_0, fa88_1, fa88_2, fa88_3, fa88_4, fa88_5, fa114_0, fa114_1, fa114_2, fa124_0, fa124_1, len134, len136, len154, fa156_0, fa156_1, fa156_2, fa156_3, fa156_4, fa156_5, fa156_6, fa184_0, fa184_1, fa200_0, fa200_1, fa200_2, fa200_3, fa215_0, fa215_1, fa215_2, fa215_3, fa215_4, len218, len271, fa274_0, fa274_1, fa274_2, fa303_0, fa303_1, fa303_2, fa303_3, fa314_0, fa314_1, fa314_2, fa314_3, fa314_4, fa314_5, fa314_6, fa314_7, fa314_8, fa314_9, fa314_10]
    rw [i64_of (by omega) (by omega)]
    have e : spI T c (n + 1) i ++ spJ T c i (j + 1 - i) = P ++ spK T i j c := by
      rw [← hP, show j + 1 - i = (j - i) + 1 from by omega, spJ_succ, show i + (j - i) = j from by omega, List.append_assoc]
    refine hN2 _ _ hlt2 ⟨by omega, by omega, rfl, V, d, ps, ?_, ?_⟩
    · rw [e]
      exact r8
    · rw [e]
      exact A
  simp only [show ((c : Int) < (nons : Int)) from by omega, decide_true, bin_add, bin_sub, bin_mul, bin_eql, bin_neq, bin_lss, bin_leq, bin_gtr, bin_geq, un_not, un_neg, pick_true, pick_false, extract_two_0, extract_two_1, nilCheck_pointer, cond_true', cond_false', guard_tt, guard_ff, guard_tf, guard_ft, guard_undef, seqQ_normal, seqQ_ret, seqQ_exit, blockQ_ret, blockQ_normal, blockQ_exit, bodyQ_ret, bodyQ_normal, resK_nil, resK_tmp, ite_T, ite_F, upd_at, add_plain, add_zero', Nat.reduceEqDiff, fa8_0, fa8_1, fa8_2, fa8_3, fa14_0, fa14_1, fa19_0, len22, len24, fa26_0, fa26_1, fa26_2, len27, fa33_0, fa33_1, len35, fa77_0, fa77_1, fa88_0, fa88_1, fa88_2, fa88_3, fa88_4, fa88_5, fa114_0, fa114_1, fa114_2, fa124_0, fa124_1, len134, len136, len154, fa156_0, fa156_1, fa156_2, fa156_3, fa156_4, fa156_5, fa156_6, fa184_0, fa184_1, fa200_0, fa200_1, fa200_2, fa200_3, fa215_0, fa215_1, fa215_2, fa215_3, fa215_4, len218, len271, fa274_0, fa274_1, fa274_2, fa303_0, fa303_1, fa303_2, fa303_3, fa314_0, fa314_1, fa314_2, fa314_3, fa314_4, fa314_5, fa314_6, fa314_7, fa314_8, fa314_9, fa314_10]
  have hK := spK_len T i j c
  refine join_as (fun f w' => f 35 = .int .i64 (c : Int) ∧ ∃ (V : Option Addr) (d : Nat) (ps : Nat → Option Addr × Nat), f 8 = .slice V (P ++ spK T i j (c + 1)).length d ∧ Apt w4 w' [lss V d (P ++ spK T i j (c + 1)) ps]) (fun K hKj => ?_) ?_
  case refine_2 =>
    rintro f w' ⟨f35, V, d, ps, f8, A⟩
    simp only [f35, bin_add, bin_sub, bin_mul, bin_eql, bin_neq, bin_lss, bin_leq, bin_gtr, bin_geq, un_not, un_neg, pick_true, pick_false, extract_two_0, extract_two_1, nilCheck_pointer, cond_true', cond_false', guard_tt, guard_ff, guard_tf, guard_ft, guard_undef, seqQ_normal, seqQ_ret, seqQ_exit, blockQ_ret, blockQ_normal, blockQ_exit, bodyQ_ret, bodyQ_normal, resK_nil, resK_tmp, ite_T, ite_F, upd_at, add_plain, add_zero', Nat.reduceEqDiff, fa8_0, fa8_1, fa8_2, fa8_3, fa14_0, fa14_1, fa19_0, len22, len24, fa26_0, fa26_1, fa26_2, len27, fa33_0, fa33_1, len35, fa77_0, fa77_1, fa88_0, fa88_1, fa88_2, fa88_3, fa88_4, fa88_5, fa114_0, fa114_1, fa114_2, fa124_0, fa124_1, len134, len136, len154, fa156_0, fa156_1, fa156_2, fa156_3, fa156_4, fa156_5, fa156_6, fa184_0, fa184_1, fa200_0, fa200_1, fa200_2, fa200_3, fa215_0, fa215_1, fa215_2, fa215_3, fa215_4, len218, len271, fa274_0, fa274_1, fa274_2, fa303_0, fa303_1, fa303_2, fa303_3, fa314_0, fa314_1, fa314_2, fa314_3, fa314_4, fa314_5, fa314_6, fa314_7, fa314_8, fa314_9, fa314_10]
    rw [i64_of (by omega) (by omega)]
    exact hN3 _ _ hlt3 ⟨by omega, rfl, V, d, ps, f8, A⟩
  have hTw := hT.gr A.gr
  obtain ⟨R, cr, t1, t2, t3⟩ := hTw.row c hlt3
  have t4 := t3 i j (by omega) (by omega)
  refine rdi (ixn134 hT.ptr hlt3) (rdi (ld136 t1) ?_)
  have hm : i * (n + 1) ≤ 11 * 11 := Nat.mul_le_mul (by omega) (by omega)
  have hm2 : i * (n + 1) + j < (n + 1) * (n + 1) := Nat.lt_of_lt_of_le (show i * (n + 1) + j < (i + 1) * (n + 1) by rw [Nat.succ_mul]; omega) (Nat.mul_le_mul_right _ (by omega))
  rw [show ((i : Int) * ((n : Int) + 1)) = ((i * (n + 1) : Nat) : Int) from by push_cast; rfl]
  rw [i64_of (n := ((i * (n + 1) : Nat) : Int)) (by omega) (by omega), show ((i * (n + 1) : Nat) : Int) + (j : Int) = ((i * (n + 1) + j : Nat) : Int) from by push_cast; rfl, i64_of (by omega) (by omega)]
  refine rdi (ixn136 (fun _ => t2) hm2) (rdi (ld4 t4) ?_)
  cases hTc : T c i j
  · simp only [bin_add, bin_sub, bin_mul, bin_eql, bin_neq, bin_lss, bin_leq, bin_gtr, bin_geq, un_not, un_neg, pick_true, pick_false, extract_two_0, extract_two_1, nilCheck_pointer, cond_true', cond_false', guard_tt, guard_ff, guard_tf, guard_ft, guard_undef, seqQ_normal, seqQ_ret, seqQ_exit, blockQ_ret, blockQ_normal, blockQ_exit, bodyQ_ret, bodyQ_normal, resK_nil, resK_tmp, ite_T, ite_F, upd_at, add_plain, add_zero', Nat.reduceEqDiff, fa8_0, fa8_1, fa8_2, fa8_3, fa14_0, fa14_1, fa19_0, len22, len24, fa26_0, fa26_1, fa26_2, len27, fa33_0, fa33_1, len35, fa77_0, fa77_1, fa88_0, fa88_1, fa88_2, fa88_3, fa88_4, fa88_5, fa114_0, fa114_1, fa114_2, fa124_0, fa124_1, len134, len136, len154, fa156_0, fa156_1, fa156_2, fa156_3, fa156_4, fa156_5, fa156_6, fa184_0, fa184_1, fa200_0, fa200_1, fa200_2, fa200_3, fa215_0, fa215_1, fa215_2, fa215_3, fa215_4, len218, len271, fa274_0, fa274_1, fa274_2, fa303_0, fa303_1, fa303_2, fa303_3, fa314_0, fa314_1, fa314_2, fa314_3, fa314_4, fa314_5, fa314_6, fa314_7, fa314_8, fa314_9, fa314_10]
    refine hKj _ _ ⟨h35, V, d, ps, ?_, ?_⟩
    · rw [spK_succ, hTc, if_neg Bool.false_ne_true, List.append_nil]
      exact r8
    · rw [spK_succ, hTc, if_neg Bool.false_ne_true, List.append_nil]
      exact A
  · simp only [bin_add, bin_sub, bin_mul, bin_eql, bin_neq, bin_lss, bin_leq, bin_gtr, bin_geq, un_not, un_neg, pick_true, pick_false, extract_two_0, extract_two_1, nilCheck_pointer, cond_true', cond_false', guard_tt, guard_ff, guard_tf, guard_ft, guard_undef, seqQ_normal, seqQ_ret, seqQ_exit, blockQ_ret, blockQ_normal, blockQ_exit, bodyQ_ret, bodyQ_normal, resK_nil, resK_tmp, ite_T, ite_F, upd_at, add_plain, add_zero', Nat.reduceEqDiff, fa8_0, fa8_1, fa8_2, fa8_3, fa14_0, fa14_1, fa19_0, len22, len24, fa26_0, fa26_1, fa26_2, len27, fa33_0, fa33_1, len35, fa77_0, fa77_1, fa88_0, fa88_1, fa88_2, fa88_3, fa88_4, fa88_5, fa114_0, fa114_1, fa114_2, fa124_0, fa124_1, len134, len136, len154, fa156_0, fa156_1, fa156_2, fa156_3, fa156_4, fa156_5, fa156_6, fa184_0, fa184_1, fa200_0, fa200_1, fa200_2, fa200_3, fa215_0, fa215_1, fa215_2, fa215_3, fa215_4, len218, len271, fa274_0, fa274_1, fa274_2, fa303_0, fa303_1, fa303_2, fa303_3, fa314_0, fa314_1, fa314_2, fa314_3, fa314_4, fa314_5, fa314_6, fa314_7, fa314_8, fa314_9, fa314_10]
    refine buildH A u27 inf3 (ints [(i : Int), (j : Int), (c : Int)]) (by decide) (by decide) (by simp [Instr.fill, madeCells, Value.cells, rng3, ints]) rfl fun b7 w8 A => ?_
    simp only [List.cons_append, List.nil_append] at A
    refine pushSSH A 0 1 (by decide) (ys := [(i : Int), (j : Int), (c : Int)]) rfl rfl rfl rfl (by rw [List.length_append]; omega) fun t V' d' w9 ps' A => ?_
    simp only [List.set_cons_zero, List.set_cons_succ] at A
    have A := A.erase 1
    simp only [List.eraseIdx_cons_zero, List.eraseIdx_cons_succ] at A
    have e : P ++ spK T i j (c + 1) = P ++ spK T i j c ++ [[(i : Int), (j : Int), (c : Int)]] := by
      rw [spK_succ, hTc, if_pos rfl, List.append_assoc]
    refine hKj _ _ ⟨h35, V', d', ps', ?_, ?_⟩
    · rw [e]
      exact rfl
    · rw [e]
      exact A
set_option maxHeartbeats 3200000 in
theorem implSpansOf_c (hG : kG Y cy gm.rules w) (hX : kI X ws cx w) (hk : ∀ w' U d, Gr w w' → Intss w' U (spansV gm ws).1 → k (.tuple #[.slice U (spansV gm ws).1.length d, .bool (spansV gm ws).2]) w') :
    CallK Try.prog 20 [grv gm Y cy, .slice X ws.length cx] k w := by
  refine enter20 ?_
  unfold S20
  have H := ((Kn.nil w).addG hG.1 hG.2).addI hX.1 hX.2
  refine do_box fun b1 w1 g1 hb B1 => ?_
  have H := (H.step g1).addB B1
  rw [ldB_agg agg26 sz26 rfl (H.get 3 rfl)]
  refine isGrammar_c (gvK (H.get 1 rfl)) fun w2 g => ?_
  have H := H.step g
  unfold spansV wordG at hk
  cases hg : goodG gm
  · simp only [Bool.not_false, bin_add, bin_sub, bin_mul, bin_eql, bin_neq, bin_lss, bin_leq, bin_gtr, bin_geq, un_not, un_neg, pick_true, pick_false, extract_two_0, extract_two_1, nilCheck_pointer, cond_true', cond_false', guard_tt, guard_ff, guard_tf, guard_ft, guard_undef, seqQ_normal, seqQ_ret, seqQ_exit, blockQ_ret, blockQ_normal, blockQ_exit, bodyQ_ret, bodyQ_normal, resK_nil, resK_tmp, ite_T, ite_F, upd_at, add_plain, add_zero', Nat.reduceEqDiff, fa8_0, fa8_1, fa8_2, fa8_3, fa14_0, fa14_1, fa19_0, len22, len24, fa26_0, fa26_1, fa26_2, len27, fa33_0, fa33_1, len35, fa77_0, fa77_1, fa88_0, fa88_1, fa88_2, fa88_3, fa88_4, fa88_5, fa114_0, fa114_1, fa114_2, fa124_0, fa124_1, len134, len136, len154, fa156_0, fa156_1, fa156_2, fa156_3, fa156_4, fa156_5, fa156_6, fa184_0, fa184_1, fa200_0, fa200_1, fa200_2, fa200_3, fa215_0, fa215_1, fa215_2, fa215_3, fa215_4, len218, len271, fa274_0, fa274_1, fa274_2, fa303_0, fa303_1, fa303_2, fa303_3, fa314_0, fa314_1, fa314_2, fa314_3, fa314_4, fa314_5, fa314_6, fa314_7, fa314_8, fa314_9, fa314_10]
    rw [hg, Bool.false_and, if_neg Bool.false_ne_true] at hk
    exact hk _ none 0 (H.get 0 rfl) ⟨by simp, fun h => by simp at h, fun j hj => by simp at hj⟩
  rw [hg, Bool.true_and] at hk
  have hn := good_nons hg
  have ht := good_toks hg
  simp only [Bool.not_true, bin_add, bin_sub, bin_mul, bin_eql, bin_neq, bin_lss, bin_leq, bin_gtr, bin_geq, un_not, un_neg, pick_true, pick_false, extract_two_0, extract_two_1, nilCheck_pointer, cond_true', cond_false', guard_tt, guard_ff, guard_tf, guard_ft, guard_undef, seqQ_normal, seqQ_ret, seqQ_exit, blockQ_ret, blockQ_normal, blockQ_exit, bodyQ_ret, bodyQ_normal, resK_nil, resK_tmp, ite_T, ite_F, upd_at, add_plain, add_zero', Nat.reduceEqDiff, fa8_0, fa8_1, fa8_2, fa8_3, fa14_0, fa14_1, fa19_0, len22, len24, fa26_0, fa26_1, fa26_2, len27, fa33_0, fa33_1, len35, fa77_0, fa77_1, fa88_0, fa88_1, fa88_2, fa88_3, fa88_4, fa88_5, fa114_0, fa114_1, fa114_2, fa124_0, fa124_1, len134, len136, len154, fa156_0, fa156_1, fa156_2, fa156_3, fa156_4, fa156_5, fa156_6, fa184_0, fa184_1, fa200_0, fa200_1, fa200_2, fa200_3, fa215_0, fa215_1, fa215_2, fa215_3, fa215_4, len218, len271, fa274_0, fa274_1, fa274_2, fa303_0, fa303_1, fa303_2, fa303_3, fa314_0, fa314_1, fa314_2, fa314_3, fa314_4, fa314_5, fa314_6, fa314_7, fa314_8, fa314_9, fa314_10]
  rw [ldB3 (H.get 3 rfl) rfl]
  refine isWord_c (H.get 2 rfl).1 rfl (by omega) (by omega) fun w3 g => ?_
  have H := H.step g
  cases hw : wordB gm.toks ws
  · simp only [Bool.not_false, bin_add, bin_sub, bin_mul, bin_eql, bin_neq, bin_lss, bin_leq, bin_gtr, bin_geq, un_not, un_neg, pick_true, pick_false, extract_two_0, extract_two_1, nilCheck_pointer, cond_true', cond_false', guard_tt, guard_ff, guard_tf, guard_ft, guard_undef, seqQ_normal, seqQ_ret, seqQ_exit, blockQ_ret, blockQ_normal, blockQ_exit, bodyQ_ret, bodyQ_normal, resK_nil, resK_tmp, ite_T, ite_F, upd_at, add_plain, add_zero', Nat.reduceEqDiff, fa8_0, fa8_1, fa8_2, fa8_3, fa14_0, fa14_1, fa19_0, len22, len24, fa26_0, fa26_1, fa26_2, len27, fa33_0, fa33_1, len35, fa77_0, fa77_1, fa88_0, fa88_1, fa88_2, fa88_3, fa88_4, fa88_5, fa114_0, fa114_1, fa114_2, fa124_0, fa124_1, len134, len136, len154, fa156_0, fa156_1, fa156_2, fa156_3, fa156_4, fa156_5, fa156_6, fa184_0, fa184_1, fa200_0, fa200_1, fa200_2, fa200_3, fa215_0, fa215_1, fa215_2, fa215_3, fa215_4, len218, len271, fa274_0, fa274_1, fa274_2, fa303_0, fa303_1, fa303_2, fa303_3, fa314_0, fa314_1, fa314_2, fa314_3, fa314_4, fa314_5, fa314_6, fa314_7, fa314_8, fa314_9, fa314_10]
    rw [hw, if_neg Bool.false_ne_true] at hk
    exact hk _ none 0 (H.get 0 rfl) ⟨by simp, fun h => by simp at h, fun j hj => by simp at hj⟩
  rw [hw, if_pos rfl] at hk
  simp only [Bool.not_true, bin_add, bin_sub, bin_mul, bin_eql, bin_neq, bin_lss, bin_leq, bin_gtr, bin_geq, un_not, un_neg, pick_true, pick_false, extract_two_0, extract_two_1, nilCheck_pointer, cond_true', cond_false', guard_tt, guard_ff, guard_tf, guard_ft, guard_undef, seqQ_normal, seqQ_ret, seqQ_exit, blockQ_ret, blockQ_normal, blockQ_exit, bodyQ_ret, bodyQ_normal, resK_nil, resK_tmp, ite_T, ite_F, upd_at, add_plain, add_zero', Nat.reduceEqDiff, fa8_0, fa8_1, fa8_2, fa8_3, fa14_0, fa14_1, fa19_0, len22, len24, fa26_0, fa26_1, fa26_2, len27, fa33_0, fa33_1, len35, fa77_0, fa77_1, fa88_0, fa88_1, fa88_2, fa88_3, fa88_4, fa88_5, fa114_0, fa114_1, fa114_2, fa124_0, fa124_1, len134, len136, len154, fa156_0, fa156_1, fa156_2, fa156_3, fa156_4, fa156_5, fa156_6, fa184_0, fa184_1, fa200_0, fa200_1, fa200_2, fa200_3, fa215_0, fa215_1, fa215_2, fa215_3, fa215_4, len218, len271, fa274_0, fa274_1, fa274_2, fa303_0, fa303_1, fa303_2, fa303_3, fa314_0, fa314_1, fa314_2, fa314_3, fa314_4, fa314_5, fa314_6, fa314_7, fa314_8, fa314_9, fa314_10]
  have hW := wordB_of hw
  rw [ldB_agg agg26 sz26 rfl (H.get 3 rfl)]
  refine spans_c (gvK (H.get 1 rfl)) hg (H.get 2 rfl).1 rfl hW.1 (fun t ht' => by have := hW.2 t ht'; omega) fun w4 bT HT => ?_
  have H := H.step HT.gr
  have HB := HT.box 0 rfl
  obtain ⟨nons, hnons⟩ : ∃ nons : Nat, gm.nons = (nons : Int) := ⟨gm.nons.toNat, by omega⟩
  rw [show gm.nons.toNat = nons from by omega] at hk
  have hn6 : nons ≤ 6 := by omega
  generalize hL : ws.length = n at *
  generalize spanT gm.rules ws = T at *
  have A := Apt.nil w4
  refine buildH A u35 inf27 [] (by decide) (by decide) (by simp [Instr.fill, madeCells]) rfl fun b2 w5 A => ?_
  simp only [List.nil_append] at A
  have A := A.emptySS 0 (e2 := 3) (fun _ => (none, 0)) rfl
  simp only [List.set_cons_zero] at A
  rw [i64_of (by omega) (by omega)]
  refine loop_to (n + 1) 0 (fun i f w' => i ≤ n + 1 ∧ f 28 = .int .i64 (i : Int) ∧ ∃ (V : Option Addr) (d : Nat) (ps : Nat → Option Addr × Nat), f 7 = .slice V (spI T nons (n + 1) i).length d ∧ Apt w4 w' [lss V d (spI T nons (n + 1) i) ps])
    ⟨Nat.zero_le _, rfl, _, _, _, rfl, A⟩ ?_
  clear A
  rintro i f w5 N hag ⟨hi, h28, V, d, ps, h7, A⟩ hN
  have f1 : f 1 = .slice X n cx := hag 1 (by decide)
  have f2 : f 2 = ptrv b1 := hag 2 (by decide)
  have f6 : f 6 = ptrv bT := hag 6 (by decide)
  have f27 : f 27 = .int .i64 ((n : Int) + 1) := hag 27 (by decide)
  simp only [f27, h28, h7, bin_add, bin_sub, bin_mul, bin_eql, bin_neq, bin_lss, bin_leq, bin_gtr, bin_geq, un_not, un_neg, pick_true, pick_false, extract_two_0, extract_two_1, nilCheck_pointer, cond_true', cond_false', guard_tt, guard_ff, guard_tf, guard_ft, guard_undef, seqQ_normal, seqQ_ret, seqQ_exit, blockQ_ret, blockQ_normal, blockQ_exit, bodyQ_ret, bodyQ_normal, resK_nil, resK_tmp, ite_T, ite_F, upd_at, add_plain, add_zero', Nat.reduceEqDiff, fa8_0, fa8_1, fa8_2, fa8_3, fa14_0, fa14_1, fa19_0, len22, len24, fa26_0, fa26_1, fa26_2, len27, fa33_0, fa33_1, len35, fa77_0, fa77_1, fa88_0, fa88_1, fa88_2, fa88_3, fa88_4, fa88_5, fa114_0, fa114_1, fa114_2, fa124_0, fa124_1, len134, len136, len154, fa156_0, fa156_1, fa156_2, fa156_3, fa156_4, fa156_5, fa156_6, fa184_0, fa184_1, fa200_0, fa200_1, fa200_2, fa200_3, fa215_0, fa215_1, fa215_2, fa215_3, fa215_4, len218, len271, fa274_0, fa274_1, fa274_2, fa303_0, fa303_1, fa303_2, fa303_3, fa314_0, fa314_1, fa314_2, fa314_3, fa314_4, fa314_5, fa314_6, fa314_7, fa314_8, fa314_9, fa314_10]
  by_cases hlt : i < n + 1
  case neg =>
    obtain rfl : i = n + 1 := by omega
    simp only [show ¬ (((n + 1 : Nat) : Int) < (n : Int) + 1) from by omega, decide_false, bin_add, bin_sub, bin_mul, bin_eql, bin_neq, bin_lss, bin_leq, bin_gtr, bin_geq, un_not, un_neg, pick_true, pick_false, extract_two_0, extract_two_1, nilCheck_pointer, cond_true', cond_false', guard_tt, guard_ff, guard_tf, guard_ft, guard_undef, seqQ_normal, seqQ_ret, seqQ_exit, blockQ_ret, blockQ_normal, blockQ_exit, bodyQ_ret, bodyQ_normal, resK_nil, resK_tmp, ite_T, ite_F, upd_at, add_plain, add_zero', Nat.reduceEqDiff, fa8_0, fa8_1, fa8_2, fa8_3, fa14_0, fa14_1, fa19_0, len22, len24, fa26_0, fa26_1, fa26_2, len27, fa33_0, fa33_1, len35, fa77_0, fa77_1, fa88_0, fa88_1, fa88_2, fa88_3, fa88_4, fa88_5, fa114_0, fa114_1, fa114_2, fa124_0, fa124_1, len134, len136, len154, fa156_0, fa156_1, fa156_2, fa156_3, fa156_4, fa156_5, fa156_6, fa184_0, fa184_1, fa200_0, fa200_1, fa200_2, fa200_3, fa215_0, fa215_1, fa215_2, fa215_3, fa215_4, len218, len271, fa274_0, fa274_1, fa274_2, fa303_0, fa303_1, fa303_2, fa303_3, fa314_0, fa314_1, fa314_2, fa314_3, fa314_4, fa314_5, fa314_6, fa314_7, fa314_8, fa314_9, fa314_10]
    exact hk _ V d (gr_trans (H.get 0 rfl) A.gr) (A.lssi 0 rfl).read
  simp only [show ((i : Int) < (n : Int) + 1) from by omega, decide_true, bin_add, bin_sub, bin_mul, bin_eql, bin_neq, bin_lss, bin_leq, bin_gtr, bin_geq, un_not, un_neg, pick_true, pick_false, extract_two_0, extract_two_1, nilCheck_pointer, cond_true', cond_false', guard_tt, guard_ff, guard_tf, guard_ft, guard_undef, seqQ_normal, seqQ_ret, seqQ_exit, blockQ_ret, blockQ_normal, blockQ_exit, bodyQ_ret, bodyQ_normal, resK_nil, resK_tmp, ite_T, ite_F, upd_at, add_plain, add_zero', Nat.reduceEqDiff, fa8_0, fa8_1, fa8_2, fa8_3, fa14_0, fa14_1, fa19_0, len22, len24, fa26_0, fa26_1, fa26_2, len27, fa33_0, fa33_1, len35, fa77_0, fa77_1, fa88_0, fa88_1, fa88_2, fa88_3, fa88_4, fa88_5, fa114_0, fa114_1, fa114_2, fa124_0, fa124_1, len134, len136, len154, fa156_0, fa156_1, fa156_2, fa156_3, fa156_4, fa156_5, fa156_6, fa184_0, fa184_1, fa200_0, fa200_1, fa200_2, fa200_3, fa215_0, fa215_1, fa215_2, fa215_3, fa215_4, len218, len271, fa274_0, fa274_1, fa274_2, fa303_0, fa303_1, fa303_2, fa303_3, fa314_0, fa314_1, fa314_2, fa314_3, fa314_4, fa314_5, fa314_6, fa314_7, fa314_8, fa314_9, fa314_10]
  have hI := spI_len T nons (n + 1) i hn6 (by omega)
  refine loop_to (n + 1) i (fun j f w' => i ≤ j ∧ j ≤ n + 1 ∧ f 9 = .int .i64 (j : Int) ∧ ∃ (V : Option Addr) (d : Nat) (ps : Nat → Option Addr × Nat), f 7 = .slice V (spI T nons (n + 1) i ++ spJ T nons i (j - i)).length d ∧ Apt w4 w' [lss V d (spI T nons (n + 1) i ++ spJ T nons i (j - i)) ps])
    ⟨Nat.le_refl _, hi, rfl, V, d, ps, by rw [Nat.sub_self, show spJ T nons i 0 = [] from rfl, List.append_nil]; exact h7, by rw [Nat.sub_self, show spJ T nons i 0 = [] from rfl, List.append_nil]; exact A⟩ ?_
  clear A
  rintro j q w6 N2 hag2 ⟨hij, hj, h9, V, d, ps, q7, A⟩ hN2
  have q1 : q 1 = .slice X n cx := (hag2 1 (by decide)).trans f1
  have q2 : q 2 = ptrv b1 := (hag2 2 (by decide)).trans f2
  have q6 : q 6 = ptrv bT := (hag2 6 (by decide)).trans f6
  have q8 : q 8 = .int .i64 (i : Int) := hag2 8 (by decide)
  have q28 : q 28 = .int .i64 (i : Int) := (hag2 28 (by decide)).trans h28
  simp only [q1, q2, q6, q8, h9, q7, bin_add, bin_sub, bin_mul, bin_eql, bin_neq, bin_lss, bin_leq, bin_gtr, bin_geq, un_not, un_neg, pick_true, pick_false, extract_two_0, extract_two_1, nilCheck_pointer, cond_true', cond_false', guard_tt, guard_ff, guard_tf, guard_ft, guard_undef, seqQ_normal, seqQ_ret, seqQ_exit, blockQ_ret, blockQ_normal, blockQ_exit, bodyQ_ret, bodyQ_normal, resK_nil, resK_tmp, ite_T, ite_F, upd_at, add_plain, add_zero', Nat.reduceEqDiff, fa8_0, fa8_1, fa8_2, fa8_3, fa14_0, fa14_1, fa19_0, len22, len24, fa26_0, fa26_1, fa26_2, len27, fa33_0, fa33_1, len35, fa77_0, fa77_1, fa88_0, fa88_1, fa88_2, fa88_3, fa88_4, fa88_5, fa114_0, fa114_1, fa114_2, fa124_0, fa124_1, len134, len136, len154, fa156_0, fa156_1, fa156_2, fa156_3, fa156_4, fa156_5, fa156_6, fa184_0, fa184_1, fa200_0, fa200_1, fa200_2, fa200_3, fa215_0, fa215_1, fa215_2, fa215_3, fa215_4, len218, len271, fa274_0, fa274_1, fa274_2, fa303_0, fa303_1, fa303_2, fa303_3, fa314_0, fa314_1, fa314_2, fa314_3, fa314_4, fa314_5, fa314_6, fa314_7, fa314_8, fa314_9, fa314_10]
  by_cases hlt2 : j < n + 1
  case neg =>
    obtain rfl : j = n + 1 := by omega
    simp only [show ¬ (((n + 1 : Nat) : Int) ≤ (n : Int)) from by omega, decide_false, q28, bin_add, bin_sub, bin_mul, bin_eql, bin_neq, bin_lss, bin_leq, bin_gtr, bin_geq, un_not, un_neg, pick_true, pick_false, extract_two_0, extract_two_1, nilCheck_pointer, cond_true', cond_false', guard_tt, guard_ff, guard_tf, guard_ft, guard_undef, seqQ_normal, seqQ_ret, seqQ_exit, blockQ_ret, blockQ_normal, blockQ_exit, bodyQ_ret, bodyQ_normal, resK_nil, resK_tmp, ite_T, ite_F, upd_at, add_plain, add_zero', Nat.reduceEqDiff, fa8_0, fa8_1, fa8_2, fa8_3, fa14_0, fa14_1, fa19_0, len22, len24, fa26_0, fa26_1, fa26_2, len27, fa33_0, fa33_1, len35, fa77_0, fa77_1, fa88_0, fa88_1, fa88_2, fa88_3, fa88_4, fa88_5, fa114_0, fa114_1, fa114_2, fa124_0, fa124_1, len134, len136, len154, fa156_0, fa156_1, fa156_2, fa156_3, fa156_4, fa156_5, fa156_6, fa184_0, fa184_1, fa200_0, fa200_1, fa200_2, fa200_3, fa215_0, fa215_1, fa215_2, fa215_3, fa215_4, len218, len271, fa274_0, fa274_1, fa274_2, fa303_0, fa303_1, fa303_2, fa303_3, fa314_0, fa314_1, fa314_2, fa314_3, fa314_4, fa314_5, fa314_6, fa314_7, fa314_8, fa314_9, fa314_10]
    rw [i64_of (by omega) (by omega)]
    refine hN _ _ hlt ⟨by omega, rfl, V, d, ps, ?_, ?_⟩
    · rw [spI_succ]
      exact q7
    · rw [spI_succ]
      exact A
  simp only [show ((j : Int) ≤ (n : Int)) from by omega, decide_true, bin_add, bin_sub, bin_mul, bin_eql, bin_neq, bin_lss, bin_leq, bin_gtr, bin_geq, un_not, un_neg, pick_true, pick_false, extract_two_0, extract_two_1, nilCheck_pointer, cond_true', cond_false', guard_tt, guard_ff, guard_tf, guard_ft, guard_undef, seqQ_normal, seqQ_ret, seqQ_exit, blockQ_ret, blockQ_normal, blockQ_exit, bodyQ_ret, bodyQ_normal, resK_nil, resK_tmp, ite_T, ite_F, upd_at, add_plain, add_zero', Nat.reduceEqDiff, fa8_0, fa8_1, fa8_2, fa8_3, fa14_0, fa14_1, fa19_0, len22, len24, fa26_0, fa26_1, fa26_2, len27, fa33_0, fa33_1, len35, fa77_0, fa77_1, fa88_0, fa88_1, fa88_2, fa88_3, fa88_4, fa88_5, fa114_0, fa114_1, fa114_2, fa124_0, fa124_1, len134, len136, len154, fa156_0, fa156_1, fa156_2, fa156_3, fa156_4, fa156_5, fa156_6, fa184_0, fa184_1, fa200_0, fa200_1, fa200_2, fa200_3, fa215_0, fa215_1, fa215_2, fa215_3, fa215_4, len218, len271, fa274_0, fa274_1, fa274_2, fa303_0, fa303_1, fa303_2, fa303_3, fa314_0, fa314_1, fa314_2, fa314_3, fa314_4, fa314_5, fa314_6, fa314_7, fa314_8, fa314_9, fa314_10]
  rw [ldB3 ((H.get 3 rfl).gr A.gr) rfl, hnons]
  have hJ := spJ_len T nons i (j - i) hn6
  generalize hP : spI T nons (n + 1) i ++ spJ T nons i (j - i) = P at *
  have hPl : P.length ≤ 2000 := by
    rw [← hP, List.length_append]
    omega
  refine loop_to nons 0 (fun c f w' => c ≤ nons ∧ f 40 = .int .i64 (c : Int) ∧ ∃ (V : Option Addr) (d : Nat) (ps : Nat → Option Addr × Nat), f 7 = .slice V (P ++ spK T i j c).length d ∧ Apt w4 w' [lss V d (P ++ spK T i j c) ps])
    ⟨Nat.zero_le _, rfl, V, d, ps, by rw [show spK T i j 0 = [] from rfl, List.append_nil]; exact q7, by rw [show spK T i j 0 = [] from rfl, List.append_nil]; exact A⟩ ?_
  clear A
  rintro c r w7 N3 hag3 ⟨hc, h40, V, d, ps, r7, A⟩ hN3
  have r6 : r 6 = ptrv bT := (hag3 6 (by decide)).trans q6
  have r8 : r 8 = .int .i64 (i : Int) := (hag3 8 (by decide)).trans q8
  have r9 : r 9 = .int .i64 (j : Int) := (hag3 9 (by decide)).trans h9
  have r39 : r 39 = .int .i64 (nons : Int) := hag3 39 (by decide)
  simp only [r6, r8, r9, r39, h40, r7, bin_add, bin_sub, bin_mul, bin_eql, bin_neq, bin_lss, bin_leq, bin_gtr, bin_geq, un_not, un_neg, pick_true, pick_false, extract_two_0, extract_two_1, nilCheck_pointer, cond_true', cond_false', guard_tt, guard_ff, guard_tf, guard_ft, guard_undef, seqQ_normal, seqQ_ret, seqQ_exit, blockQ_ret, blockQ_normal, blockQ_exit, bodyQ_ret, bodyQ_normal, resK_nil, resK_tmp, ite_T, ite_F, upd_at, add_plain, add_zero', Nat.reduceEqDiff, fa8_0, fa8_1, fa8_2, fa8_3, fa14_0, fa14_1, fa19_0, len22, len24, fa26_0, fa26_1, fa26_2, len27, fa33_0, fa33_1, len35, fa77_0, fa77_1, fa88_0, fa88_1, fa88_2, fa88_3, fa88_4, fa88_5, fa114_0, fa114_1, fa114_2, fa124_0, fa124_1, len134, len136, len154, fa156_0, fa156_1, fa156_2, fa156_3, fa156_4, fa156_5, fa156_6, fa184_0, fa184_1, fa200_0, fa200_1, fa200_2, fa200_3, fa215_0, fa215_1, fa215_2, fa215_3, fa215_4, len218, len271, fa274_0, fa274_1, fa274_2, fa303_0, fa303_1, fa303_2, fa303_3, fa314_0, fa314_1, fa314_2, fa314_3, fa314_4, fa314_5, fa314_6, fa314_7, fa314_8, fa314_9, fa314_10]
  by_cases hlt3 : c < nons
  case neg =>
    obtain rfl : c = nons := by omega
    simp only [show ¬ ((c : Int) < (c : Int)) from by omega, decide_false, r9, bin_add, bin_sub, bin_mul, bin_eql, bin_neq, bin_lss, bin_leq, bin_gtr, bin_geq, un_not, un_neg, pick_true, pick_false, extract_two_0, extract_two_1, nilCheck_pointer, cond_true', cond_false', guard_tt, guard_ff, guard_tf, guard_ft, guard_undef, seqQ_normal, seqQ_ret, seqQ_exit, blockQ_ret, blockQ_normal, blockQ_exit, bodyQ_ret, bodyQ_normal, resK_nil, resK_tmp, ite_T, ite_F, upd_at, add_plain, add_zero', Nat.reduceEqDiff, fa8_0, fa8_1, fa8_2, fa8_3, fa14_0, fa14_1, fa19_0, len22, len24, fa26_0, fa26_1, fa26_2, len27, fa33_0, fa33_1, len35, fa77_0, fa77_1, fa88_0, fa88_1, fa88_2, fa88_3, fa88_4, fa88_5, fa114_0, fa114_1, fa114_2, fa124_0, fa124_1, len134, len136, len154, fa156_0, fa156_1, fa156_2, fa156_3, fa156_4, fa156_5, fa156_6, fa184_0, fa184_1, fa200_0, fa200_1, fa200_2, fa200_3, fa215_0, fa215_1, fa215_2, fa215_3, fa215_4, len218, len271, fa274_0, fa274_1, fa274_2, fa303_0, fa303_1, fa303_2, fa303_3, fa314_0, fa314_1, fa314_2, fa314_3, fa314_4, fa314_5, fa314_6, fa314_7, fa314_8, fa314_9, fa314_10]
    rw [i64_of (by omega) (by omega)]
    have e : spI T c (n + 1) i ++ spJ T c i (j + 1 - i) = P ++ spK T i j c := by
      rw [← hP, show j + 1 - i = (j - i) + 1 from by omega, spJ_succ, show i + (j - i) = j from by omega, List.append_assoc]
    refine hN2 _ _ hlt2 ⟨by omega, by omega, rfl, V, d, ps, ?_, ?_⟩
    · rw [e]
      exact r7
    · rw [e]
      exact A
  simp only [show ((c : Int) < (nons : Int)) from by omega, decide_true, bin_add, bin_sub, bin_mul, bin_eql, bin_neq, bin_lss, bin_leq, bin_gtr, bin_geq, un_not, un_neg, pick_true, pick_false, extract_two_0, extract_two_1, nilCheck_pointer, cond_true', cond_false', guard_tt, guard_ff, guard_tf, guard_ft, guard_undef, seqQ_normal, seqQ_ret, seqQ_exit, blockQ_ret, blockQ_normal, blockQ_exit, bodyQ_ret, bodyQ_normal, resK_nil, resK_tmp, ite_T, ite_F, upd_at, add_plain, add_zero', Nat.reduceEqDiff, fa8_0, fa8_1, fa8_2, fa8_3, fa14_0, fa14_1, fa19_0, len22, len24, fa26_0, fa26_1, fa26_2, len27, fa33_0, fa33_1, len35, fa77_0, fa77_1, fa88_0, fa88_1, fa88_2, fa88_3, fa88_4, fa88_5, fa114_0, fa114_1, fa114_2, fa124_0, fa124_1, len134, len136, len154, fa156_0, fa156_1, fa156_2, fa156_3, fa156_4, fa156_5, fa156_6, fa184_0, fa184_1, fa200_0, fa200_1, fa200_2, fa200_3, fa215_0, fa215_1, fa215_2, fa215_3, fa215_4, len218, len271, fa274_0, fa274_1, fa274_2, fa303_0, fa303_1, fa303_2, fa303_3, fa314_0, fa314_1, fa314_2, fa314_3, fa314_4, fa314_5, fa314_6, fa314_7, fa314_8, fa314_9, fa314_10]
  have hK := spK_len T i j c
  refine join_as (fun f w' => f 40 = .int .i64 (c : Int) ∧ ∃ (V : Option Addr) (d : Nat) (ps : Nat → Option Addr × Nat), f 7 = .slice V (P ++ spK T i j (c + 1)).length d ∧ Apt w4 w' [lss V d (P ++ spK T i j (c + 1)) ps]) (fun K hKj => ?_) ?_
  case refine_2 =>
    rintro f w' ⟨f40, V, d, ps, f7, A⟩
    simp only [f40, bin_add, bin_sub, bin_mul, bin_eql, bin_neq, bin_lss, bin_leq, bin_gtr, bin_geq, un_not, un_neg, pick_true, pick_false, extract_two_0, extract_two_1, nilCheck_pointer, cond_true', cond_false', guard_tt, guard_ff, guard_tf, guard_ft, guard_undef, seqQ_normal, seqQ_ret, seqQ_exit, blockQ_ret, blockQ_normal, blockQ_exit, bodyQ_ret, bodyQ_normal, resK_nil, resK_tmp, ite_T, ite_F, upd_at, add_plain, add_zero', Nat.reduceEqDiff, fa8_0, fa8_1, fa8_2, fa8_3, fa14_0, fa14_1, fa19_0, len22, len24, fa26_0, fa26_1, fa26_2, len27, fa33_0, fa33_1, len35, fa77_0, fa77_1, fa88_0, fa88_1, fa88_2, fa88_3, fa88_4, fa88_5, fa114_0, fa114_1, fa114_2, fa124_0, fa124_1, len134, len136, len154, fa156_0, fa156_1, fa156_2, fa156_3, fa156_4, fa156_5, fa156_6, fa184_0, fa184_1, fa200_0, fa200_1, fa200_2, fa200_3, fa215_0, fa215_1, fa215_2, fa215_3, fa215_4, len218, len271, fa274_0, fa274_1, fa274_2, fa303_0, fa303_1, fa303_2, fa303_3, fa314_0, fa314_1, fa314_2, fa314_3, fa314_4, fa314_5, fa314_6, fa314_7, fa314_8, fa314_9, fa314_10]
    rw [i64_of (by omega) (by omega)]
    exact hN3 _ _ hlt3 ⟨by omega, rfl, V, d, ps, f7, A⟩
  refine rdi (ixa122 (by omega) (by omega)) ?_
  refine rdi (ixa121 (by omega) (by omega)) ?_
  refine rdi (ixa120 (by omega) (by omega)) ?_
  simp only [Int.toNat_natCast, bin_add, bin_sub, bin_mul, bin_eql, bin_neq, bin_lss, bin_leq, bin_gtr, bin_geq, un_not, un_neg, pick_true, pick_false, extract_two_0, extract_two_1, nilCheck_pointer, cond_true', cond_false', guard_tt, guard_ff, guard_tf, guard_ft, guard_undef, seqQ_normal, seqQ_ret, seqQ_exit, blockQ_ret, blockQ_normal, blockQ_exit, bodyQ_ret, bodyQ_normal, resK_nil, resK_tmp, ite_T, ite_F, upd_at, add_plain, add_zero', Nat.reduceEqDiff, fa8_0, fa8_1, fa8_2, fa8_3, fa14_0, fa14_1, fa19_0, len22, len24, fa26_0, fa26_1, fa26_2, len27, fa33_0, fa33_1, len35, fa77_0, fa77_1, fa88_0, fa88_1, fa88_2, fa88_3, fa88_4, fa88_5, fa114_0, fa114_1, fa114_2, fa124_0, fa124_1, len134, len136, len154, fa156_0, fa156_1, fa156_2, fa156_3, fa156_4, fa156_5, fa156_6, fa184_0, fa184_1, fa200_0, fa200_1, fa200_2, fa200_3, fa215_0, fa215_1, fa215_2, fa215_3, fa215_4, len218, len271, fa274_0, fa274_1, fa274_2, fa303_0, fa303_1, fa303_2, fa303_3, fa314_0, fa314_1, fa314_2, fa314_3, fa314_4, fa314_5, fa314_6, fa314_7, fa314_8, fa314_9, fa314_10]
  have hoff : 0 + (0 + 1) + c * 121 + i * 11 + j = c * 121 + i * 11 + j + 1 := by omega
  rw [hoff]
  refine rdi (ldB4 (HB.gr A.gr) (cellsT_at (by omega) (by omega) (by omega))) ?_
  cases hTc : T c i j
  · simp only [bin_add, bin_sub, bin_mul, bin_eql, bin_neq, bin_lss, bin_leq, bin_gtr, bin_geq, un_not, un_neg, pick_true, pick_false, extract_two_0, extract_two_1, nilCheck_pointer, cond_true', cond_false', guard_tt, guard_ff, guard_tf, guard_ft, guard_undef, seqQ_normal, seqQ_ret, seqQ_exit, blockQ_ret, blockQ_normal, blockQ_exit, bodyQ_ret, bodyQ_normal, resK_nil, resK_tmp, ite_T, ite_F, upd_at, add_plain, add_zero', Nat.reduceEqDiff, fa8_0, fa8_1, fa8_2, fa8_3, fa14_0, fa14_1, fa19_0, len22, len24, fa26_0, fa26_1, fa26_2, len27, fa33_0, fa33_1, len35, fa77_0, fa77_1, fa88_0, fa88_1, fa88_2, fa88_3, fa88_4, fa88_5, fa114_0, fa114_1, fa114_2, fa124_0, fa124_1, len134, len136, len154, fa156_0, fa156_1, fa156_2, fa156_3, fa156_4, fa156_5, fa156_6, fa184_0, fa184_1, fa200_0, fa200_1, fa200_2, fa200_3, fa215_0, fa215_1, fa215_2, fa215_3, fa215_4, len218, len271, fa274_0, fa274_1, fa274_2, fa303_0, fa303_1, fa303_2, fa303_3, fa314_0, fa314_1, fa314_2, fa314_3, fa314_4, fa314_5, fa314_6, fa314_7, fa314_8, fa314_9, fa314_10]
    refine hKj _ _ ⟨h40, V, d, ps, ?_, ?_⟩
    · rw [spK_succ, hTc, if_neg Bool.false_ne_true, List.append_nil]
      exact r7
    · rw [spK_succ, hTc, if_neg Bool.false_ne_true, List.append_nil]
      exact A
  · simp only [bin_add, bin_sub, bin_mul, bin_eql, bin_neq, bin_lss, bin_leq, bin_gtr, bin_geq, un_not, un_neg, pick_true, pick_false, extract_two_0, extract_two_1, nilCheck_pointer, cond_true', cond_false', guard_tt, guard_ff, guard_tf, guard_ft, guard_undef, seqQ_normal, seqQ_ret, seqQ_exit, blockQ_ret, blockQ_normal, blockQ_exit, bodyQ_ret, bodyQ_normal, resK_nil, resK_tmp, ite_T, ite_F, upd_at, add_plain, add_zero', Nat.reduceEqDiff, fa8_0, fa8_1, fa8_2, fa8_3, fa14_0, fa14_1, fa19_0, len22, len24, fa26_0, fa26_1, fa26_2, len27, fa33_0, fa33_1, len35, fa77_0, fa77_1, fa88_0, fa88_1, fa88_2, fa88_3, fa88_4, fa88_5, fa114_0, fa114_1, fa114_2, fa124_0, fa124_1, len134, len136, len154, fa156_0, fa156_1, fa156_2, fa156_3, fa156_4, fa156_5, fa156_6, fa184_0, fa184_1, fa200_0, fa200_1, fa200_2, fa200_3, fa215_0, fa215_1, fa215_2, fa215_3, fa215_4, len218, len271, fa274_0, fa274_1, fa274_2, fa303_0, fa303_1, fa303_2, fa303_3, fa314_0, fa314_1, fa314_2, fa314_3, fa314_4, fa314_5, fa314_6, fa314_7, fa314_8, fa314_9, fa314_10]
    refine buildH A u27 inf3 (ints [(i : Int), (j : Int), (c : Int)]) (by decide) (by decide) (by simp [Instr.fill, madeCells, Value.cells, rng3, ints]) rfl fun b7 w8 A => ?_
    simp only [List.cons_append, List.nil_append] at A
    refine pushSSH A 0 1 (by decide) (ys := [(i : Int), (j : Int), (c : Int)]) rfl rfl rfl rfl (by rw [List.length_append]; omega) fun t V' d' w9 ps' A => ?_
    simp only [List.set_cons_zero, List.set_cons_succ] at A
    have A := A.erase 1
    simp only [List.eraseIdx_cons_zero, List.eraseIdx_cons_succ] at A
    have e : P ++ spK T i j (c + 1) = P ++ spK T i j c ++ [[(i : Int), (j : Int), (c : Int)]] := by
      rw [spK_succ, hTc, if_pos rfl, List.append_assoc]
    refine hKj _ _ ⟨h40, V', d', ps', ?_, ?_⟩
    · rw [e]
      exact rfl
    · rw [e]
      exact A
end
end Go.Proofs.Ytegcjkhebecgbaa

/- Plain: short words are words of the language, in order; rules and spans. -/
set_option linter.unusedVariables false
set_option linter.unusedSimpArgs false
set_option maxRecDepth 100000
namespace Go.Sh
open Go
theorem good_lefts {gm : Gram} (hg : goodG gm = true) : ∀ r ∈ gm.rules, 0 ≤ r.1 := fun r hr => by
  obtain ⟨i, hi, rfl⟩ := List.getElem_of_mem hr
  have := (good_left hg hi).1
  rwa [rul_eq hi] at this
theorem good_rights {gm : Gram} (hg : goodG gm = true) {q : Nat} (hq : q < gm.rules.length) : (rul gm.rules q).2.length ≤ 4 ∧ ∀ x ∈ (rul gm.rules q).2, -gm.toks ≤ x ∧ x ≤ gm.nons - 1 := by
  simp only [goodG, Bool.and_eq_true] at hg
  have h := List.all_eq_true.1 hg.2 q (List.mem_range.2 hq)
  simp only [goodR, Bool.and_eq_true, decide_eq_true_eq] at h
  refine ⟨by have := h.1.1.2; omega, fun x hx => ?_⟩
  have := List.all_eq_true.1 h.1.2 x hx
  simpa [symB, inB] using this
theorem shortV_mem4 {gm : Gram} {most : Int} {x : List Int} (h : x ∈ (shortV gm most).1) : goodG gm = true ∧ x.length ≤ 4 ∧ wordB gm.toks x = true ∧ inL gm.rules x = true := by
  unfold shortV at h
  split at h
  · rename_i hg
    simp only [Bool.and_eq_true, inB, decide_eq_true_eq] at hg
    have hm := shortW_mem h
    have ht := good_toks hg.1
    have h4 : x.length ≤ 4 := by have := hm.1; omega
    refine ⟨hg.1, h4, ?_, ?_⟩
    · simp only [wordB, allB, inB, Bool.and_eq_true, decide_eq_true_eq, List.all_eq_true]
      exact ⟨by omega, fun t htx => by have := hm.2 t htx; omega⟩
    · unfold shortW at h
      obtain ⟨m, _, hx⟩ := List.mem_flatMap.1 h
      exact (List.mem_filter.1 hx).2
  · simp at h
theorem short_in {gm : Gram} {most : Int} {x : List Int} (h : x ∈ (shortV gm most).1) : inLV gm x = (true, true) := by
  obtain ⟨h1, _, h3, h4⟩ := shortV_mem4 h
  unfold inLV wordG
  rw [h1, h3, if_pos (by rfl), h4]
theorem shortW_sorted (gm : Gram) (n : Nat) : (shortW gm n).Pairwise fun a b => a.length ≤ b.length := by
  induction n with
  | zero => simp [shortW]
  | succ n ih =>
    rw [shortW_succ, List.pairwise_append]
    refine ⟨ih, ?_, fun a ha b hb => ?_⟩
    · have : ∀ w ∈ (wordsN gm.toks.toNat n).filter (inL gm.rules), w.length = n := fun w hw => (wordsN_mem (List.mem_filter.1 hw).1).1
      rw [List.pairwise_iff_forall_sublist]
      intro a b hab
      have h1 := this a (hab.subset (by simp))
      have h2 := this b (hab.subset (by simp))
      omega
    · have h1 := (shortW_mem ha).1
      have h2 := (wordsN_mem (List.mem_filter.1 hb).1).1
      omega
theorem short_sorted {gm : Gram} {most : Int} {i : Nat} (h : i + 1 < (shortV gm most).1.length) : (rgt (shortV gm most).1 i).length ≤ (rgt (shortV gm most).1 (i + 1)).length := by
  have hp : (shortV gm most).1.Pairwise fun a b => a.length ≤ b.length := by
    unfold shortV
    split
    · exact shortW_sorted _ _
    · exact .nil
  rw [rgt_eq (by omega), rgt_eq h]
  exact List.pairwise_iff_getElem.1 hp i (i + 1) (by omega) h (by omega)
theorem der_rules {gm : Gram} {ws : List Int} {non : Int} (h : (derV gm non ws).2 = true) : (derV gm non ws).1 = gm.rules.any fun r => decide (r.1 = non) && (seqV gm r.2 ws).1 := by
  unfold derV at h ⊢
  split at h
  · rename_i hc
    rw [if_pos hc]
    simp only [Bool.and_eq_true, inB, decide_eq_true_eq] at hc
    have hg : goodG gm = true := by
      have := hc.1
      simp only [wordG, Bool.and_eq_true] at this
      exact this.1
    have hw : wordB gm.toks ws = true := by
      have := hc.1
      simp only [wordG, Bool.and_eq_true] at this
      exact this.2
    rw [span_rules (good_lefts hg) (good_left6 hg) (wordB_of hw).1 (Nat.le_refl _)]
    have e : ((non.toNat : Nat) : Int) = non := by omega
    rw [e]
    refine any_congr' fun r hr => ?_
    obtain ⟨q, hq, rfl⟩ := List.getElem_of_mem hr
    rw [← rul_eq hq]
    have hr2 := good_rights hg hq
    congr 1
    unfold seqV
    rw [if_pos]
    rw [hc.1, Bool.true_and]
    simp only [formB, allB, inB, Bool.and_eq_true, decide_eq_true_eq, List.all_eq_true]
    exact ⟨by omega, fun x hx => by have := hr2.2 x hx; omega⟩
  · simp at h
where
  any_congr' {l : List RuleL} {p q : RuleL → Bool} (h : ∀ r ∈ l, p r = q r) : l.any p = l.any q := by
    rw [Bool.eq_iff_iff, List.any_eq_true, List.any_eq_true]
    constructor
    · rintro ⟨r, hr, h1⟩
      exact ⟨r, hr, by rw [← h r hr]; exact h1⟩
    · rintro ⟨r, hr, h1⟩
      exact ⟨r, hr, by rw [h r hr]; exact h1⟩
theorem seq_rule {gm : Gram} {ws : List Int} (hw : wordG gm ws = true) {q : Nat} (hq : q < gm.rules.length) : (seqV gm (rul gm.rules q).2 ws).2 = true := by
  have hg : goodG gm = true := by
    simp only [wordG, Bool.and_eq_true] at hw
    exact hw.1
  have hr2 := good_rights hg hq
  unfold seqV
  rw [if_pos]
  rw [hw, Bool.true_and]
  simp only [formB, allB, inB, Bool.and_eq_true, decide_eq_true_eq, List.all_eq_true]
  exact ⟨by omega, fun x hx => by have := hr2.2 x hx; omega⟩
theorem der_word {gm : Gram} {ws : List Int} {non : Int} (h : (derV gm non ws).2 = true) : wordG gm ws = true ∧ 0 ≤ non ∧ non ≤ gm.nons - 1 := by
  unfold derV at h
  split at h
  · rename_i hc
    simp only [Bool.and_eq_true, inB, decide_eq_true_eq] at hc
    exact hc
  · simp at h
theorem der_spans {gm : Gram} {ws : List Int} {non : Int} (h : (derV gm non ws).2 = true) : (spansV gm ws).2 = true ∧ decide ([(0 : Int), (ws.length : Int), non] ∈ (spansV gm ws).1) = (derV gm non ws).1 := by
  obtain ⟨hw, h0, h1⟩ := der_word h
  have hg : goodG gm = true := by
    simp only [wordG, Bool.and_eq_true] at hw
    exact hw.1
  have hn := good_nons hg
  unfold spansV
  rw [if_pos hw]
  refine ⟨rfl, ?_⟩
  rw [Bool.eq_iff_iff, decide_eq_true_eq, spI_mem]
  unfold derV
  rw [if_pos (by simp [hw, inB]; omega)]
  constructor
  · rintro ⟨i, j, a, h2, h3, h4, h5, e⟩
    simp only [List.cons.injEq, and_true] at e
    obtain ⟨e1, e2, e3⟩ := e
    have : i = 0 := by omega
    have : j = ws.length := by omega
    have : a = non.toNat := by omega
    subst i j a
    exact h5
  · intro h2
    exact ⟨0, ws.length, non.toNat, by omega, by omega, by omega, h2, by simp; omega⟩
end Go.Sh
