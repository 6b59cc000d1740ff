/- Texts of this repository put together: ShN3, ShO4, ShO5, ShYC, ShYD, ShYL, ShR, ShRG, ShIO. -/
import Derived.Test.YtiohaeckagjebaaK22c
import Derived.Test.YtiohaeckagjebaaK22d
import Derived.Test.YtiohaeckagjebaaK22b
import Derived.Test.YtiohaeckagjebaaK22a
import Derived.WalkKit
import Derived.ProofKit
import Derived.OpenShut
import Derived.ShutString
import Derived.ChangeOld
import Derived.Below
import Derived.SizedLaws
import Derived.Deep.Slices
import Derived.Deep.SlicePairs
import Derived.Deep.Strs
import Derived.Test.YtiohaeckagjebaaRows
import Derived.JoinedOf
import Derived.KernelRfl

/- Contract: the program's table of least costs (costs). -/
set_option linter.unusedVariables false
set_option linter.unusedSimpArgs false
set_option maxRecDepth 100000
namespace Go.Sh
open Go
end Go.Sh
namespace Go.Proofs.Ytiohaeckagjebaa
open Go Go.Sh Go.RowKit
end Go.Proofs.Ytiohaeckagjebaa

/- Contracts: the least tree with the least cost, the least row of trees (the program's least, leastRest). -/
set_option linter.unusedVariables false
set_option linter.unusedSimpArgs false
set_option maxRecDepth 100000
namespace Go.Sh
open Go
end Go.Sh
namespace Go.Proofs.Ytiohaeckagjebaa
open Go Go.Sh Go.RowKit Go.WideMaps
section
variable {F : Nat → Prop} {w0 : World} {gm : Gram} {Y X Q : Option Addr} {cy cx cq bc bm nons : Nat} {ws cs : List Int} {T : CT} {M : List Ent → List Value → List Thing → List Thing}
end
end Go.Proofs.Ytiohaeckagjebaa

/- Contract: the least tree with the least cost (the program's least). -/
set_option linter.unusedVariables false
set_option linter.unusedSimpArgs false
set_option maxRecDepth 100000
namespace Go.Proofs.Ytiohaeckagjebaa
open Go Go.Sh Go.RowKit Go.WideMaps
theorem ld_aggS {t n : Nat} {S : WS} {k : Value → Prop} {b e : Nat} {cs : List Value} (ht : agg Try.prog t) (hs : szOf Try.prog t n) (hn : cs.length = n) (hb : ∀ w, S.S w → Box w b cs e) : Rd Try.prog S (sLoad t (.pointer (some ⟨b, 0, none⟩))) k = k (.agg cs.toArray) :=
  rd_loadAgg ht hs hn fun w' hw j hj => by
    rw [add_plain, Nat.zero_add, (hb w' hw).cell]
    exact List.getElem?_eq_getElem hj
section
variable {F : Nat → Prop} {w0 : World} {gm : Gram} {Y X Q : Option Addr} {cy cx cq bc bm nons : Nat} {ws cs : List Int} {T : CT} {M : List Ent → List Value → List Thing → List Thing}
end
end Go.Proofs.Ytiohaeckagjebaa

/- Contract: the first lists of trees of a rest (the program's told.rest). -/
set_option linter.unusedVariables false
set_option linter.unusedSimpArgs false
set_option maxRecDepth 100000
namespace Go.Proofs.Ytiohaeckagjebaa
open Go Go.Sh Go.RowKit Go.WideMaps
section
variable {F : Nat → Prop} {w0 : World} {gm : Gram} {X Y : Option Addr} {cx cy be bt bm M : Nat} {ws : List Int} {L : List Ent → List Value → List Thing → List Thing}
set_option maxHeartbeats 12800000 in
theorem rest_step (hM1 : 0 < M) (hM60 : M ≤ 60) (hg : goodG gm = true) (hy : RulesF F w0 Y gm.rules) (hX : Ints w0 X ws) (hl : ws.length ≤ 10) (hw : ∀ t ∈ ws, 0 ≤ t ∧ t ≤ 100)
    (hL : ∀ ents has E, L ents has E = bx be (cellsTold gm Y cy bt M bm) 143 :: bx bt (.slice X ws.length cx :: cellsT (spanT gm.rules ws)) 111 :: mpG bm ents has :: E) {N : Nat}
    (ihT : TreesC be gm ws M w0 L N) (ihR : RestC be gm ws M w0 L N) : RestC be gm ws M w0 L (N + 1) := by
  have hn6 := good_nons hg
  have hr16 := good_len hg
  have hleft6 := good_left6 hg
  have hB : ∀ {w : World} ents has (E : List Thing), Apt w0 w (bx be (cellsTold gm Y cy bt M bm) 143 :: bx bt (.slice X ws.length cx :: cellsT (spanT gm.rules ws)) 111 :: mpG bm ents has :: E) → Apt w0 w (L ents has E) := fun ents has E h => by rw [hL]; exact h
  intro q p i j s w ents has E k hN hq hp hij hj hs hG H hk
  obtain ⟨Z, cz, t1, t2, t3, t4⟩ := hy.row q hq
  have hright := good_right hg hq
  have hR4 := good_rule hg q hq
  refine enter169 ?_
  unfold S169
  rw [hL] at H
  simp only [bin_add, bin_sub, bin_mul, bin_eql, bin_neq, bin_lss, bin_leq, bin_gtr, bin_geq, un_not, un_neg, pick_true, pick_false, extract_two_0, extract_two_1, nilCheck_pointer, cond_true', cond_false', guard_tt, guard_ff, guard_tf, guard_ft, guard_undef, seqQ_normal, seqQ_ret, seqQ_exit, blockQ_ret, blockQ_normal, blockQ_exit, bodyQ_ret, bodyQ_normal, resK_nil, resK_tmp, ite_T, ite_F, upd_at, add_plain, add_zero', len22, len35, len48, fa37_0, fa37_1, fa37_2, fa77_0, fa77_1, fa103_0, fa103_1, fa111_0, fa111_1, fa143_0, fa143_1, fa143_2, fa143_3, fa175_0, fa175_1, fa175_2, fa125_0, fa125_1, fa125_2, fa125_3, fa125_4, Nat.reduceEqDiff]
  rw [ldB35 (H.box 0 rfl) rfl]
  refine rdi (ixn35 hy.ptr hq) ?_
  rw [fa77_1, add_add]
  refine rdi (ld22 (H.gr.cell t2)) ?_
  have hsub := t4.is.sub (l := p) (c := cz) hp t3 ((rul gm.rules q).2.length - p)
  rw [List.take_of_length_le (by rw [List.length_drop]; omega)] at hsub
  refine rdi (sll22 (by omega) (by omega)) ?_
  rw [Int.toNat_natCast]
  have hdl : ((rul gm.rules q).2.drop p).length = (rul gm.rules q).2.length - p := List.length_drop
  have hdr : ∀ x ∈ (rul gm.rules q).2.drop p, x < 6 ∧ -100 ≤ x := fun x hx => by
    have := hright x (List.mem_of_mem_drop hx)
    omega
  have hnext : (rul gm.rules q).2.drop (p + 1) = ((rul gm.rules q).2.drop p).drop 1 := by rw [List.drop_drop]
  rw [← hdl]
  have nothing : ∀ {w : World} {ents' : List Ent} {has' : List Value}, (∀ t, ¬ Der gm.rules ws (.inr ((rul gm.rules q).2.drop p)) i j s t) → GoodT M gm.rules ws ents' → (∀ t ∈ ents, t ∈ ents') → Apt w0 w (L ents' has' E) → k (.slice none 0 0) w := fun {w ents' has'} hno hG hs H =>
    hk w ents' has' none 0 [] hG hs H (.inl rfl) (Nat.le_refl _) (Firsts.nil _ hno)
  generalize hxs : (rul gm.rules q).2.drop p = xs at *
  simp only [bin_add, bin_sub, bin_mul, bin_eql, bin_neq, bin_lss, bin_leq, bin_gtr, bin_geq, un_not, un_neg, pick_true, pick_false, extract_two_0, extract_two_1, nilCheck_pointer, cond_true', cond_false', guard_tt, guard_ff, guard_tf, guard_ft, guard_undef, seqQ_normal, seqQ_ret, seqQ_exit, blockQ_ret, blockQ_normal, blockQ_exit, bodyQ_ret, bodyQ_normal, resK_nil, resK_tmp, ite_T, ite_F, upd_at, add_plain, add_zero', len22, len35, len48, fa37_0, fa37_1, fa37_2, fa77_0, fa77_1, fa103_0, fa103_1, fa111_0, fa111_1, fa143_0, fa143_1, fa143_2, fa143_3, fa175_0, fa175_1, fa175_2, fa125_0, fa125_1, fa125_2, fa125_3, fa125_4, Nat.reduceEqDiff]
  cases xs with
  | nil =>
    simp only [List.length_nil, show (((0 : Nat) : Int) = 0) from rfl, decide_true, bin_add, bin_sub, bin_mul, bin_eql, bin_neq, bin_lss, bin_leq, bin_gtr, bin_geq, un_not, un_neg, pick_true, pick_false, extract_two_0, extract_two_1, nilCheck_pointer, cond_true', cond_false', guard_tt, guard_ff, guard_tf, guard_ft, guard_undef, seqQ_normal, seqQ_ret, seqQ_exit, blockQ_ret, blockQ_normal, blockQ_exit, bodyQ_ret, bodyQ_normal, resK_nil, resK_tmp, ite_T, ite_F, upd_at, add_plain, add_zero', len22, len35, len48, fa37_0, fa37_1, fa37_2, fa77_0, fa77_1, fa103_0, fa103_1, fa111_0, fa111_1, fa143_0, fa143_1, fa143_2, fa143_3, fa175_0, fa175_1, fa175_2, fa125_0, fa125_1, fa125_2, fa125_3, fa125_4, Nat.reduceEqDiff]
    by_cases hij : i = j ∧ s = 0
    · obtain ⟨rfl, rfl⟩ := hij
      simp only [show (((0 : Nat) : Int) = 0) from rfl, decide_true, bin_add, bin_sub, bin_mul, bin_eql, bin_neq, bin_lss, bin_leq, bin_gtr, bin_geq, un_not, un_neg, pick_true, pick_false, extract_two_0, extract_two_1, nilCheck_pointer, cond_true', cond_false', guard_tt, guard_ff, guard_tf, guard_ft, guard_undef, seqQ_normal, seqQ_ret, seqQ_exit, blockQ_ret, blockQ_normal, blockQ_exit, bodyQ_ret, bodyQ_normal, resK_nil, resK_tmp, ite_T, ite_F, upd_at, add_plain, add_zero', len22, len35, len48, fa37_0, fa37_1, fa37_2, fa77_0, fa77_1, fa103_0, fa103_1, fa111_0, fa111_1, fa143_0, fa143_1, fa143_2, fa143_3, fa175_0, fa175_1, fa175_2, fa125_0, fa125_1, fa125_2, fa125_3, fa125_4, Nat.reduceEqDiff]
      refine do_build_of u22 inf3 (cells := []) (by decide) (by decide) (by simp [Instr.fill, madeCells]) rfl fun b1 w1 hb1 hb2 g1 hB1 hr1 => ?_
      have H := H.step g1
      refine do_build_of u48 inf22 (cells := [.slice (some ⟨b1, 0, none⟩) 0 0]) (by decide) (by decide) (by simp [Instr.fill, madeCells, Value.cells, rng1]) rfl fun b2 w2 hb3 hb4 g2 hB2 hr2 => ?_
      have hrow := hr2 _ (Nat.le_refl _)
      obtain ⟨ftn, ysn, H⟩ := H.addRdf (ls := [[]]) g2 (IssF.of hrow.src (Slots.single (x := []) (Nat.le_refl _) ⟨⟨by simp, fun h => by simp at h, fun j h => by simp at h⟩, fun h => by simp at h⟩) (by simp) fun _ => row_foot hrow (by omega))
      have H := H.insert 3
      simp only [List.take_succ_cons, List.take_zero, List.drop_succ_cons, List.drop_zero, List.nil_append, List.cons_append] at H
      have H := (H.absorb 2 3 (by decide) rfl rfl (keyV 1000 0 0 0) (.slice (some ⟨b2, 0, none⟩) 1 1)).erase 3
      simp only [List.set_cons_zero, List.set_cons_succ, List.eraseIdx_cons_zero, List.eraseIdx_cons_succ] at H
      exact hk w2 _ has (some ⟨b2, 0, none⟩) 1 [[]] (hG.dummy (l := [[]]) (Nat.le_refl _)) (fun t ht => List.mem_cons_of_mem _ ht) (hB _ _ _ H) (.inr ⟨_, List.mem_cons_self .., _, _, rfl⟩) (Nat.le_refl _) (der_row0 hM1 ⟨rfl, rfl⟩)
    · have hno : ∀ t, ¬ Der gm.rules ws (.inr []) i j s t := fun t ht => by
        have := der_nil.1 ht
        exact hij ⟨this.1, this.2.1⟩
      by_cases h1 : i = j
      · simp only [show ((i : Int) = j) from by omega, show ¬ ((s : Int) = 0) from by omega, decide_true, decide_false, bin_add, bin_sub, bin_mul, bin_eql, bin_neq, bin_lss, bin_leq, bin_gtr, bin_geq, un_not, un_neg, pick_true, pick_false, extract_two_0, extract_two_1, nilCheck_pointer, cond_true', cond_false', guard_tt, guard_ff, guard_tf, guard_ft, guard_undef, seqQ_normal, seqQ_ret, seqQ_exit, blockQ_ret, blockQ_normal, blockQ_exit, bodyQ_ret, bodyQ_normal, resK_nil, resK_tmp, ite_T, ite_F, upd_at, add_plain, add_zero', len22, len35, len48, fa37_0, fa37_1, fa37_2, fa77_0, fa77_1, fa103_0, fa103_1, fa111_0, fa111_1, fa143_0, fa143_1, fa143_2, fa143_3, fa175_0, fa175_1, fa175_2, fa125_0, fa125_1, fa125_2, fa125_3, fa125_4, Nat.reduceEqDiff]
        exact nothing hno hG (fun t ht => ht) (hB _ _ _ H)
      · simp only [show ¬ ((i : Int) = j) from by omega, decide_false, bin_add, bin_sub, bin_mul, bin_eql, bin_neq, bin_lss, bin_leq, bin_gtr, bin_geq, un_not, un_neg, pick_true, pick_false, extract_two_0, extract_two_1, nilCheck_pointer, cond_true', cond_false', guard_tt, guard_ff, guard_tf, guard_ft, guard_undef, seqQ_normal, seqQ_ret, seqQ_exit, blockQ_ret, blockQ_normal, blockQ_exit, bodyQ_ret, bodyQ_normal, resK_nil, resK_tmp, ite_T, ite_F, upd_at, add_plain, add_zero', len22, len35, len48, fa37_0, fa37_1, fa37_2, fa77_0, fa77_1, fa103_0, fa103_1, fa111_0, fa111_1, fa143_0, fa143_1, fa143_2, fa143_3, fa175_0, fa175_1, fa175_2, fa125_0, fa125_1, fa125_2, fa125_3, fa125_4, Nat.reduceEqDiff]
        exact nothing hno hG (fun t ht => ht) (hB _ _ _ H)
  | cons x xs =>
    have hpl : p < (rul gm.rules q).2.length := by rw [List.length_cons] at hdl; omega
    simp only [show ¬ (((x :: xs).length : Int) = 0) from by rw [List.length_cons]; omega, decide_false, bin_add, bin_sub, bin_mul, bin_eql, bin_neq, bin_lss, bin_leq, bin_gtr, bin_geq, un_not, un_neg, pick_true, pick_false, extract_two_0, extract_two_1, nilCheck_pointer, cond_true', cond_false', guard_tt, guard_ff, guard_tf, guard_ft, guard_undef, seqQ_normal, seqQ_ret, seqQ_exit, blockQ_ret, blockQ_normal, blockQ_exit, bodyQ_ret, bodyQ_normal, resK_nil, resK_tmp, ite_T, ite_F, upd_at, add_plain, add_zero', len22, len35, len48, fa37_0, fa37_1, fa37_2, fa77_0, fa77_1, fa103_0, fa103_1, fa111_0, fa111_1, fa143_0, fa143_1, fa143_2, fa143_3, fa175_0, fa175_1, fa175_2, fa125_0, fa125_1, fa125_2, fa125_3, fa125_4, Nat.reduceEqDiff]
    rw [ldB112 (H.box 0 rfl) rfl]
    refine sequence_c hl hw (x :: xs) (H.box 1 rfl) (hX.gr H.gr) (hsub.gr H.gr) (by omega) hdr hij hj ?_
    cases hft : fitsT (spanT gm.rules ws) ws (x :: xs) i j
    · simp only [Bool.not_false, bin_add, bin_sub, bin_mul, bin_eql, bin_neq, bin_lss, bin_leq, bin_gtr, bin_geq, un_not, un_neg, pick_true, pick_false, extract_two_0, extract_two_1, nilCheck_pointer, cond_true', cond_false', guard_tt, guard_ff, guard_tf, guard_ft, guard_undef, seqQ_normal, seqQ_ret, seqQ_exit, blockQ_ret, blockQ_normal, blockQ_exit, bodyQ_ret, bodyQ_normal, resK_nil, resK_tmp, ite_T, ite_F, upd_at, add_plain, add_zero', len22, len35, len48, fa37_0, fa37_1, fa37_2, fa77_0, fa77_1, fa103_0, fa103_1, fa111_0, fa111_1, fa143_0, fa143_1, fa143_2, fa143_3, fa175_0, fa175_1, fa175_2, fa125_0, fa125_1, fa125_2, fa125_3, fa125_4, Nat.reduceEqDiff]
      refine nothing (fun t ht => ?_) hG (fun t ht => ht) (hB _ _ _ H)
      rw [der_fits hleft6 hl hj ht] at hft
      cases hft
    simp only [Bool.not_true, bin_add, bin_sub, bin_mul, bin_eql, bin_neq, bin_lss, bin_leq, bin_gtr, bin_geq, un_not, un_neg, pick_true, pick_false, extract_two_0, extract_two_1, nilCheck_pointer, cond_true', cond_false', guard_tt, guard_ff, guard_tf, guard_ft, guard_undef, seqQ_normal, seqQ_ret, seqQ_exit, blockQ_ret, blockQ_normal, blockQ_exit, bodyQ_ret, bodyQ_normal, resK_nil, resK_tmp, ite_T, ite_F, upd_at, add_plain, add_zero', len22, len35, len48, fa37_0, fa37_1, fa37_2, fa77_0, fa77_1, fa103_0, fa103_1, fa111_0, fa111_1, fa143_0, fa143_1, fa143_2, fa143_3, fa175_0, fa175_1, fa175_2, fa125_0, fa125_1, fa125_2, fa125_3, fa125_4, Nat.reduceEqDiff]
    have hxx := hdr x (List.mem_cons_self ..)
    refine rdi (ix22_0 (fun _ => hsub.ptr (by simp)) (by simp)) (rdi (ld3 ((hsub.gr H.gr).cell 0 (by simp))) ?_)
    simp only [List.getD_cons_zero, bin_add, bin_sub, bin_mul, bin_eql, bin_neq, bin_lss, bin_leq, bin_gtr, bin_geq, un_not, un_neg, pick_true, pick_false, extract_two_0, extract_two_1, nilCheck_pointer, cond_true', cond_false', guard_tt, guard_ff, guard_tf, guard_ft, guard_undef, seqQ_normal, seqQ_ret, seqQ_exit, blockQ_ret, blockQ_normal, blockQ_exit, bodyQ_ret, bodyQ_normal, resK_nil, resK_tmp, ite_T, ite_F, upd_at, add_plain, add_zero', len22, len35, len48, fa37_0, fa37_1, fa37_2, fa77_0, fa77_1, fa103_0, fa103_1, fa111_0, fa111_1, fa143_0, fa143_1, fa143_2, fa143_3, fa175_0, fa175_1, fa175_2, fa125_0, fa125_1, fa125_2, fa125_3, fa125_4, Nat.reduceEqDiff]
    rw [List.drop_one, List.tail_cons] at hnext
    by_cases hx0 : x < 0
    · simp only [hx0, decide_true, bin_add, bin_sub, bin_mul, bin_eql, bin_neq, bin_lss, bin_leq, bin_gtr, bin_geq, un_not, un_neg, pick_true, pick_false, extract_two_0, extract_two_1, nilCheck_pointer, cond_true', cond_false', guard_tt, guard_ff, guard_tf, guard_ft, guard_undef, seqQ_normal, seqQ_ret, seqQ_exit, blockQ_ret, blockQ_normal, blockQ_exit, bodyQ_ret, bodyQ_normal, resK_nil, resK_tmp, ite_T, ite_F, upd_at, add_plain, add_zero', len22, len35, len48, fa37_0, fa37_1, fa37_2, fa77_0, fa77_1, fa103_0, fa103_1, fa111_0, fa111_1, fa143_0, fa143_1, fa143_2, fa143_3, fa175_0, fa175_1, fa175_2, fa125_0, fa125_1, fa125_2, fa125_3, fa125_4, Nat.reduceEqDiff]
      rw [i64_of (n := (p : Int) + 1) (by omega) (by omega), i64_of (n := (i : Int) + 1) (by omega) (by omega)]
      rw [fits_tok hx0] at hft
      simp only [Bool.and_eq_true, decide_eq_true_eq] at hft
      refine ihR (q := q) (p := p + 1) (i := i + 1) (j := j) (s := s) (by omega) hq hpl (by omega) hj hs hG (hB _ _ _ H) fun w2 ents2 has2 X2 c2 l2 hG2 hs2 H hheld hle hF2 => ?_
      rw [hnext] at hF2
      exact hk w2 ents2 has2 X2 c2 l2 hG2 hs2 H hheld hle (hF2.congr fun t => (der_tok hx0).trans ⟨fun h => h.2.2, fun h => ⟨hft.1, hft.2.1, h⟩⟩)
    simp only [hx0, decide_false, bin_add, bin_sub, bin_mul, bin_eql, bin_neq, bin_lss, bin_leq, bin_gtr, bin_geq, un_not, un_neg, pick_true, pick_false, extract_two_0, extract_two_1, nilCheck_pointer, cond_true', cond_false', guard_tt, guard_ff, guard_tf, guard_ft, guard_undef, seqQ_normal, seqQ_ret, seqQ_exit, blockQ_ret, blockQ_normal, blockQ_exit, bodyQ_ret, bodyQ_normal, resK_nil, resK_tmp, ite_T, ite_F, upd_at, add_plain, add_zero', len22, len35, len48, fa37_0, fa37_1, fa37_2, fa77_0, fa77_1, fa103_0, fa103_1, fa111_0, fa111_1, fa143_0, fa143_1, fa143_2, fa143_3, fa175_0, fa175_1, fa175_2, fa125_0, fa125_1, fa125_2, fa125_3, fa125_4, Nat.reduceEqDiff]
    obtain ⟨A, rfl⟩ : ∃ A : Nat, x = A := ⟨x.toNat, by omega⟩
    rw [i64_of (n := (q : Int) * 5) (by omega) (by omega), i64_of (n := (q : Int) * 5 + (p : Int)) (by omega) (by omega)]
    rw [bd186]
    have hkey : Value.agg #[.int .i64 ((q : Int) * 5 + (p : Int)), .int .i64 (i : Int), .int .i64 (j : Int), .int .i64 (s : Int), .int .i64 0] = keyV (q * 5 + p) i j s := by
      unfold keyV
      rw [show ((q * 5 + p : Nat) : Int) = (q : Int) * 5 + (p : Int) from by omega]
    refine allocH H inf186' fun b3 w2 H => ?_
    have H := H.insert 3
    simp only [List.take_succ_cons, List.take_zero, List.drop_succ_cons, List.drop_zero, List.nil_append, List.cons_append] at H
    refine storeH H 3 rfl sz186 rfl rfl rfl fun w3 H => ?_
    simp only [List.nil_append, List.cons_append, List.set_cons_zero, List.set_cons_succ] at H
    have H := H.drew
    rw [ldB141 (H.box 0 rfl) rfl, ldB_agg agg186 sz186 rfl (H.box 3 rfl)]
    obtain ⟨lx, hlx⟩ := keyV_key (a := q * 5 + p) (b := i) (c := j) (d := s) (by omega) (by omega) (by omega) (by omega)
    have found : ∀ {w : World} {ents' : List Ent} {has' : List Value}, GoodT M gm.rules ws ents' → (∀ t ∈ ents, t ∈ ents') → Apt w0 w (bx be (cellsTold gm Y cy bt M bm) 143 :: bx bt (.slice X ws.length cx :: cellsT (spanT gm.rules ws)) 111 :: mpG bm ents' has' :: E) → ∀ e ∈ ents', e.key = keyV (q * 5 + p) i j s → k e.val w := fun {w ents' has'} hG hs H e he hke => by
      obtain ⟨X2, c2, l2, ft, ys2, h1, h2, h3, h4⟩ := hG.get he hke (by omega) (by omega)
      rw [hxs] at h4
      rw [h1]
      exact hk w ents' has' X2 c2 l2 hG hs (hB _ _ _ H) (.inr ⟨e, he, ft, ys2, h2⟩) h3 h4
    refine lookupG H 2 rfl map141 arr186.law (x := keyV (q * 5 + p) i j s) hlx (goodT_key hG) zero48 true (fun hno => ?_) fun e he hke hP => ?_
    case refine_2 =>
      simp only [if_true, extract_two_0, extract_two_1, cond_true']
      have H := H.erase 3
      simp only [List.eraseIdx_cons_zero, List.eraseIdx_cons_succ] at H
      exact found hG (fun t ht => ht) H e he hke
    clear hno
    simp only [if_true, extract_two_0, extract_two_1, cond_false']
    refine newSSH H fun b5 w5 H => ?_
    have H := H.insert 3
    simp only [List.take_succ_cons, List.take_zero, List.drop_succ_cons, List.drop_zero, List.nil_append, List.cons_append] at H
    have hxl : xs.length + 1 = (rul gm.rules q).2.length - p := by rw [List.length_cons] at hdl; exact hdl
    have hlx4 : xs.length ≤ 4 := by rw [List.length_cons] at hdl; omega
    refine loop_to (j + 1 - i) 0 (fun m f w' => m ≤ j + 1 - i ∧ f 19 = .int .i64 ((i + m : Nat) : Int) ∧ ∃ ents' has' X1 c1 ps1, ∃ ls : List (List Int), f 18 = .slice X1 ls.length c1 ∧ X1 ≠ none ∧ GoodT M gm.rules ws ents' ∧ (∀ t ∈ ents, t ∈ ents') ∧ Apt w0 w' (L ents' has' (lss X1 c1 ls ps1 :: bx b3 [.int .i64 ((q : Int) * 5 + (p : Int)), .int .i64 i, .int .i64 j, .int .i64 s, .int .i64 0] 186 :: E)) ∧ Coll M (SeenD gm.rules ws (A : Int) xs i j s m 0) ls ∧ ls.length ≤ m * (s * M))
      ⟨Nat.zero_le _, rfl, ents, has, _, 0, _, [], rfl, by simp, hG, fun t ht => ht, hB _ _ _ H, Coll.nil (fun x hx => seen_none hx), by simp⟩ ?_
    clear H hG
    rintro m f w4 K hag ⟨hm, h19, ents1, has1, X1, c1, ps1, ls, h18, hX1, hG, hsub1, H, hcoll, hlen⟩ hK
    have hms : m * (s * M) ≤ 11 * (12 * 60) := Nat.mul_le_mul (by omega) (Nat.mul_le_mul hs hM60)
    rw [hL] at H
    have f0 : f 0 = ptrv be := hag 0 (by decide)
    have f1 : f 1 = .int .i64 q := hag 1 (by decide)
    have f2 : f 2 = .int .i64 p := hag 2 (by decide)
    have f3 : f 3 = .int .i64 i := hag 3 (by decide)
    have f4 : f 4 = .int .i64 j := hag 4 (by decide)
    have f5 : f 5 = .int .i64 s := hag 5 (by decide)
    have f13 : f 13 = .slice (sub Z p cz 1) (((A : Int) :: xs).length) (cz - p) := hag 13 (by decide)
    have f14 : f 14 = .int .i64 (A : Int) := hag 14 (by decide)
    have f15 : f 15 = ptrv b3 := hag 15 (by decide)
    simp only [f0, f4, f13, f15, h18, h19, bin_add, bin_sub, bin_mul, bin_eql, bin_neq, bin_lss, bin_leq, bin_gtr, bin_geq, un_not, un_neg, pick_true, pick_false, extract_two_0, extract_two_1, nilCheck_pointer, cond_true', cond_false', guard_tt, guard_ff, guard_tf, guard_ft, guard_undef, seqQ_normal, seqQ_ret, seqQ_exit, blockQ_ret, blockQ_normal, blockQ_exit, bodyQ_ret, bodyQ_normal, resK_nil, resK_tmp, ite_T, ite_F, upd_at, add_plain, add_zero', len22, len35, len48, fa37_0, fa37_1, fa37_2, fa77_0, fa77_1, fa103_0, fa103_1, fa111_0, fa111_1, fa143_0, fa143_1, fa143_2, fa143_3, fa175_0, fa175_1, fa175_2, fa125_0, fa125_1, fa125_2, fa125_3, fa125_4, Nat.reduceEqDiff]
    by_cases hle : i + m ≤ j
    case neg =>
      simp only [show ¬ (((i + m : Nat) : Int) ≤ j) from by omega, decide_false, bin_add, bin_sub, bin_mul, bin_eql, bin_neq, bin_lss, bin_leq, bin_gtr, bin_geq, un_not, un_neg, pick_true, pick_false, extract_two_0, extract_two_1, nilCheck_pointer, cond_true', cond_false', guard_tt, guard_ff, guard_tf, guard_ft, guard_undef, seqQ_normal, seqQ_ret, seqQ_exit, blockQ_ret, blockQ_normal, blockQ_exit, bodyQ_ret, bodyQ_normal, resK_nil, resK_tmp, ite_T, ite_F, upd_at, add_plain, add_zero', len22, len35, len48, fa37_0, fa37_1, fa37_2, fa77_0, fa77_1, fa103_0, fa103_1, fa111_0, fa111_1, fa143_0, fa143_1, fa143_2, fa143_3, fa175_0, fa175_1, fa175_2, fa125_0, fa125_1, fa125_2, fa125_3, fa125_4, Nat.reduceEqDiff]
      obtain rfl : m = j + 1 - i := by omega
      have H := H.drew
      refine ⟨fun w' => Box w' be (cellsTold gm Y cy bt M bm) 143 ∧ Box w' b3 [.int .i64 ((q : Int) * 5 + (p : Int)), .int .i64 i, .int .i64 j, .int .i64 s, .int .i64 0] 186, ⟨H.box 0 rfl, H.box 4 rfl⟩, ?_⟩
      refine rdi (ldS141 (a := ⟨be, 0 + 5, none⟩) fun w' hw' => (hw'.1.cell (0 + 5)).trans rfl) ?_
      refine rdi (ld_aggS agg186 sz186 rfl fun w' hw' => hw'.2) ?_
      refine firsts_c H 3 0 (by decide) (M := M) rfl rfl rfl hX1 rfl (by omega) fun w6 ls' ys' hp' hs' H hle' => ?_
      simp only [List.set_cons_zero, List.set_cons_succ] at H
      refine ⟨⟨H.box 0 rfl, H.box 4 rfl⟩, ?_⟩
      have hF := hcoll.done hp' hs'
      have hF2 : Firsts M (Der gm.rules ws (.inr ((rul gm.rules q).2.drop p)) i j s) (ls'.take M) := by
        rw [hxs]
        exact hF.congr fun t => seen_all hx0 (by omega)
      refine updateG H 2 3 (by decide) rfl rfl map141 arr186.law (x := keyV (q * 5 + p) i j s) hlx (goodT_key hG) fun w7 gx H => ?_
      have H := H.erase 3
      simp only [List.set_cons_zero, List.set_cons_succ, List.eraseIdx_cons_zero, List.eraseIdx_cons_succ] at H
      have H := H.drew
      rw [ldB141 (H.box 0 rfl) rfl, ldB_agg agg186 sz186 rfl (H.box 3 rfl)]
      have hG7 := hG.real (X := X1) (ft := Foot X1 ps1 ls.length) (ys := ys') hle' (q := q) (p := p) (i := i) (j := j) (s := s) (by omega) (by omega) (by omega) (by omega) (by omega) hF2
      refine lookupG H 2 rfl map141 arr186.law (x := keyV (q * 5 + p) i j s) hlx (goodT_key hG7) zero48 false (fun hno => absurd (List.mem_cons_self ..) hno) fun e he hke hP => ?_
      have H := H.erase 3
      simp only [List.eraseIdx_cons_zero, List.eraseIdx_cons_succ] at H
      exact found hG7 (fun t ht => List.mem_cons_of_mem _ (hsub1 t ht)) H e he hke
    simp only [show (((i + m : Nat) : Int) ≤ j) from by omega, decide_true, bin_add, bin_sub, bin_mul, bin_eql, bin_neq, bin_lss, bin_leq, bin_gtr, bin_geq, un_not, un_neg, pick_true, pick_false, extract_two_0, extract_two_1, nilCheck_pointer, cond_true', cond_false', guard_tt, guard_ff, guard_tf, guard_ft, guard_undef, seqQ_normal, seqQ_ret, seqQ_exit, blockQ_ret, blockQ_normal, blockQ_exit, bodyQ_ret, bodyQ_normal, resK_nil, resK_tmp, ite_T, ite_F, upd_at, add_plain, add_zero', len22, len35, len48, fa37_0, fa37_1, fa37_2, fa77_0, fa77_1, fa103_0, fa103_1, fa111_0, fa111_1, fa143_0, fa143_1, fa143_2, fa143_3, fa175_0, fa175_1, fa175_2, fa125_0, fa125_1, fa125_2, fa125_3, fa125_4, Nat.reduceEqDiff]
    have H := H.drew
    refine join_as (fun g w' => g 19 = .int .i64 ((i + m : Nat) : Int) ∧ ∃ ents' has' X1 c1 ps1, ∃ ls : List (List Int), g 18 = .slice X1 ls.length c1 ∧ X1 ≠ none ∧ GoodT M gm.rules ws ents' ∧ (∀ t ∈ ents, t ∈ ents') ∧ Apt w0 w' (L ents' has' (lss X1 c1 ls ps1 :: bx b3 [.int .i64 ((q : Int) * 5 + (p : Int)), .int .i64 i, .int .i64 j, .int .i64 s, .int .i64 0] 186 :: E)) ∧ Coll M (SeenD gm.rules ws (A : Int) xs i j s (m + 1) 0) ls ∧ ls.length ≤ (m + 1) * (s * M)) (fun K1 hK1 => ?_) ?_
    case refine_2 =>
      rintro g w' ⟨g19, hrest⟩
      simp only [g19, bin_add, bin_sub, bin_mul, bin_eql, bin_neq, bin_lss, bin_leq, bin_gtr, bin_geq, un_not, un_neg, pick_true, pick_false, extract_two_0, extract_two_1, nilCheck_pointer, cond_true', cond_false', guard_tt, guard_ff, guard_tf, guard_ft, guard_undef, seqQ_normal, seqQ_ret, seqQ_exit, blockQ_ret, blockQ_normal, blockQ_exit, bodyQ_ret, bodyQ_normal, resK_nil, resK_tmp, ite_T, ite_F, upd_at, add_plain, add_zero', len22, len35, len48, fa37_0, fa37_1, fa37_2, fa77_0, fa77_1, fa103_0, fa103_1, fa111_0, fa111_1, fa143_0, fa143_1, fa143_2, fa143_3, fa175_0, fa175_1, fa175_2, fa125_0, fa125_1, fa125_2, fa125_3, fa125_4, Nat.reduceEqDiff]
      rw [i64_of (by omega) (by omega)]
      exact hK _ _ (by omega) ⟨by omega, by show Value.int .i64 (((i + m : Nat) : Int) + 1) = _; congr 1, hrest⟩
    rw [ldB112 (H.box 0 rfl) rfl]
    refine rdi (sll22 (by omega) (by rw [List.length_cons]; omega)) ?_
    rw [show (1 : Int).toNat = 1 from rfl, List.length_cons, Nat.add_sub_cancel]
    have hsubx := hsub.sub (l := 1) (c := cz - p) (by simp) (by omega) xs.length
    rw [List.drop_one, List.tail_cons, List.take_length] at hsubx
    refine sequence_c hl hw xs (H.box 1 rfl) (hX.gr H.gr) (hsubx.gr H.gr) (by omega) (fun x hx => hdr x (List.mem_cons_of_mem _ hx)) (by omega) hj ?_
    have hmul : (m + 1) * (s * M) = m * (s * M) + s * M := by rw [Nat.add_mul, Nat.one_mul]
    cases hft1 : fitsT (spanT gm.rules ws) ws xs (i + m) j
    · simp only [Bool.not_false, bin_add, bin_sub, bin_mul, bin_eql, bin_neq, bin_lss, bin_leq, bin_gtr, bin_geq, un_not, un_neg, pick_true, pick_false, extract_two_0, extract_two_1, nilCheck_pointer, cond_true', cond_false', guard_tt, guard_ff, guard_tf, guard_ft, guard_undef, seqQ_normal, seqQ_ret, seqQ_exit, blockQ_ret, blockQ_normal, blockQ_exit, bodyQ_ret, bodyQ_normal, resK_nil, resK_tmp, ite_T, ite_F, upd_at, add_plain, add_zero', len22, len35, len48, fa37_0, fa37_1, fa37_2, fa77_0, fa77_1, fa103_0, fa103_1, fa111_0, fa111_1, fa143_0, fa143_1, fa143_2, fa143_3, fa175_0, fa175_1, fa175_2, fa125_0, fa125_1, fa125_2, fa125_3, fa125_4, Nat.reduceEqDiff]
      have hnoR : ∀ s' t, ¬ Der gm.rules ws (.inr xs) (i + m) j s' t := fun s' t ht => by
        rw [der_fits hleft6 hl hj ht] at hft1
        cases hft1
      refine hK1 _ _ ⟨h19, ents1, has1, X1, c1, ps1, ls, h18, hX1, hG, hsub1, hB _ _ _ H, hcoll.congr fun t => ?_, by omega⟩
      rw [seen_row]
      constructor
      · rintro ⟨m', k', h1, h2, h3, h4, h5, h6⟩
        rcases h5 with h5 | ⟨h5, h7⟩
        · exact ⟨m', k', h1, h2, h3, h4, .inl h5, h6⟩
        · subst h5
          obtain ⟨a, b, _, hb, _⟩ := h6
          exact absurd hb (hnoR _ _)
      · rintro ⟨m', k', h1, h2, h3, h4, h5, h6⟩
        exact ⟨m', k', h1, h2, h3, h4, by omega, h6⟩
    simp only [Bool.not_true, bin_add, bin_sub, bin_mul, bin_eql, bin_neq, bin_lss, bin_leq, bin_gtr, bin_geq, un_not, un_neg, pick_true, pick_false, extract_two_0, extract_two_1, nilCheck_pointer, cond_true', cond_false', guard_tt, guard_ff, guard_tf, guard_ft, guard_undef, seqQ_normal, seqQ_ret, seqQ_exit, blockQ_ret, blockQ_normal, blockQ_exit, bodyQ_ret, bodyQ_normal, resK_nil, resK_tmp, ite_T, ite_F, upd_at, add_plain, add_zero', len22, len35, len48, fa37_0, fa37_1, fa37_2, fa77_0, fa77_1, fa103_0, fa103_1, fa111_0, fa111_1, fa143_0, fa143_1, fa143_2, fa143_3, fa175_0, fa175_1, fa175_2, fa125_0, fa125_1, fa125_2, fa125_3, fa125_4, Nat.reduceEqDiff]
    refine loop_to s 0 (fun o g w' => o ≤ s ∧ g 20 = .int .i64 ((o + 1 : Nat) : Int) ∧ g 19 = .int .i64 ((i + m : Nat) : Int) ∧ ∃ ents' has' X1 c1 ps1, ∃ ls : List (List Int), g 18 = .slice X1 ls.length c1 ∧ X1 ≠ none ∧ GoodT M gm.rules ws ents' ∧ (∀ t ∈ ents, t ∈ ents') ∧ Apt w0 w' (L ents' has' (lss X1 c1 ls ps1 :: bx b3 [.int .i64 ((q : Int) * 5 + (p : Int)), .int .i64 i, .int .i64 j, .int .i64 s, .int .i64 0] 186 :: E)) ∧ Coll M (SeenD gm.rules ws (A : Int) xs i j s m o) ls ∧ ls.length ≤ m * (s * M) + o * M)
      ⟨Nat.zero_le _, rfl, h19, ents1, has1, X1, c1, ps1, ls, h18, hX1, hG, hsub1, hB _ _ _ H, hcoll, by omega⟩ ?_
    clear H hG hcoll hlen h18 hX1 hsub1
    rintro o g w5 K2 hag2 ⟨ho, h20, h19, ents1, has1, X1, c1, ps1, ls, h18, hX1, hG, hsub1, H, hcoll, hlen⟩ hK2
    have hoM : o * M ≤ s * M := Nat.mul_le_mul_right _ ho
    have hsM : s * M ≤ 12 * 60 := Nat.mul_le_mul hs hM60
    have g0 : g 0 = ptrv be := (hag2 0 (by decide)).trans f0
    have g1 : g 1 = .int .i64 q := (hag2 1 (by decide)).trans f1
    have g2 : g 2 = .int .i64 p := (hag2 2 (by decide)).trans f2
    have g3 : g 3 = .int .i64 i := (hag2 3 (by decide)).trans f3
    have g4 : g 4 = .int .i64 j := (hag2 4 (by decide)).trans f4
    have g5 : g 5 = .int .i64 s := (hag2 5 (by decide)).trans f5
    have g14 : g 14 = .int .i64 (A : Int) := (hag2 14 (by decide)).trans f14
    simp only [g0, g1, g2, g3, g4, g5, g14, h19, h20, h18, bin_add, bin_sub, bin_mul, bin_eql, bin_neq, bin_lss, bin_leq, bin_gtr, bin_geq, un_not, un_neg, pick_true, pick_false, extract_two_0, extract_two_1, nilCheck_pointer, cond_true', cond_false', guard_tt, guard_ff, guard_tf, guard_ft, guard_undef, seqQ_normal, seqQ_ret, seqQ_exit, blockQ_ret, blockQ_normal, blockQ_exit, bodyQ_ret, bodyQ_normal, resK_nil, resK_tmp, ite_T, ite_F, upd_at, add_plain, add_zero', len22, len35, len48, fa37_0, fa37_1, fa37_2, fa77_0, fa77_1, fa103_0, fa103_1, fa111_0, fa111_1, fa143_0, fa143_1, fa143_2, fa143_3, fa175_0, fa175_1, fa175_2, fa125_0, fa125_1, fa125_2, fa125_3, fa125_4, Nat.reduceEqDiff]
    by_cases hlo : o < s
    case neg =>
      simp only [show ¬ (((o + 1 : Nat) : Int) ≤ s) from by omega, decide_false, bin_add, bin_sub, bin_mul, bin_eql, bin_neq, bin_lss, bin_leq, bin_gtr, bin_geq, un_not, un_neg, pick_true, pick_false, extract_two_0, extract_two_1, nilCheck_pointer, cond_true', cond_false', guard_tt, guard_ff, guard_tf, guard_ft, guard_undef, seqQ_normal, seqQ_ret, seqQ_exit, blockQ_ret, blockQ_normal, blockQ_exit, bodyQ_ret, bodyQ_normal, resK_nil, resK_tmp, ite_T, ite_F, upd_at, add_plain, add_zero', len22, len35, len48, fa37_0, fa37_1, fa37_2, fa77_0, fa77_1, fa103_0, fa103_1, fa111_0, fa111_1, fa143_0, fa143_1, fa143_2, fa143_3, fa175_0, fa175_1, fa175_2, fa125_0, fa125_1, fa125_2, fa125_3, fa125_4, Nat.reduceEqDiff]
      obtain rfl : o = s := by omega
      exact hK1 _ _ ⟨h19, ents1, has1, X1, c1, ps1, ls, h18, hX1, hG, hsub1, H, hcoll.congr fun t => seen_row, by omega⟩
    simp only [show (((o + 1 : Nat) : Int) ≤ s) from by omega, decide_true, bin_add, bin_sub, bin_mul, bin_eql, bin_neq, bin_lss, bin_leq, bin_gtr, bin_geq, un_not, un_neg, pick_true, pick_false, extract_two_0, extract_two_1, nilCheck_pointer, cond_true', cond_false', guard_tt, guard_ff, guard_tf, guard_ft, guard_undef, seqQ_normal, seqQ_ret, seqQ_exit, blockQ_ret, blockQ_normal, blockQ_exit, bodyQ_ret, bodyQ_normal, resK_nil, resK_tmp, ite_T, ite_F, upd_at, add_plain, add_zero', len22, len35, len48, fa37_0, fa37_1, fa37_2, fa77_0, fa77_1, fa103_0, fa103_1, fa111_0, fa111_1, fa143_0, fa143_1, fa143_2, fa143_3, fa175_0, fa175_1, fa175_2, fa125_0, fa125_1, fa125_2, fa125_3, fa125_4, Nat.reduceEqDiff]
    have hoM1 : (o + 1) * M = o * M + M := by rw [Nat.add_mul, Nat.one_mul]
    refine join_as (fun g w' => g 20 = .int .i64 ((o + 1 : Nat) : Int) ∧ g 19 = .int .i64 ((i + m : Nat) : Int) ∧ ∃ ents' has' X1 c1 ps1, ∃ ls : List (List Int), g 18 = .slice X1 ls.length c1 ∧ X1 ≠ none ∧ GoodT M gm.rules ws ents' ∧ (∀ t ∈ ents, t ∈ ents') ∧ Apt w0 w' (L ents' has' (lss X1 c1 ls ps1 :: bx b3 [.int .i64 ((q : Int) * 5 + (p : Int)), .int .i64 i, .int .i64 j, .int .i64 s, .int .i64 0] 186 :: E)) ∧ Coll M (SeenD gm.rules ws (A : Int) xs i j s m (o + 1)) ls ∧ ls.length ≤ m * (s * M) + (o + 1) * M) (fun K3 hK3 => ?_) ?_
    case refine_2 =>
      rintro g w' ⟨g20, g19, hrest⟩
      simp only [g20, bin_add, bin_sub, bin_mul, bin_eql, bin_neq, bin_lss, bin_leq, bin_gtr, bin_geq, un_not, un_neg, pick_true, pick_false, extract_two_0, extract_two_1, nilCheck_pointer, cond_true', cond_false', guard_tt, guard_ff, guard_tf, guard_ft, guard_undef, seqQ_normal, seqQ_ret, seqQ_exit, blockQ_ret, blockQ_normal, blockQ_exit, bodyQ_ret, bodyQ_normal, resK_nil, resK_tmp, ite_T, ite_F, upd_at, add_plain, add_zero', len22, len35, len48, fa37_0, fa37_1, fa37_2, fa77_0, fa77_1, fa103_0, fa103_1, fa111_0, fa111_1, fa143_0, fa143_1, fa143_2, fa143_3, fa175_0, fa175_1, fa175_2, fa125_0, fa125_1, fa125_2, fa125_3, fa125_4, Nat.reduceEqDiff]
      rw [i64_of (by omega) (by omega)]
      exact hK2 _ _ hlo ⟨hlo, by show Value.int .i64 (((o + 1 : Nat) : Int) + 1) = _; congr 1, g19, hrest⟩
    rw [i64_of (n := (p : Int) + 1) (by omega) (by omega), i64_of (n := (s : Int) - ((o + 1 : Nat) : Int)) (by omega) (by omega), show (s : Int) - ((o + 1 : Nat) : Int) = ((s - (o + 1) : Nat) : Int) from by omega]
    refine ihR (q := q) (p := p + 1) (i := i + m) (j := j) (s := s - (o + 1)) (by omega) hq hpl (by omega) hj (by omega) hG H fun w6 ents2 has2 Xr cr rl hG2 hs2 H hheldR hrc hrF => ?_
    rw [hnext] at hrF
    have hrl := hrF.len
    have hsub2 : ∀ t ∈ ents, t ∈ ents2 := fun t ht => hs2 t (hsub1 t ht)
    simp only [bin_add, bin_sub, bin_mul, bin_eql, bin_neq, bin_lss, bin_leq, bin_gtr, bin_geq, un_not, un_neg, pick_true, pick_false, extract_two_0, extract_two_1, nilCheck_pointer, cond_true', cond_false', guard_tt, guard_ff, guard_tf, guard_ft, guard_undef, seqQ_normal, seqQ_ret, seqQ_exit, blockQ_ret, blockQ_normal, blockQ_exit, bodyQ_ret, bodyQ_normal, resK_nil, resK_tmp, ite_T, ite_F, upd_at, add_plain, add_zero', len22, len35, len48, fa37_0, fa37_1, fa37_2, fa77_0, fa77_1, fa103_0, fa103_1, fa111_0, fa111_1, fa143_0, fa143_1, fa143_2, fa143_3, fa175_0, fa175_1, fa175_2, fa125_0, fa125_1, fa125_2, fa125_3, fa125_4, Nat.reduceEqDiff]
    by_cases hr0 : rl.length = 0
    · simp only [show ((rl.length : Int) = 0) from by omega, decide_true, bin_add, bin_sub, bin_mul, bin_eql, bin_neq, bin_lss, bin_leq, bin_gtr, bin_geq, un_not, un_neg, pick_true, pick_false, extract_two_0, extract_two_1, nilCheck_pointer, cond_true', cond_false', guard_tt, guard_ff, guard_tf, guard_ft, guard_undef, seqQ_normal, seqQ_ret, seqQ_exit, blockQ_ret, blockQ_normal, blockQ_exit, bodyQ_ret, bodyQ_normal, resK_nil, resK_tmp, ite_T, ite_F, upd_at, add_plain, add_zero', len22, len35, len48, fa37_0, fa37_1, fa37_2, fa77_0, fa77_1, fa103_0, fa103_1, fa111_0, fa111_1, fa143_0, fa143_1, fa143_2, fa143_3, fa175_0, fa175_1, fa175_2, fa125_0, fa125_1, fa125_2, fa125_3, fa125_4, Nat.reduceEqDiff]
      obtain rfl := List.eq_nil_of_length_eq_zero hr0
      refine hK3 _ _ ⟨h20, h19, ents2, has2, X1, c1, ps1, ls, h18, hX1, hG2, hsub2, H, hcoll.congr fun t => ?_, by omega⟩
      rw [seen_step hle hlo]
      exact ⟨fun h => h.resolve_right (partD_none (fun t => hrF.none hM1 t) t), .inl⟩
    simp only [show ¬ ((rl.length : Int) = 0) from by omega, decide_false, bin_add, bin_sub, bin_mul, bin_eql, bin_neq, bin_lss, bin_leq, bin_gtr, bin_geq, un_not, un_neg, pick_true, pick_false, extract_two_0, extract_two_1, nilCheck_pointer, cond_true', cond_false', guard_tt, guard_ff, guard_tf, guard_ft, guard_undef, seqQ_normal, seqQ_ret, seqQ_exit, blockQ_ret, blockQ_normal, blockQ_exit, bodyQ_ret, bodyQ_normal, resK_nil, resK_tmp, ite_T, ite_F, upd_at, add_plain, add_zero', len22, len35, len48, fa37_0, fa37_1, fa37_2, fa77_0, fa77_1, fa103_0, fa103_1, fa111_0, fa111_1, fa143_0, fa143_1, fa143_2, fa143_3, fa175_0, fa175_1, fa175_2, fa125_0, fa125_1, fa125_2, fa125_3, fa125_4, Nat.reduceEqDiff]
    refine ihT (A := A) (i := i) (j := i + m) (s := o + 1) (by omega) (by omega) (by omega) (by omega) (by omega) hG2 H fun w7 ents3 has3 Xf cf fl hG3 hs3 H hheldF hfc hfF => ?_
    have hfl := hfF.len
    obtain ⟨ysR, readR⟩ := (hheldR.mono hs3).read
    obtain ⟨ysF, readF⟩ := hheldF.read
    have hsub3 : ∀ t ∈ ents, t ∈ ents3 := fun t ht => hs3 t (hsub2 t ht)
    simp only [bin_add, bin_sub, bin_mul, bin_eql, bin_neq, bin_lss, bin_leq, bin_gtr, bin_geq, un_not, un_neg, pick_true, pick_false, extract_two_0, extract_two_1, nilCheck_pointer, cond_true', cond_false', guard_tt, guard_ff, guard_tf, guard_ft, guard_undef, seqQ_normal, seqQ_ret, seqQ_exit, blockQ_ret, blockQ_normal, blockQ_exit, bodyQ_ret, bodyQ_normal, resK_nil, resK_tmp, ite_T, ite_F, upd_at, add_plain, add_zero', len22, len35, len48, fa37_0, fa37_1, fa37_2, fa77_0, fa77_1, fa103_0, fa103_1, fa111_0, fa111_1, fa143_0, fa143_1, fa143_2, fa143_3, fa175_0, fa175_1, fa175_2, fa125_0, fa125_1, fa125_2, fa125_3, fa125_4, Nat.reduceEqDiff]
    refine loop_to fl.length 0 (fun a g w' => a ≤ fl.length ∧ g 134 = .int .i64 a ∧ g 22 = .int .i64 ((partL fl rl a 0).length : Nat) ∧ g 20 = .int .i64 ((o + 1 : Nat) : Int) ∧ g 19 = .int .i64 ((i + m : Nat) : Int) ∧ ∃ X1 c1 ps1, g 18 = .slice X1 (ls ++ (partL fl rl a 0).take M).length c1 ∧ X1 ≠ none ∧ Apt w0 w' (L ents3 has3 (lss X1 c1 (ls ++ (partL fl rl a 0).take M) ps1 :: bx b3 [.int .i64 ((q : Int) * 5 + (p : Int)), .int .i64 i, .int .i64 j, .int .i64 s, .int .i64 0] 186 :: E)))
      ⟨Nat.zero_le _, rfl, by rw [partL_zero]; rfl, h20, h19, X1, c1, ps1, by rw [partL_zero, List.take_nil, List.append_nil]; exact h18, hX1, by rw [partL_zero, List.take_nil, List.append_nil]; exact H⟩ ?_
    clear H h18 hX1
    rintro a pf w8 K4 hag4 ⟨ha, p134, p22, p20, p19, X1, c1, ps1, p18, hX1, H⟩ hK4
    have p133 : pf 133 = .int .i64 fl.length := hag4 133 (by decide)
    have p132 : pf 132 = .slice Xf fl.length cf := hag4 132 (by decide)
    have p21 : pf 21 = .slice Xr rl.length cr := hag4 21 (by decide)
    have p0 : pf 0 = ptrv be := (hag4 0 (by decide)).trans g0
    simp only [p133, p134, bin_add, bin_sub, bin_mul, bin_eql, bin_neq, bin_lss, bin_leq, bin_gtr, bin_geq, un_not, un_neg, pick_true, pick_false, extract_two_0, extract_two_1, nilCheck_pointer, cond_true', cond_false', guard_tt, guard_ff, guard_tf, guard_ft, guard_undef, seqQ_normal, seqQ_ret, seqQ_exit, blockQ_ret, blockQ_normal, blockQ_exit, bodyQ_ret, bodyQ_normal, resK_nil, resK_tmp, ite_T, ite_F, upd_at, add_plain, add_zero', len22, len35, len48, fa37_0, fa37_1, fa37_2, fa77_0, fa77_1, fa103_0, fa103_1, fa111_0, fa111_1, fa143_0, fa143_1, fa143_2, fa143_3, fa175_0, fa175_1, fa175_2, fa125_0, fa125_1, fa125_2, fa125_3, fa125_4, Nat.reduceEqDiff]
    by_cases hla : a < fl.length
    case neg =>
      simp only [show ¬ ((a : Int) < fl.length) from by omega, decide_false, bin_add, bin_sub, bin_mul, bin_eql, bin_neq, bin_lss, bin_leq, bin_gtr, bin_geq, un_not, un_neg, pick_true, pick_false, extract_two_0, extract_two_1, nilCheck_pointer, cond_true', cond_false', guard_tt, guard_ff, guard_tf, guard_ft, guard_undef, seqQ_normal, seqQ_ret, seqQ_exit, blockQ_ret, blockQ_normal, blockQ_exit, bodyQ_ret, bodyQ_normal, resK_nil, resK_tmp, ite_T, ite_F, upd_at, add_plain, add_zero', len22, len35, len48, fa37_0, fa37_1, fa37_2, fa77_0, fa77_1, fa103_0, fa103_1, fa111_0, fa111_1, fa143_0, fa143_1, fa143_2, fa143_3, fa175_0, fa175_1, fa175_2, fa125_0, fa125_1, fa125_2, fa125_3, fa125_4, Nat.reduceEqDiff]
      obtain rfl : a = fl.length := by omega
      rw [partL_done (Nat.le_refl _)] at p18 H
      refine hK3 _ _ ⟨p20, p19, ents3, has3, X1, c1, ps1, _, p18, hX1, hG3, hsub3, H, (hcoll.append (prod_firsts der_free hfF hrF) fun x hx hx' => seen_apart hx hx').congr fun t => seen_step hle hlo, ?_⟩
      rw [List.length_append, List.length_take]
      omega
    simp only [show ((a : Int) < fl.length) from by omega, decide_true, bin_add, bin_sub, bin_mul, bin_eql, bin_neq, bin_lss, bin_leq, bin_gtr, bin_geq, un_not, un_neg, pick_true, pick_false, extract_two_0, extract_two_1, nilCheck_pointer, cond_true', cond_false', guard_tt, guard_ff, guard_tf, guard_ft, guard_undef, seqQ_normal, seqQ_ret, seqQ_exit, blockQ_ret, blockQ_normal, blockQ_exit, bodyQ_ret, bodyQ_normal, resK_nil, resK_tmp, ite_T, ite_F, upd_at, add_plain, add_zero', len22, len35, len48, fa37_0, fa37_1, fa37_2, fa77_0, fa77_1, fa103_0, fa103_1, fa111_0, fa111_1, fa143_0, fa143_1, fa143_2, fa143_3, fa175_0, fa175_1, fa175_2, fa125_0, fa125_1, fa125_2, fa125_3, fa125_4, Nat.reduceEqDiff]
    simp only [p132, p21, bin_add, bin_sub, bin_mul, bin_eql, bin_neq, bin_lss, bin_leq, bin_gtr, bin_geq, un_not, un_neg, pick_true, pick_false, extract_two_0, extract_two_1, nilCheck_pointer, cond_true', cond_false', guard_tt, guard_ff, guard_tf, guard_ft, guard_undef, seqQ_normal, seqQ_ret, seqQ_exit, blockQ_ret, blockQ_normal, blockQ_exit, bodyQ_ret, bodyQ_normal, resK_nil, resK_tmp, ite_T, ite_F, upd_at, add_plain, add_zero', len22, len35, len48, fa37_0, fa37_1, fa37_2, fa77_0, fa77_1, fa103_0, fa103_1, fa111_0, fa111_1, fa143_0, fa143_1, fa143_2, fa143_3, fa175_0, fa175_1, fa175_2, fa125_0, fa125_1, fa125_2, fa125_3, fa125_4, Nat.reduceEqDiff]
    rw [hL] at H
    have hreadF := readF H 2 rfl
    obtain ⟨ta1, ta2, ta3⟩ := hreadF.row a hla
    have hal : (rgt fl a).length = o + 1 := der_len (hfF.mem _ (rgt_mem hla))
    refine rdi (ixn48 hreadF.ptr hla) (rdi (ld22 ta1) ?_)
    refine loop_to rl.length 0 (fun b g w' => b ≤ rl.length ∧ g 140 = .int .i64 b ∧ g 134 = .int .i64 a ∧ g 22 = .int .i64 ((partL fl rl a b).length : Nat) ∧ g 20 = .int .i64 ((o + 1 : Nat) : Int) ∧ g 19 = .int .i64 ((i + m : Nat) : Int) ∧ ∃ X1 c1 ps1, g 18 = .slice X1 (ls ++ (partL fl rl a b).take M).length c1 ∧ X1 ≠ none ∧ Apt w0 w' (L ents3 has3 (lss X1 c1 (ls ++ (partL fl rl a b).take M) ps1 :: bx b3 [.int .i64 ((q : Int) * 5 + (p : Int)), .int .i64 i, .int .i64 j, .int .i64 s, .int .i64 0] 186 :: E)))
      ⟨Nat.zero_le _, rfl, p134, p22, p20, p19, X1, c1, ps1, p18, hX1, hB _ _ _ H⟩ ?_
    clear H p18 hX1 ta1 ta3
    rintro b pg w9 K5 hag5 ⟨hb, r140, r134, r22, r20, r19, X1, c1, ps1, r18, hX1, H⟩ hK5
    have r139 : pg 139 = .int .i64 rl.length := hag5 139 (by decide)
    have r138 : pg 138 = .slice Xr rl.length cr := hag5 138 (by decide)
    have r24 : pg 24 = .slice (ysF a).1 (rgt fl a).length (ysF a).2 := hag5 24 (by decide)
    have r0 : pg 0 = ptrv be := (hag5 0 (by decide)).trans p0
    simp only [r139, r140, bin_add, bin_sub, bin_mul, bin_eql, bin_neq, bin_lss, bin_leq, bin_gtr, bin_geq, un_not, un_neg, pick_true, pick_false, extract_two_0, extract_two_1, nilCheck_pointer, cond_true', cond_false', guard_tt, guard_ff, guard_tf, guard_ft, guard_undef, seqQ_normal, seqQ_ret, seqQ_exit, blockQ_ret, blockQ_normal, blockQ_exit, bodyQ_ret, bodyQ_normal, resK_nil, resK_tmp, ite_T, ite_F, upd_at, add_plain, add_zero', len22, len35, len48, fa37_0, fa37_1, fa37_2, fa77_0, fa77_1, fa103_0, fa103_1, fa111_0, fa111_1, fa143_0, fa143_1, fa143_2, fa143_3, fa175_0, fa175_1, fa175_2, fa125_0, fa125_1, fa125_2, fa125_3, fa125_4, Nat.reduceEqDiff]
    by_cases hlb : b < rl.length
    case neg =>
      simp only [show ¬ ((b : Int) < rl.length) from by omega, decide_false, bin_add, bin_sub, bin_mul, bin_eql, bin_neq, bin_lss, bin_leq, bin_gtr, bin_geq, un_not, un_neg, pick_true, pick_false, extract_two_0, extract_two_1, nilCheck_pointer, cond_true', cond_false', guard_tt, guard_ff, guard_tf, guard_ft, guard_undef, seqQ_normal, seqQ_ret, seqQ_exit, blockQ_ret, blockQ_normal, blockQ_exit, bodyQ_ret, bodyQ_normal, resK_nil, resK_tmp, ite_T, ite_F, upd_at, add_plain, add_zero', len22, len35, len48, fa37_0, fa37_1, fa37_2, fa77_0, fa77_1, fa103_0, fa103_1, fa111_0, fa111_1, fa143_0, fa143_1, fa143_2, fa143_3, fa175_0, fa175_1, fa175_2, fa125_0, fa125_1, fa125_2, fa125_3, fa125_4, Nat.reduceEqDiff]
      simp only [r134, bin_add, bin_sub, bin_mul, bin_eql, bin_neq, bin_lss, bin_leq, bin_gtr, bin_geq, un_not, un_neg, pick_true, pick_false, extract_two_0, extract_two_1, nilCheck_pointer, cond_true', cond_false', guard_tt, guard_ff, guard_tf, guard_ft, guard_undef, seqQ_normal, seqQ_ret, seqQ_exit, blockQ_ret, blockQ_normal, blockQ_exit, bodyQ_ret, bodyQ_normal, resK_nil, resK_tmp, ite_T, ite_F, upd_at, add_plain, add_zero', len22, len35, len48, fa37_0, fa37_1, fa37_2, fa77_0, fa77_1, fa103_0, fa103_1, fa111_0, fa111_1, fa143_0, fa143_1, fa143_2, fa143_3, fa175_0, fa175_1, fa175_2, fa125_0, fa125_1, fa125_2, fa125_3, fa125_4, Nat.reduceEqDiff]
      rw [i64_of (by omega) (by omega)]
      rw [partL_row hla (by omega)] at r22 r18 H
      exact hK4 _ _ hla ⟨hla, rfl, r22, r20, r19, X1, c1, ps1, r18, hX1, H⟩
    simp only [show ((b : Int) < rl.length) from by omega, decide_true, bin_add, bin_sub, bin_mul, bin_eql, bin_neq, bin_lss, bin_leq, bin_gtr, bin_geq, un_not, un_neg, pick_true, pick_false, extract_two_0, extract_two_1, nilCheck_pointer, cond_true', cond_false', guard_tt, guard_ff, guard_tf, guard_ft, guard_undef, seqQ_normal, seqQ_ret, seqQ_exit, blockQ_ret, blockQ_normal, blockQ_exit, bodyQ_ret, bodyQ_normal, resK_nil, resK_tmp, ite_T, ite_F, upd_at, add_plain, add_zero', len22, len35, len48, fa37_0, fa37_1, fa37_2, fa77_0, fa77_1, fa103_0, fa103_1, fa111_0, fa111_1, fa143_0, fa143_1, fa143_2, fa143_3, fa175_0, fa175_1, fa175_2, fa125_0, fa125_1, fa125_2, fa125_3, fa125_4, Nat.reduceEqDiff]
    have hn1 := partL_len (F := fl) (R := rl) (a := a) (b := b) (by omega) (by omega)
    have hn2 : a * rl.length ≤ 60 * 60 := Nat.mul_le_mul (by omega) (by omega)
    have hlen9 : (ls ++ (partL fl rl a b).take M).length ≤ 100000 := by
      rw [List.length_append, List.length_take]
      omega
    refine join_as (fun g w' => g 140 = .int .i64 b ∧ g 134 = .int .i64 a ∧ g 22 = .int .i64 ((partL fl rl a (b + 1)).length : Nat) ∧ g 20 = .int .i64 ((o + 1 : Nat) : Int) ∧ g 19 = .int .i64 ((i + m : Nat) : Int) ∧ ∃ X1 c1 ps1, g 18 = .slice X1 (ls ++ (partL fl rl a (b + 1)).take M).length c1 ∧ X1 ≠ none ∧ Apt w0 w' (L ents3 has3 (lss X1 c1 (ls ++ (partL fl rl a (b + 1)).take M) ps1 :: bx b3 [.int .i64 ((q : Int) * 5 + (p : Int)), .int .i64 i, .int .i64 j, .int .i64 s, .int .i64 0] 186 :: E))) (fun K6 hK6 => ?_) ?_
    case refine_2 =>
      rintro g w' ⟨g140, hrest⟩
      simp only [g140, bin_add, bin_sub, bin_mul, bin_eql, bin_neq, bin_lss, bin_leq, bin_gtr, bin_geq, un_not, un_neg, pick_true, pick_false, extract_two_0, extract_two_1, nilCheck_pointer, cond_true', cond_false', guard_tt, guard_ff, guard_tf, guard_ft, guard_undef, seqQ_normal, seqQ_ret, seqQ_exit, blockQ_ret, blockQ_normal, blockQ_exit, bodyQ_ret, bodyQ_normal, resK_nil, resK_tmp, ite_T, ite_F, upd_at, add_plain, add_zero', len22, len35, len48, fa37_0, fa37_1, fa37_2, fa77_0, fa77_1, fa103_0, fa103_1, fa111_0, fa111_1, fa143_0, fa143_1, fa143_2, fa143_3, fa175_0, fa175_1, fa175_2, fa125_0, fa125_1, fa125_2, fa125_3, fa125_4, Nat.reduceEqDiff]
      rw [i64_of (by omega) (by omega)]
      exact hK5 _ _ hlb ⟨hlb, rfl, hrest⟩
    simp only [r138, r0, r22, r24, r18, bin_add, bin_sub, bin_mul, bin_eql, bin_neq, bin_lss, bin_leq, bin_gtr, bin_geq, un_not, un_neg, pick_true, pick_false, extract_two_0, extract_two_1, nilCheck_pointer, cond_true', cond_false', guard_tt, guard_ff, guard_tf, guard_ft, guard_undef, seqQ_normal, seqQ_ret, seqQ_exit, blockQ_ret, blockQ_normal, blockQ_exit, bodyQ_ret, bodyQ_normal, resK_nil, resK_tmp, ite_T, ite_F, upd_at, add_plain, add_zero', len22, len35, len48, fa37_0, fa37_1, fa37_2, fa77_0, fa77_1, fa103_0, fa103_1, fa111_0, fa111_1, fa143_0, fa143_1, fa143_2, fa143_3, fa175_0, fa175_1, fa175_2, fa125_0, fa125_1, fa125_2, fa125_3, fa125_4, Nat.reduceEqDiff]
    rw [hL] at H
    have hreadR := readR H 2 rfl
    obtain ⟨tb1, tb2, tb3⟩ := hreadR.row b hlb
    have hbl : (rgt rl b).length = s - (o + 1) := der_len (hrF.mem _ (rgt_mem hlb))
    refine rdi (ixn48 hreadR.ptr hlb) (rdi (ld22 tb1) ?_)
    have hstep : (partL fl rl a (b + 1)).take M = if (partL fl rl a b).length < M then (partL fl rl a b).take M ++ [rgt fl a ++ rgt rl b] else (partL fl rl a b).take M := by
      rw [partL_step hlb, take_step]
    have hnlen : (partL fl rl a (b + 1)).length = (partL fl rl a b).length + 1 := by
      rw [partL_step hlb, List.length_append]
      rfl
    refine join_as (fun g w' => g 140 = .int .i64 b ∧ g 134 = .int .i64 a ∧ g 22 = .int .i64 ((partL fl rl a b).length : Nat) ∧ g 20 = .int .i64 ((o + 1 : Nat) : Int) ∧ g 19 = .int .i64 ((i + m : Nat) : Int) ∧ ∃ X1 c1 ps1, g 18 = .slice X1 (ls ++ (partL fl rl a (b + 1)).take M).length c1 ∧ X1 ≠ none ∧ Apt w0 w' (L ents3 has3 (lss X1 c1 (ls ++ (partL fl rl a (b + 1)).take M) ps1 :: bx b3 [.int .i64 ((q : Int) * 5 + (p : Int)), .int .i64 i, .int .i64 j, .int .i64 s, .int .i64 0] 186 :: E))) (fun K7 hK7 => ?_) ?_
    case refine_2 =>
      rintro g w' ⟨g140, g134, g22, hrest⟩
      simp only [g22, bin_add, bin_sub, bin_mul, bin_eql, bin_neq, bin_lss, bin_leq, bin_gtr, bin_geq, un_not, un_neg, pick_true, pick_false, extract_two_0, extract_two_1, nilCheck_pointer, cond_true', cond_false', guard_tt, guard_ff, guard_tf, guard_ft, guard_undef, seqQ_normal, seqQ_ret, seqQ_exit, blockQ_ret, blockQ_normal, blockQ_exit, bodyQ_ret, bodyQ_normal, resK_nil, resK_tmp, ite_T, ite_F, upd_at, add_plain, add_zero', len22, len35, len48, fa37_0, fa37_1, fa37_2, fa77_0, fa77_1, fa103_0, fa103_1, fa111_0, fa111_1, fa143_0, fa143_1, fa143_2, fa143_3, fa175_0, fa175_1, fa175_2, fa125_0, fa125_1, fa125_2, fa125_3, fa125_4, Nat.reduceEqDiff]
      rw [i64_of (by omega) (by omega)]
      exact hK6 _ _ ⟨g140, g134, by rw [hnlen]; rfl, hrest⟩
    rw [ldB3 (H.box 0 rfl) rfl]
    simp only [bin_add, bin_sub, bin_mul, bin_eql, bin_neq, bin_lss, bin_leq, bin_gtr, bin_geq, un_not, un_neg, pick_true, pick_false, extract_two_0, extract_two_1, nilCheck_pointer, cond_true', cond_false', guard_tt, guard_ff, guard_tf, guard_ft, guard_undef, seqQ_normal, seqQ_ret, seqQ_exit, blockQ_ret, blockQ_normal, blockQ_exit, bodyQ_ret, bodyQ_normal, resK_nil, resK_tmp, ite_T, ite_F, upd_at, add_plain, add_zero', len22, len35, len48, fa37_0, fa37_1, fa37_2, fa77_0, fa77_1, fa103_0, fa103_1, fa111_0, fa111_1, fa143_0, fa143_1, fa143_2, fa143_3, fa175_0, fa175_1, fa175_2, fa125_0, fa125_1, fa125_2, fa125_3, fa125_4, Nat.reduceEqDiff]
    by_cases hnM : (partL fl rl a b).length < M
    case neg =>
      simp only [show ¬ (((partL fl rl a b).length : Int) < (M : Int)) from by omega, decide_false, bin_add, bin_sub, bin_mul, bin_eql, bin_neq, bin_lss, bin_leq, bin_gtr, bin_geq, un_not, un_neg, pick_true, pick_false, extract_two_0, extract_two_1, nilCheck_pointer, cond_true', cond_false', guard_tt, guard_ff, guard_tf, guard_ft, guard_undef, seqQ_normal, seqQ_ret, seqQ_exit, blockQ_ret, blockQ_normal, blockQ_exit, bodyQ_ret, bodyQ_normal, resK_nil, resK_tmp, ite_T, ite_F, upd_at, add_plain, add_zero', len22, len35, len48, fa37_0, fa37_1, fa37_2, fa77_0, fa77_1, fa103_0, fa103_1, fa111_0, fa111_1, fa143_0, fa143_1, fa143_2, fa143_3, fa175_0, fa175_1, fa175_2, fa125_0, fa125_1, fa125_2, fa125_3, fa125_4, Nat.reduceEqDiff]
      rw [if_neg hnM] at hstep
      exact hK7 _ _ ⟨r140, r134, r22, r20, r19, X1, c1, ps1, by rw [hstep]; exact r18, hX1, by rw [hstep]; exact hB _ _ _ H⟩
    simp only [show (((partL fl rl a b).length : Int) < (M : Int)) from by omega, decide_true, bin_add, bin_sub, bin_mul, bin_eql, bin_neq, bin_lss, bin_leq, bin_gtr, bin_geq, un_not, un_neg, pick_true, pick_false, extract_two_0, extract_two_1, nilCheck_pointer, cond_true', cond_false', guard_tt, guard_ff, guard_tf, guard_ft, guard_undef, seqQ_normal, seqQ_ret, seqQ_exit, blockQ_ret, blockQ_normal, blockQ_exit, bodyQ_ret, bodyQ_normal, resK_nil, resK_tmp, ite_T, ite_F, upd_at, add_plain, add_zero', len22, len35, len48, fa37_0, fa37_1, fa37_2, fa77_0, fa77_1, fa103_0, fa103_1, fa111_0, fa111_1, fa143_0, fa143_1, fa143_2, fa143_3, fa175_0, fa175_1, fa175_2, fa125_0, fa125_1, fa125_2, fa125_3, fa125_4, Nat.reduceEqDiff]
    rw [if_pos hnM] at hstep
    refine do_build_of u22 inf3 (cells := []) (by decide) (by decide) (by simp [Instr.fill, madeCells]) rfl fun b1 w6 hb1 hb2 g6 hB6 hr6 => ?_
    have H := H.addOwn (xs := []) g6 (hr6 _ (Nat.le_refl _))
    have H := H.insert 4
    simp only [List.take_succ_cons, List.take_zero, List.drop_succ_cons, List.drop_zero, List.nil_append, List.cons_append] at H
    refine apH H 4 rfl (((readF H 2 rfl).row a hla).2.2.is) rfl rfl (by simp; omega) fun X7 c7 w7 H => ?_
    simp only [List.set_cons_zero, List.set_cons_succ] at H
    refine apH H 4 rfl (((readR H 2 rfl).row b hlb).2.2.is) rfl rfl (by simp; omega) fun X8 c8 w8 H => ?_
    simp only [List.set_cons_zero, List.set_cons_succ] at H
    refine pushSSH H 3 4 (by decide) rfl rfl rfl rfl (by omega) fun t8 X9 c9 w10 ps9 H => ?_
    simp only [List.set_cons_zero, List.set_cons_succ] at H
    have H := H.erase 4
    simp only [List.eraseIdx_cons_zero, List.eraseIdx_cons_succ] at H
    have hX9 : X9 ≠ none := fun e => by
      have := (H.lssi 3 rfl).ptr (by rw [List.length_append, List.length_singleton]; omega)
      rw [e] at this
      cases this
    have e : ls ++ (partL fl rl a (b + 1)).take M = ls ++ (partL fl rl a b).take M ++ [[] ++ rgt fl a ++ rgt rl b] := by
      rw [hstep, List.append_assoc]
      rfl
    refine hK7 _ _ ⟨r140, r134, r22, r20, r19, X9, c9, ps9, ?_, hX9, ?_⟩
    · rw [e]
      rfl
    · rw [e]
      exact hB _ _ _ H
end
end Go.Proofs.Ytiohaeckagjebaa

/- Contract: TreesUpTo of the program. -/
set_option linter.unusedVariables false
set_option linter.unusedSimpArgs false
set_option maxRecDepth 100000
namespace Go.Proofs.Ytiohaeckagjebaa
open Go Go.Sh Go.RowKit Go.WideMaps
theorem told_all {F : Nat → Prop} {w0 : World} {gm : Gram} {X Y : Option Addr} {cx cy be bt bm M : Nat} {ws : List Int} {L : List Ent → List Value → List Thing → List Thing} (hM1 : 0 < M) (hM60 : M ≤ 60) (hg : goodG gm = true) (hy : RulesF F w0 Y gm.rules) (hX : Ints w0 X ws) (hl : ws.length ≤ 10) (hw : ∀ t ∈ ws, 0 ≤ t ∧ t ≤ 100)
    (hL : ∀ ents has E, L ents has E = bx be (cellsTold gm Y cy bt M bm) 143 :: bx bt (.slice X ws.length cx :: cellsT (spanT gm.rules ws)) 111 :: mpG bm ents has :: E) : ∀ N, TreesC be gm ws M w0 L N ∧ RestC be gm ws M w0 L N := by
  intro N
  induction N with
  | zero =>
    refine ⟨trees_step hM1 hM60 hg hy hl hL (fun N' h => by omega), ?_⟩
    intro q p i j s w ents has E k hN
    omega
  | succ N ih =>
    refine ⟨trees_step hM1 hM60 hg hy hl hL fun N' h => ?_, rest_step hM1 hM60 hg hy hX hl hw hL ih.1 ih.2⟩
    obtain rfl : N = N' := by omega
    exact ih.2
theorem inf143' : Inf Try.prog 143 (.agg #[.int .i64 0, .int .i64 0, .slice none 0 0, .pointer none, .int .i64 0, .map none]) 6 64 := inf_of (by kernel_rfl)
theorem bd143 {S : WS} {k : Value → Prop} {a b c p n m : Value} (ha : a.cells = #[a]) (hb : b.cells = #[b]) (hc : c.cells = #[c]) (hp : p.cells = #[p]) (hn : n.cells = #[n]) (hm : m.cells = #[m]) : Rd Try.prog S (sBuild 143 [(0, .agg #[a, b, c]), (1, p), (2, n), (3, m)]) k = k (.agg #[a, b, c, p, n, m]) :=
  rd_buildN (ps := [(0, 3), (3, 1), (4, 1), (5, 1)]) Try.underlying143 inf143' ⟨⟨rfl, sz37⟩, ⟨rfl, sz112⟩, ⟨rfl, sz3⟩, ⟨rfl, sz141⟩, trivial⟩ (by
    have e : (Value.agg #[a, b, c]).cells = #[a, b, c] := rfl
    have e2 : (Value.agg #[Value.int .i64 0, .int .i64 0, .slice none 0 0, .pointer none, .int .i64 0, .map none]).cells = #[Value.int .i64 0, .int .i64 0, .slice none 0 0, .pointer none, .int .i64 0, .map none] := rfl
    simp [Instr.fill, hp, hn, hm, e, e2])
set_option maxHeartbeats 3200000 in
theorem implTreesUpTo_c {F : Nat → Prop} {w : World} {v : Value} {gm : Gram} {X : Option Addr} {n cx : Nat} {ws : List Int} {most many : Int} (hv : GramV F w v gm) (hX : Ints w X ws) (hn : n = ws.length) {k : Value → World → Prop}
    (hk : ∀ w' U d ps, Gr w w' → OwnSS 22 3 w' w.heap.size U d (treesV gm ws most many).1 ps → k (.tuple #[.slice U (treesV gm ws most many).1.length d, .bool (treesV gm ws most many).2]) w') :
    CallK Try.prog 74 [v, .slice X n cx, .int .i64 most, .int .i64 many] k w := by
  subst hn
  obtain ⟨Y, cy, rfl, hc, hy⟩ := hv
  refine enter74 ?_
  unfold S74
  have H := Apt.nil w
  refine boxH H fun b1 w1 H => ?_
  rw [ldB_agg agg37 sz37 rfl (H.box 0 rfl)]
  refine isGrammar_c (gm := gm) ⟨Y, cy, rfl, hc, hy.gr H.gr⟩ fun w2 g2 => ?_
  have H := H.step g2
  have no : (((goodG gm && wordB gm.toks ws) && inB most 0 12) && inB many 0 60) = false → ∀ w', Gr w w' → k (.tuple #[.slice none 0 0, .bool false]) w' := fun h w' g => by
    have := hk w' none 0 (fun _ => (none, 0)) g
    unfold treesV at this
    rw [h, if_neg Bool.false_ne_true] at this
    exact this (OwnSS.nil _ _ _ _ _)
  cases hg : goodG gm
  · simp only [Bool.not_false, bin_add, bin_sub, bin_mul, bin_eql, bin_neq, bin_lss, bin_leq, bin_gtr, bin_geq, un_not, un_neg, pick_true, pick_false, extract_two_0, extract_two_1, nilCheck_pointer, cond_true', cond_false', guard_tt, guard_ff, guard_tf, guard_ft, guard_undef, seqQ_normal, seqQ_ret, seqQ_exit, blockQ_ret, blockQ_normal, blockQ_exit, bodyQ_ret, bodyQ_normal, resK_nil, resK_tmp, ite_T, ite_F, upd_at, add_plain, add_zero', len22, len35, len48, fa37_0, fa37_1, fa37_2, fa77_0, fa77_1, fa103_0, fa103_1, fa111_0, fa111_1, fa143_0, fa143_1, fa143_2, fa143_3, fa175_0, fa175_1, fa175_2, fa125_0, fa125_1, fa125_2, fa125_3, fa125_4, Nat.reduceEqDiff]
    exact no (by rw [hg]; rfl) _ H.gr
  simp only [Bool.not_true, bin_add, bin_sub, bin_mul, bin_eql, bin_neq, bin_lss, bin_leq, bin_gtr, bin_geq, un_not, un_neg, pick_true, pick_false, extract_two_0, extract_two_1, nilCheck_pointer, cond_true', cond_false', guard_tt, guard_ff, guard_tf, guard_ft, guard_undef, seqQ_normal, seqQ_ret, seqQ_exit, blockQ_ret, blockQ_normal, blockQ_exit, bodyQ_ret, bodyQ_normal, resK_nil, resK_tmp, ite_T, ite_F, upd_at, add_plain, add_zero', len22, len35, len48, fa37_0, fa37_1, fa37_2, fa77_0, fa77_1, fa103_0, fa103_1, fa111_0, fa111_1, fa143_0, fa143_1, fa143_2, fa143_3, fa175_0, fa175_1, fa175_2, fa125_0, fa125_1, fa125_2, fa125_3, fa125_4, Nat.reduceEqDiff]
  have ht := good_toks hg
  rw [ldB3 (H.box 0 rfl) rfl]
  refine isWord_c (hX.gr H.gr) rfl ht.1 ht.2 fun w3 g3 => ?_
  have H := H.step g3
  cases hgw : wordB gm.toks ws
  · simp only [Bool.not_false, bin_add, bin_sub, bin_mul, bin_eql, bin_neq, bin_lss, bin_leq, bin_gtr, bin_geq, un_not, un_neg, pick_true, pick_false, extract_two_0, extract_two_1, nilCheck_pointer, cond_true', cond_false', guard_tt, guard_ff, guard_tf, guard_ft, guard_undef, seqQ_normal, seqQ_ret, seqQ_exit, blockQ_ret, blockQ_normal, blockQ_exit, bodyQ_ret, bodyQ_normal, resK_nil, resK_tmp, ite_T, ite_F, upd_at, add_plain, add_zero', len22, len35, len48, fa37_0, fa37_1, fa37_2, fa77_0, fa77_1, fa103_0, fa103_1, fa111_0, fa111_1, fa143_0, fa143_1, fa143_2, fa143_3, fa175_0, fa175_1, fa175_2, fa125_0, fa125_1, fa125_2, fa125_3, fa125_4, Nat.reduceEqDiff]
    exact no (by rw [hg, hgw]; rfl) _ H.gr
  simp only [Bool.not_true, bin_add, bin_sub, bin_mul, bin_eql, bin_neq, bin_lss, bin_leq, bin_gtr, bin_geq, un_not, un_neg, pick_true, pick_false, extract_two_0, extract_two_1, nilCheck_pointer, cond_true', cond_false', guard_tt, guard_ff, guard_tf, guard_ft, guard_undef, seqQ_normal, seqQ_ret, seqQ_exit, blockQ_ret, blockQ_normal, blockQ_exit, bodyQ_ret, bodyQ_normal, resK_nil, resK_tmp, ite_T, ite_F, upd_at, add_plain, add_zero', len22, len35, len48, fa37_0, fa37_1, fa37_2, fa77_0, fa77_1, fa103_0, fa103_1, fa111_0, fa111_1, fa143_0, fa143_1, fa143_2, fa143_3, fa175_0, fa175_1, fa175_2, fa125_0, fa125_1, fa125_2, fa125_3, fa125_4, Nat.reduceEqDiff]
  refine in_c ?_
  cases hm : inB most 0 12
  · simp only [Bool.not_false, bin_add, bin_sub, bin_mul, bin_eql, bin_neq, bin_lss, bin_leq, bin_gtr, bin_geq, un_not, un_neg, pick_true, pick_false, extract_two_0, extract_two_1, nilCheck_pointer, cond_true', cond_false', guard_tt, guard_ff, guard_tf, guard_ft, guard_undef, seqQ_normal, seqQ_ret, seqQ_exit, blockQ_ret, blockQ_normal, blockQ_exit, bodyQ_ret, bodyQ_normal, resK_nil, resK_tmp, ite_T, ite_F, upd_at, add_plain, add_zero', len22, len35, len48, fa37_0, fa37_1, fa37_2, fa77_0, fa77_1, fa103_0, fa103_1, fa111_0, fa111_1, fa143_0, fa143_1, fa143_2, fa143_3, fa175_0, fa175_1, fa175_2, fa125_0, fa125_1, fa125_2, fa125_3, fa125_4, Nat.reduceEqDiff]
    exact no (by rw [hg, hgw, hm]; rfl) _ H.gr
  simp only [Bool.not_true, bin_add, bin_sub, bin_mul, bin_eql, bin_neq, bin_lss, bin_leq, bin_gtr, bin_geq, un_not, un_neg, pick_true, pick_false, extract_two_0, extract_two_1, nilCheck_pointer, cond_true', cond_false', guard_tt, guard_ff, guard_tf, guard_ft, guard_undef, seqQ_normal, seqQ_ret, seqQ_exit, blockQ_ret, blockQ_normal, blockQ_exit, bodyQ_ret, bodyQ_normal, resK_nil, resK_tmp, ite_T, ite_F, upd_at, add_plain, add_zero', len22, len35, len48, fa37_0, fa37_1, fa37_2, fa77_0, fa77_1, fa103_0, fa103_1, fa111_0, fa111_1, fa143_0, fa143_1, fa143_2, fa143_3, fa175_0, fa175_1, fa175_2, fa125_0, fa125_1, fa125_2, fa125_3, fa125_4, Nat.reduceEqDiff]
  refine in_c ?_
  cases hm2 : inB many 0 60
  · simp only [Bool.not_false, bin_add, bin_sub, bin_mul, bin_eql, bin_neq, bin_lss, bin_leq, bin_gtr, bin_geq, un_not, un_neg, pick_true, pick_false, extract_two_0, extract_two_1, nilCheck_pointer, cond_true', cond_false', guard_tt, guard_ff, guard_tf, guard_ft, guard_undef, seqQ_normal, seqQ_ret, seqQ_exit, blockQ_ret, blockQ_normal, blockQ_exit, bodyQ_ret, bodyQ_normal, resK_nil, resK_tmp, ite_T, ite_F, upd_at, add_plain, add_zero', len22, len35, len48, fa37_0, fa37_1, fa37_2, fa77_0, fa77_1, fa103_0, fa103_1, fa111_0, fa111_1, fa143_0, fa143_1, fa143_2, fa143_3, fa175_0, fa175_1, fa175_2, fa125_0, fa125_1, fa125_2, fa125_3, fa125_4, Nat.reduceEqDiff]
    exact no (by rw [hg, hgw, hm, hm2]; rfl) _ H.gr
  simp only [Bool.not_true, bin_add, bin_sub, bin_mul, bin_eql, bin_neq, bin_lss, bin_leq, bin_gtr, bin_geq, un_not, un_neg, pick_true, pick_false, extract_two_0, extract_two_1, nilCheck_pointer, cond_true', cond_false', guard_tt, guard_ff, guard_tf, guard_ft, guard_undef, seqQ_normal, seqQ_ret, seqQ_exit, blockQ_ret, blockQ_normal, blockQ_exit, bodyQ_ret, bodyQ_normal, resK_nil, resK_tmp, ite_T, ite_F, upd_at, add_plain, add_zero', len22, len35, len48, fa37_0, fa37_1, fa37_2, fa77_0, fa77_1, fa103_0, fa103_1, fa111_0, fa111_1, fa143_0, fa143_1, fa143_2, fa143_3, fa175_0, fa175_1, fa175_2, fa125_0, fa125_1, fa125_2, fa125_3, fa125_4, Nat.reduceEqDiff]
  unfold treesV at hk
  rw [hg, hgw, hm, hm2, if_pos (show (((true && true) && true) && true) = true from rfl)] at hk
  dsimp only at hk
  have hlen := wordB_len hgw
  have htok := wordB_tok hgw ht.2
  have hn6 := good_nons hg
  simp only [inB, Bool.and_eq_true, decide_eq_true_eq] at hm hm2
  obtain ⟨most, rfl⟩ : ∃ m' : Nat, most = m' := ⟨most.toNat, by omega⟩
  obtain ⟨M, rfl⟩ : ∃ m' : Nat, many = m' := ⟨many.toNat, by omega⟩
  rw [Int.toNat_natCast, Int.toNat_natCast] at hk
  have H := H.drew
  refine join_as (fun f w' => f 1 = .slice X ws.length cx ∧ f 2 = .int .i64 (most : Int) ∧ f 3 = .int .i64 (M : Int) ∧ ∃ be bt bm, f 10 = ptrv be ∧ Apt w w' [bx be (cellsTold gm Y cy bt M bm) 143, bx bt (.slice X ws.length cx :: cellsT (spanT gm.rules ws)) 111, mpG bm [] []]) (fun K1 hK1 => ?_) ?_
  · refine ⟨fun w' => Gr w3.drew w', Gr.refl _, ?_⟩
    rw [rdG_agg agg37 sz37 rfl (H.box 0 rfl)]
    rw [rdG_agg agg37 sz37 rfl (H.box 0 rfl)]
    refine ⟨?_, ?_⟩
    · refine spans_c (gm := gm) ⟨Y, cy, rfl, hc, hy.gr H.gr⟩ hg (hX.gr H.gr) rfl hlen htok fun w4 bt HT => ?_
      refine ⟨HT.gr, ?_⟩
      have H := H.append HT
      refine makeMapHG (Good := fun _ _ => False) H fun bm w5 g5 H => ?_
      refine ⟨gr_trans HT.gr g5, ?_⟩
      refine rdi (bd143 rfl rfl rfl rfl rfl rfl) ?_
      refine boxHG H fun be w6 g6 H => ?_
      refine ⟨gr_trans HT.gr (gr_trans g5 g6), ?_⟩
      have H := (H.erase 0).insert 0
      simp only [List.nil_append, List.cons_append, List.eraseIdx_cons_zero, List.eraseIdx_cons_succ, List.take_succ_cons, List.take_zero, List.drop_succ_cons, List.drop_zero] at H
      have H := H.emptyG 2 rfl
      simp only [List.set_cons_zero, List.set_cons_succ] at H
      exact hK1 _ _ ⟨rfl, rfl, rfl, be, bt, bm, rfl, H⟩
    · refine makeMapHG (Good := fun _ _ => False) H fun bm w5 g5 H => ?_
      refine ⟨g5, ?_⟩
      refine spans_c (gm := gm) ⟨Y, cy, rfl, hc, hy.gr H.gr⟩ hg (hX.gr H.gr) rfl hlen htok fun w4 bt HT => ?_
      refine ⟨gr_trans g5 HT.gr, ?_⟩
      have H := H.append HT
      refine rdi (bd143 rfl rfl rfl rfl rfl rfl) ?_
      refine boxHG H fun be w6 g6 H => ?_
      refine ⟨gr_trans g5 (gr_trans HT.gr g6), ?_⟩
      have H := (H.erase 0).insert 0
      simp only [List.nil_append, List.cons_append, List.eraseIdx_cons_zero, List.eraseIdx_cons_succ, List.take_succ_cons, List.take_zero, List.drop_succ_cons, List.drop_zero] at H
      have H := Apt.insert (L := [_, _]) H 1
      simp only [List.nil_append, List.cons_append, List.eraseIdx_cons_zero, List.eraseIdx_cons_succ, List.take_succ_cons, List.take_zero, List.drop_succ_cons, List.drop_zero] at H
      have H := H.emptyG 2 rfl
      simp only [List.set_cons_zero, List.set_cons_succ] at H
      exact hK1 _ _ ⟨rfl, rfl, rfl, be, bt, bm, rfl, H⟩
  clear H
  rintro f0 w4 ⟨a1, a2, a3, be, bt, bm, a10, H⟩
  refine newSSH H fun b5 w5 H => ?_
  simp only [List.nil_append, List.cons_append] at H
  refine loop_to most 0 (fun n f w' => n ≤ most ∧ f 12 = .int .i64 ((n + 1 : Nat) : Int) ∧ ∃ ents has X' c' ps, f 11 = .slice X' (toldL (topD gm ws) M n).length c' ∧ GoodT M gm.rules ws ents ∧ Apt w w' (bx be (cellsTold gm Y cy bt M bm) 143 :: bx bt (.slice X ws.length cx :: cellsT (spanT gm.rules ws)) 111 :: mpG bm ents has :: [lss X' c' (toldL (topD gm ws) M n) ps]))
    ⟨Nat.zero_le _, rfl, [], [], _, 0, _, rfl, fun t ht => by simp at ht, H⟩ ?_
  clear H
  rintro n f w6 NN hag ⟨hnm, h12, ents, has, X1, c1, ps1, h11, hG, H⟩ hN
  have f1 : f 1 = .slice X ws.length cx := (hag 1 (by decide)).trans a1
  have f2 : f 2 = .int .i64 most := (hag 2 (by decide)).trans a2
  have f3 : f 3 = .int .i64 M := (hag 3 (by decide)).trans a3
  have f10 : f 10 = ptrv be := (hag 10 (by decide)).trans a10
  have hlen2 := toldL_len (S := topD gm ws) (many := M) n
  have fin : toldL (topD gm ws) M most = toldL (topD gm ws) M n → k (.tuple #[.slice X1 (toldL (topD gm ws) M n).length c1, .bool true]) w6 := fun e => by
    have := hk w6 X1 c1 ps1 H.gr
    rw [e] at this
    exact this (H.lssi 3 rfl)
  simp only [f1, f2, f3, f10, h12, h11, bin_add, bin_sub, bin_mul, bin_eql, bin_neq, bin_lss, bin_leq, bin_gtr, bin_geq, un_not, un_neg, pick_true, pick_false, extract_two_0, extract_two_1, nilCheck_pointer, cond_true', cond_false', guard_tt, guard_ff, guard_tf, guard_ft, guard_undef, seqQ_normal, seqQ_ret, seqQ_exit, blockQ_ret, blockQ_normal, blockQ_exit, bodyQ_ret, bodyQ_normal, resK_nil, resK_tmp, ite_T, ite_F, upd_at, add_plain, add_zero', len22, len35, len48, fa37_0, fa37_1, fa37_2, fa77_0, fa77_1, fa103_0, fa103_1, fa111_0, fa111_1, fa143_0, fa143_1, fa143_2, fa143_3, fa175_0, fa175_1, fa175_2, fa125_0, fa125_1, fa125_2, fa125_3, fa125_4, Nat.reduceEqDiff]
  by_cases hlt : n < most
  case neg =>
    simp only [show ¬ (((n + 1 : Nat) : Int) ≤ most) from by omega, decide_false, bin_add, bin_sub, bin_mul, bin_eql, bin_neq, bin_lss, bin_leq, bin_gtr, bin_geq, un_not, un_neg, pick_true, pick_false, extract_two_0, extract_two_1, nilCheck_pointer, cond_true', cond_false', guard_tt, guard_ff, guard_tf, guard_ft, guard_undef, seqQ_normal, seqQ_ret, seqQ_exit, blockQ_ret, blockQ_normal, blockQ_exit, bodyQ_ret, bodyQ_normal, resK_nil, resK_tmp, ite_T, ite_F, upd_at, add_plain, add_zero', len22, len35, len48, fa37_0, fa37_1, fa37_2, fa77_0, fa77_1, fa103_0, fa103_1, fa111_0, fa111_1, fa143_0, fa143_1, fa143_2, fa143_3, fa175_0, fa175_1, fa175_2, fa125_0, fa125_1, fa125_2, fa125_3, fa125_4, Nat.reduceEqDiff]
    exact fin (by rw [show most = n from by omega])
  simp only [show (((n + 1 : Nat) : Int) ≤ most) from by omega, decide_true, bin_add, bin_sub, bin_mul, bin_eql, bin_neq, bin_lss, bin_leq, bin_gtr, bin_geq, un_not, un_neg, pick_true, pick_false, extract_two_0, extract_two_1, nilCheck_pointer, cond_true', cond_false', guard_tt, guard_ff, guard_tf, guard_ft, guard_undef, seqQ_normal, seqQ_ret, seqQ_exit, blockQ_ret, blockQ_normal, blockQ_exit, bodyQ_ret, bodyQ_normal, resK_nil, resK_tmp, ite_T, ite_F, upd_at, add_plain, add_zero', len22, len35, len48, fa37_0, fa37_1, fa37_2, fa77_0, fa77_1, fa103_0, fa103_1, fa111_0, fa111_1, fa143_0, fa143_1, fa143_2, fa143_3, fa175_0, fa175_1, fa175_2, fa125_0, fa125_1, fa125_2, fa125_3, fa125_4, Nat.reduceEqDiff]
  by_cases hfull : (toldL (topD gm ws) M n).length < M
  case neg =>
    simp only [show ¬ (((toldL (topD gm ws) M n).length : Int) < M) from by omega, decide_false, bin_add, bin_sub, bin_mul, bin_eql, bin_neq, bin_lss, bin_leq, bin_gtr, bin_geq, un_not, un_neg, pick_true, pick_false, extract_two_0, extract_two_1, nilCheck_pointer, cond_true', cond_false', guard_tt, guard_ff, guard_tf, guard_ft, guard_undef, seqQ_normal, seqQ_ret, seqQ_exit, blockQ_ret, blockQ_normal, blockQ_exit, bodyQ_ret, bodyQ_normal, resK_nil, resK_tmp, ite_T, ite_F, upd_at, add_plain, add_zero', len22, len35, len48, fa37_0, fa37_1, fa37_2, fa77_0, fa77_1, fa103_0, fa103_1, fa111_0, fa111_1, fa143_0, fa143_1, fa143_2, fa143_3, fa175_0, fa175_1, fa175_2, fa125_0, fa125_1, fa125_2, fa125_3, fa125_4, Nat.reduceEqDiff]
    exact fin (toldL_full hfull (by omega))
  simp only [show (((toldL (topD gm ws) M n).length : Int) < M) from by omega, decide_true, bin_add, bin_sub, bin_mul, bin_eql, bin_neq, bin_lss, bin_leq, bin_gtr, bin_geq, un_not, un_neg, pick_true, pick_false, extract_two_0, extract_two_1, nilCheck_pointer, cond_true', cond_false', guard_tt, guard_ff, guard_tf, guard_ft, guard_undef, seqQ_normal, seqQ_ret, seqQ_exit, blockQ_ret, blockQ_normal, blockQ_exit, bodyQ_ret, bodyQ_normal, resK_nil, resK_tmp, ite_T, ite_F, upd_at, add_plain, add_zero', len22, len35, len48, fa37_0, fa37_1, fa37_2, fa77_0, fa77_1, fa103_0, fa103_1, fa111_0, fa111_1, fa143_0, fa143_1, fa143_2, fa143_3, fa175_0, fa175_1, fa175_2, fa125_0, fa125_1, fa125_2, fa125_3, fa125_4, Nat.reduceEqDiff]
  refine (told_all (by omega) (by omega) hg hy hX hlen htok (cx := cx) (cy := cy) (be := be) (bt := bt) (bm := bm) (L := fun ents has E => bx be (cellsTold gm Y cy bt M bm) 143 :: bx bt (.slice X ws.length cx :: cellsT (spanT gm.rules ws)) 111 :: mpG bm ents has :: E) (fun _ _ _ => rfl) 1000).1 (A := 0) (i := 0) (j := ws.length) (s := n + 1) (E := [lss X1 c1 (toldL (topD gm ws) M n) ps1]) (by omega) (by omega) (Nat.zero_le _) (Nat.le_refl _) (by omega) hG H fun w7 ents7 has7 Xt ct tl hG7 hs7 H hheld hct hF => ?_
  obtain ⟨yst, readT⟩ := hheld.read
  have htl := hF.len
  obtain ⟨r, hr⟩ : ∃ r, r = M - (toldL (topD gm ws) M n).length := ⟨_, rfl⟩
  have hFr : firstsOf r (topD gm ws (n + 1)) = tl.take r := firstsOf_eq (hF.take (by omega))
  have e1 : toldL (topD gm ws) M (n + 1) = toldL (topD gm ws) M n ++ tl.take r := by rw [toldL, if_pos hfull, ← hr, hFr]
  simp only [bin_add, bin_sub, bin_mul, bin_eql, bin_neq, bin_lss, bin_leq, bin_gtr, bin_geq, un_not, un_neg, pick_true, pick_false, extract_two_0, extract_two_1, nilCheck_pointer, cond_true', cond_false', guard_tt, guard_ff, guard_tf, guard_ft, guard_undef, seqQ_normal, seqQ_ret, seqQ_exit, blockQ_ret, blockQ_normal, blockQ_exit, bodyQ_ret, bodyQ_normal, resK_nil, resK_tmp, ite_T, ite_F, upd_at, add_plain, add_zero', len22, len35, len48, fa37_0, fa37_1, fa37_2, fa77_0, fa77_1, fa103_0, fa103_1, fa111_0, fa111_1, fa143_0, fa143_1, fa143_2, fa143_3, fa175_0, fa175_1, fa175_2, fa125_0, fa125_1, fa125_2, fa125_3, fa125_4, Nat.reduceEqDiff]
  refine loop_to tl.length 0 (fun a g w' => a ≤ tl.length ∧ g 61 = .int .i64 a ∧ g 12 = .int .i64 ((n + 1 : Nat) : Int) ∧ ∃ X' c' ps, g 11 = .slice X' (toldL (topD gm ws) M n ++ (tl.take a).take r).length c' ∧ Apt w w' (bx be (cellsTold gm Y cy bt M bm) 143 :: bx bt (.slice X ws.length cx :: cellsT (spanT gm.rules ws)) 111 :: mpG bm ents7 has7 :: [lss X' c' (toldL (topD gm ws) M n ++ (tl.take a).take r) ps]))
    ⟨Nat.zero_le _, rfl, h12, X1, c1, ps1, by rw [List.take_zero, List.take_nil, List.append_nil]; exact h11, by rw [List.take_zero, List.take_nil, List.append_nil]; exact H⟩ ?_
  clear H h11
  rintro a g w8 N2 hag2 ⟨ha, a61, a12, X2, c2, ps2, a11, H⟩ hN2
  have a60 : g 60 = .int .i64 tl.length := hag2 60 (by decide)
  have a59 : g 59 = .slice Xt tl.length ct := hag2 59 (by decide)
  have a3' : g 3 = .int .i64 M := (hag2 3 (by decide)).trans f3
  simp only [a60, a61, bin_add, bin_sub, bin_mul, bin_eql, bin_neq, bin_lss, bin_leq, bin_gtr, bin_geq, un_not, un_neg, pick_true, pick_false, extract_two_0, extract_two_1, nilCheck_pointer, cond_true', cond_false', guard_tt, guard_ff, guard_tf, guard_ft, guard_undef, seqQ_normal, seqQ_ret, seqQ_exit, blockQ_ret, blockQ_normal, blockQ_exit, bodyQ_ret, bodyQ_normal, resK_nil, resK_tmp, ite_T, ite_F, upd_at, add_plain, add_zero', len22, len35, len48, fa37_0, fa37_1, fa37_2, fa77_0, fa77_1, fa103_0, fa103_1, fa111_0, fa111_1, fa143_0, fa143_1, fa143_2, fa143_3, fa175_0, fa175_1, fa175_2, fa125_0, fa125_1, fa125_2, fa125_3, fa125_4, Nat.reduceEqDiff]
  by_cases hal : a < tl.length
  case neg =>
    simp only [show ¬ ((a : Int) < tl.length) from by omega, decide_false, bin_add, bin_sub, bin_mul, bin_eql, bin_neq, bin_lss, bin_leq, bin_gtr, bin_geq, un_not, un_neg, pick_true, pick_false, extract_two_0, extract_two_1, nilCheck_pointer, cond_true', cond_false', guard_tt, guard_ff, guard_tf, guard_ft, guard_undef, seqQ_normal, seqQ_ret, seqQ_exit, blockQ_ret, blockQ_normal, blockQ_exit, bodyQ_ret, bodyQ_normal, resK_nil, resK_tmp, ite_T, ite_F, upd_at, add_plain, add_zero', len22, len35, len48, fa37_0, fa37_1, fa37_2, fa77_0, fa77_1, fa103_0, fa103_1, fa111_0, fa111_1, fa143_0, fa143_1, fa143_2, fa143_3, fa175_0, fa175_1, fa175_2, fa125_0, fa125_1, fa125_2, fa125_3, fa125_4, Nat.reduceEqDiff]
    simp only [a12, bin_add, bin_sub, bin_mul, bin_eql, bin_neq, bin_lss, bin_leq, bin_gtr, bin_geq, un_not, un_neg, pick_true, pick_false, extract_two_0, extract_two_1, nilCheck_pointer, cond_true', cond_false', guard_tt, guard_ff, guard_tf, guard_ft, guard_undef, seqQ_normal, seqQ_ret, seqQ_exit, blockQ_ret, blockQ_normal, blockQ_exit, bodyQ_ret, bodyQ_normal, resK_nil, resK_tmp, ite_T, ite_F, upd_at, add_plain, add_zero', len22, len35, len48, fa37_0, fa37_1, fa37_2, fa77_0, fa77_1, fa103_0, fa103_1, fa111_0, fa111_1, fa143_0, fa143_1, fa143_2, fa143_3, fa175_0, fa175_1, fa175_2, fa125_0, fa125_1, fa125_2, fa125_3, fa125_4, Nat.reduceEqDiff]
    rw [i64_of (by omega) (by omega)]
    rw [List.take_of_length_le (show tl.length ≤ a by omega), ← e1] at a11 H
    exact hN _ _ hlt ⟨hlt, by show Value.int .i64 (((n + 1 : Nat) : Int) + 1) = _; congr 1, ents7, has7, X2, c2, ps2, a11, hG7, H⟩
  simp only [show ((a : Int) < tl.length) from by omega, decide_true, bin_add, bin_sub, bin_mul, bin_eql, bin_neq, bin_lss, bin_leq, bin_gtr, bin_geq, un_not, un_neg, pick_true, pick_false, extract_two_0, extract_two_1, nilCheck_pointer, cond_true', cond_false', guard_tt, guard_ff, guard_tf, guard_ft, guard_undef, seqQ_normal, seqQ_ret, seqQ_exit, blockQ_ret, blockQ_normal, blockQ_exit, bodyQ_ret, bodyQ_normal, resK_nil, resK_tmp, ite_T, ite_F, upd_at, add_plain, add_zero', len22, len35, len48, fa37_0, fa37_1, fa37_2, fa77_0, fa77_1, fa103_0, fa103_1, fa111_0, fa111_1, fa143_0, fa143_1, fa143_2, fa143_3, fa175_0, fa175_1, fa175_2, fa125_0, fa125_1, fa125_2, fa125_3, fa125_4, Nat.reduceEqDiff]
  have hstep : (tl.take (a + 1)).take r = if a < r then (tl.take a).take r ++ [rgt tl a] else (tl.take a).take r := by
    rw [take_snoc_rgt hal, take_step, List.length_take, Nat.min_eq_left (by omega)]
  refine join_as (fun g w' => g 61 = .int .i64 a ∧ g 12 = .int .i64 ((n + 1 : Nat) : Int) ∧ ∃ X' c' ps, g 11 = .slice X' (toldL (topD gm ws) M n ++ (tl.take (a + 1)).take r).length c' ∧ Apt w w' (bx be (cellsTold gm Y cy bt M bm) 143 :: bx bt (.slice X ws.length cx :: cellsT (spanT gm.rules ws)) 111 :: mpG bm ents7 has7 :: [lss X' c' (toldL (topD gm ws) M n ++ (tl.take (a + 1)).take r) ps])) (fun K6 hK6 => ?_) ?_
  case refine_2 =>
    rintro g w' ⟨g61, hrest⟩
    simp only [g61, bin_add, bin_sub, bin_mul, bin_eql, bin_neq, bin_lss, bin_leq, bin_gtr, bin_geq, un_not, un_neg, pick_true, pick_false, extract_two_0, extract_two_1, nilCheck_pointer, cond_true', cond_false', guard_tt, guard_ff, guard_tf, guard_ft, guard_undef, seqQ_normal, seqQ_ret, seqQ_exit, blockQ_ret, blockQ_normal, blockQ_exit, bodyQ_ret, bodyQ_normal, resK_nil, resK_tmp, ite_T, ite_F, upd_at, add_plain, add_zero', len22, len35, len48, fa37_0, fa37_1, fa37_2, fa77_0, fa77_1, fa103_0, fa103_1, fa111_0, fa111_1, fa143_0, fa143_1, fa143_2, fa143_3, fa175_0, fa175_1, fa175_2, fa125_0, fa125_1, fa125_2, fa125_3, fa125_4, Nat.reduceEqDiff]
    rw [i64_of (by omega) (by omega)]
    exact hN2 _ _ hal ⟨hal, rfl, hrest⟩
  simp only [a59, a11, a3', bin_add, bin_sub, bin_mul, bin_eql, bin_neq, bin_lss, bin_leq, bin_gtr, bin_geq, un_not, un_neg, pick_true, pick_false, extract_two_0, extract_two_1, nilCheck_pointer, cond_true', cond_false', guard_tt, guard_ff, guard_tf, guard_ft, guard_undef, seqQ_normal, seqQ_ret, seqQ_exit, blockQ_ret, blockQ_normal, blockQ_exit, bodyQ_ret, bodyQ_normal, resK_nil, resK_tmp, ite_T, ite_F, upd_at, add_plain, add_zero', len22, len35, len48, fa37_0, fa37_1, fa37_2, fa77_0, fa77_1, fa103_0, fa103_1, fa111_0, fa111_1, fa143_0, fa143_1, fa143_2, fa143_3, fa175_0, fa175_1, fa175_2, fa125_0, fa125_1, fa125_2, fa125_3, fa125_4, Nat.reduceEqDiff]
  have hreadT := readT H 2 rfl
  obtain ⟨tb1, tb2, tb3⟩ := hreadT.row a hal
  have hbl : (rgt tl a).length = n + 1 := der_len (hF.mem _ (rgt_mem hal))
  refine rdi (ixn48 hreadT.ptr hal) (rdi (ld22 tb1) ?_)
  have hlc : (toldL (topD gm ws) M n ++ (tl.take a).take r).length = (toldL (topD gm ws) M n).length + min r a := by
    rw [List.length_append, List.length_take, List.length_take]
    omega
  by_cases har : a < r
  case neg =>
    simp only [show ¬ (((toldL (topD gm ws) M n ++ (tl.take a).take r).length : Int) < (M : Int)) from by omega, decide_false, bin_add, bin_sub, bin_mul, bin_eql, bin_neq, bin_lss, bin_leq, bin_gtr, bin_geq, un_not, un_neg, pick_true, pick_false, extract_two_0, extract_two_1, nilCheck_pointer, cond_true', cond_false', guard_tt, guard_ff, guard_tf, guard_ft, guard_undef, seqQ_normal, seqQ_ret, seqQ_exit, blockQ_ret, blockQ_normal, blockQ_exit, bodyQ_ret, bodyQ_normal, resK_nil, resK_tmp, ite_T, ite_F, upd_at, add_plain, add_zero', len22, len35, len48, fa37_0, fa37_1, fa37_2, fa77_0, fa77_1, fa103_0, fa103_1, fa111_0, fa111_1, fa143_0, fa143_1, fa143_2, fa143_3, fa175_0, fa175_1, fa175_2, fa125_0, fa125_1, fa125_2, fa125_3, fa125_4, Nat.reduceEqDiff]
    rw [if_neg har] at hstep
    exact hK6 _ _ ⟨a61, a12, X2, c2, ps2, by rw [hstep]; exact a11, by rw [hstep]; exact H⟩
  simp only [show (((toldL (topD gm ws) M n ++ (tl.take a).take r).length : Int) < (M : Int)) from by omega, decide_true, bin_add, bin_sub, bin_mul, bin_eql, bin_neq, bin_lss, bin_leq, bin_gtr, bin_geq, un_not, un_neg, pick_true, pick_false, extract_two_0, extract_two_1, nilCheck_pointer, cond_true', cond_false', guard_tt, guard_ff, guard_tf, guard_ft, guard_undef, seqQ_normal, seqQ_ret, seqQ_exit, blockQ_ret, blockQ_normal, blockQ_exit, bodyQ_ret, bodyQ_normal, resK_nil, resK_tmp, ite_T, ite_F, upd_at, add_plain, add_zero', len22, len35, len48, fa37_0, fa37_1, fa37_2, fa77_0, fa77_1, fa103_0, fa103_1, fa111_0, fa111_1, fa143_0, fa143_1, fa143_2, fa143_3, fa175_0, fa175_1, fa175_2, fa125_0, fa125_1, fa125_2, fa125_3, fa125_4, Nat.reduceEqDiff]
  rw [if_pos har] at hstep
  refine do_build_of u22 inf3 (cells := []) (by decide) (by decide) (by simp [Instr.fill, madeCells]) rfl fun b6 w9 hb1 hb2 g6 hB6 hr6 => ?_
  have H := H.addOwn (xs := []) g6 (hr6 _ (Nat.le_refl _))
  simp only [List.nil_append, List.cons_append] at H
  refine apH H 4 rfl (((readT H 2 rfl).row a hal).2.2.is) rfl rfl (by simp; omega) fun X7 c7 w10 H => ?_
  simp only [List.set_cons_zero, List.set_cons_succ] at H
  refine pushSSH H 3 4 (by decide) rfl rfl rfl rfl (by omega) fun t8 X9 c9 w11 ps9 H => ?_
  simp only [List.set_cons_zero, List.set_cons_succ] at H
  have H := H.erase 4
  simp only [List.eraseIdx_cons_zero, List.eraseIdx_cons_succ] at H
  have e : toldL (topD gm ws) M n ++ (tl.take (a + 1)).take r = toldL (topD gm ws) M n ++ (tl.take a).take r ++ [[] ++ rgt tl a] := by
    rw [hstep, List.append_assoc]
    rfl
  refine hK6 _ _ ⟨a61, a12, X9, c9, ps9, ?_, ?_⟩
  · rw [e]
    rfl
  · rw [e]
    exact H
end Go.Proofs.Ytiohaeckagjebaa

/- The laws of TreesUpTo, over their contracts. -/
set_option linter.unusedVariables false
set_option linter.unusedSimpArgs false
set_option maxRecDepth 100000
namespace Go.Proofs.Ytiohaeckagjebaa
open Go Go.Sh Go.RowKit

set_option maxHeartbeats 2000000 in
theorem law_TreesUpTo {w : World} {v0 : Value} {g0 : Gram} {X1 : Option Addr} {c1 : Nat} {xs1 : List Int} {a2 : Int} {a3 : Int} (hv0 : GramV (fun q => q < w.heap.size) w v0 g0) (hx1 : Ints w X1 xs1) (hc1 : xs1.length ≤ c1) {k : Value → World → Prop} (hk : ∀ w', Gr w w' → k (.bool true) w') :
    CallK Try.prog 22 [v0, .slice X1 xs1.length c1, .int .i64 a2, .int .i64 a3] k w := by
  obtain ⟨Y0, d0, rfl, hd0, hy0⟩ := hv0
  refine enter22 ?_
  unfold S22
  have H := Apt.nil w
  refine boxH H fun b0 w1 H => ?_
  refine rdi len22 (rdi bin_gtr ?_)
  refine cond_split (fun _ => hk _ H.gr) fun h => ?_
  have hL1 : xs1.length ≤ 1048576 := by have := of_decide_eq_false h; omega
  refine rdi (ldB_agg agg31 sz31 rfl (H.box 0 rfl)) ?_
  refine szGrammar_c (gm := g0) ⟨Y0, d0, rfl, hd0, hy0.gr H.gr⟩ (by omega) (by omega) fun w2 g => ?_
  have H := H.step g
  refine rdi bin_lss ?_
  refine cond_split (fun _ => hk _ H.gr) fun h => ?_
  have hz0 := left_ok (of_decide_eq_false h)
  have hle0 := left_le (n := 1048576) (s := sizeR g0.rules) (by omega)
  have hp0 := of_decide_eq_false h
  have hlV : total (treesV g0 xs1 a2 a3).1 ≤ 1000000 := treesV_len _ _ _ _
  refine rdi (ldB_agg agg31 sz31 rfl (H.box 0 rfl)) ?_
  refine toGrammar_c (gm := g0) ⟨Y0, d0, rfl, hd0, hy0.gr H.gr⟩ (by omega) fun v w3 g oc => ?_
  obtain ⟨XC, cC, psC, rfl, oc⟩ := oc
  have H := H.addRules g oc
  refine toIntS_c (hx1.gr H.gr) rfl (by omega) fun XC cC w4 g oc => ?_
  have H := H.addOwn g oc
  simp only [List.nil_append, List.cons_append, List.set_cons_zero, List.set_cons_succ] at H
  refine specTreesUpTo_c (rls_gramV (gm := g0) (H.rules 1 rfl)) (H.ints 2 rfl) rfl fun w5 U dU psU g oU => ?_
  have H := H.addLss g oU
  refine rdi extract_two_0 (rdi extract_two_1 ?_)
  simp only [List.nil_append, List.cons_append, List.set_cons_zero, List.set_cons_succ] at H
  refine rdi (ldB_agg agg31 sz31 rfl (H.box 0 rfl)) ?_
  refine toGrammar_c (gm := g0) ⟨Y0, d0, rfl, hd0, hy0.gr H.gr⟩ (by omega) fun v w6 g oc => ?_
  obtain ⟨XC, cC, psC, rfl, oc⟩ := oc
  have H := H.addRules g oc
  refine allocH H inf37 fun bx0 w7 H => ?_
  refine storeH H 5 rfl sz37 rfl rfl rfl fun w8 H => ?_
  simp only [List.nil_append, List.cons_append, List.set_cons_zero, List.set_cons_succ] at H
  refine toIntS_c (hx1.gr H.gr) rfl (by omega) fun XC cC w9 g oc => ?_
  have H := H.addOwn g oc
  simp only [List.nil_append, List.cons_append, List.set_cons_zero, List.set_cons_succ] at H
  refine rdi (ldB_agg agg37 sz37 rfl (H.box 5 rfl)) ?_
  refine implTreesUpTo_c (rls_gramV (gm := g0) (H.rules 4 rfl)) (H.ints 6 rfl) rfl fun w10 U dU psU g oU => ?_
  have H := H.addLss g oU
  refine rdi extract_two_0 (rdi extract_two_1 ?_)
  simp only [List.nil_append, List.cons_append, List.set_cons_zero, List.set_cons_succ] at H
  refine eqIntSS_same (H.lssi 7 rfl).read (H.lssi 3 rfl).read fun w11 g => ?_
  have H := H.step g
  refine rdi un_not (rdi guard_ff (rdi guard_ff (rdi guard_ff (rdi bin_neq_same (rdi pick_false (rdi cond_false' ?_))))))
  have H := H.drew
  refine ⟨fun w' => Gr w11.drew w', Gr.refl _, ?_⟩
  refine rdi (rdG_agg agg37 sz37 rfl (H.box 5 rfl)) (rdi (rdG_agg agg31 sz31 rfl (H.box 0 rfl)) ?_)
  refine toGrammar_c (gm := g0) ⟨Y0, d0, rfl, hd0, hy0.gr H.gr⟩ (by omega) fun v w12 g oc => ?_
  refine ⟨g, ?_⟩
  have H := H.step g
  refine eqGrammar_same (rls_gramV (gm := g0) (H.rules 4 rfl)) oc.read fun w13 g => ?_
  have H := H.step g
  refine rdi un_not (rdi cond_false' ?_)
  refine toIntS_c (hx1.gr H.gr) rfl (by omega) fun XC cC w14 g oc => ?_
  have H := H.step g
  refine eqIntS_same (H.ints 6 rfl) (Own.ints oc) fun w15 g => ?_
  have H := H.step g
  refine rdi un_not (rdi cond_false' ?_)
  refine rdi (ldB_agg agg37 sz37 rfl (H.box 5 rfl)) ?_
  refine markGrammar_c (gm := g0) (H.rules 4 rfl) rfl (by omega) (by omega) fun w16 g om => ?_
  have H := H.setRules 4 rfl (markR_length _ g0.rules) g om
  simp only [List.nil_append, List.cons_append, List.set_cons_zero, List.set_cons_succ] at H
  refine markH H 6 rfl rfl (by omega) (by omega) fun w17 H => ?_
  simp only [List.nil_append, List.cons_append, List.set_cons_zero, List.set_cons_succ] at H
  refine rdi (bin_lss_false (by omega)) (rdi guard_ff (rdi guard_ff (rdi guard_ff ?_)))
  refine eqIntSS_same (H.lssi 7 rfl).read (H.lssi 3 rfl).read fun w18 g => ?_
  have H := H.step g
  refine rdi guard_ff (rdi un_not (rdi pick_false (rdi guard_ff (rdi guard_ff (rdi guard_ff (rdi bin_neq_same (rdi pick_false (rdi cond_false' ?_))))))))
  refine markSSH H 7 rfl rfl (by omega) (by omega) fun w19 H => ?_
  simp only [List.nil_append, List.cons_append, List.set_cons_zero, List.set_cons_succ] at H
  refine heldIntSS_c (H.lssi 7 rfl).read rfl (by omega) (by omega) fun w20 g => ?_
  have H := H.step g
  refine rdi (bin_lss_false (by omega)) (rdi cond_false' (rdi bin_neqi_same (rdi cond_false' ?_)))
  refine rdi (ldB_agg agg31 sz31 rfl (H.box 0 rfl)) ?_
  refine toGrammar_c (gm := g0) ⟨Y0, d0, rfl, hd0, hy0.gr H.gr⟩ (by omega) fun v w21 g oc => ?_
  obtain ⟨XC, cC, psC, rfl, oc⟩ := oc
  have H := H.addRules g oc
  refine toIntS_c (hx1.gr H.gr) rfl (by omega) fun XC cC w22 g oc => ?_
  have H := H.addOwn g oc
  simp only [List.nil_append, List.cons_append, List.set_cons_zero, List.set_cons_succ] at H
  refine implTreesUpTo_c (rls_gramV (gm := g0) (H.rules 8 rfl)) (H.ints 9 rfl) rfl fun w23 U dU psU g oU => ?_
  have H := H.addLss g oU
  refine rdi extract_two_0 (rdi extract_two_1 ?_)
  simp only [List.nil_append, List.cons_append, List.set_cons_zero, List.set_cons_succ] at H
  refine eqIntSS_same (H.lssi 10 rfl).read (H.lssi 3 rfl).read fun w24 g => ?_
  have H := H.step g
  refine rdi un_not (rdi guard_ff (rdi guard_ff (rdi guard_ff (rdi bin_neq_same (rdi pick_false (rdi cond_false' ?_))))))
  refine heldIntSS_c (H.lssi 7 rfl).read rfl (by omega) (by omega) fun w25 g => ?_
  have H := H.step g
  refine rdi (bin_lss_false (by omega)) (rdi cond_false' (rdi bin_neqi_same (rdi cond_false' ?_)))
  exact hk _ H.gr
end Go.Proofs.Ytiohaeckagjebaa

/- From the reading of arguments to what the contracts ask. -/
set_option linter.unusedVariables false
set_option linter.unusedSimpArgs false
set_option maxRecDepth 100000
namespace Go.Sh
open Go Go.ChangeShapes Go.WideShapes Go.ChangeAt Go.RowKit
theorem below_of_gr {w w' : World} (g : Gr w w') : Below w.heap.size w w' := ⟨g.os, g.tape, g.output, g.size, fun k hk => g.block k hk (by simp)⟩
/-- A law's walk, as its row asks for it. -/
theorem walk_of {P : Program} {g : FuncId} {args : List Value} {w : World} (h : ∀ k : Value → World → Prop, (∀ w', Gr w w' → k (.bool true) w') → CallK P g args k w) :
    Calls P g args.toArray w fun e w' => e = .returned (.bool true) ∧ Below w.heap.size w w' :=
  (h (fun v w' => v = .bool true ∧ Gr w w') (fun w' g => ⟨rfl, g⟩)).2.mono fun e w' he => by
    cases e with
    | returned v => exact ⟨by rw [he.1], below_of_gr he.2⟩
    | panicked c => exact he.elim
    | outgrown => exact he.elim

section
variable {H : Type} {enc : TypeId × Value → H} {P : Program} {w : World} {base : Nat} {spare : Nat → Bool} {held : Bool}
theorem read_ints {t e : TypeId} (ht : P.underlying t = some (.slice e)) (he : P.underlying e = some (.int .i64)) (hc : P.cellsOf e = 1) {fuel : Nat} {cs : List Value} {x : DataW H × List MemPlace}
    (h : DataW.trod enc P w base spare held fuel t cs = some x) : ∃ X n c xs, cs = [.slice X n c] ∧ n = xs.length ∧ n ≤ c ∧ Ints w X xs := by
  rcases open_ints ht he hc h with ⟨hcs, _⟩ | ⟨a, l, c, zs, hcs, _, hl, hm, hz, _, hcell, hwz⟩
  · exact ⟨none, 0, 0, [], hcs, rfl, Nat.le_refl _, by simp, fun h => by simp at h, fun j hj => by simp at hj⟩
  · have hzl : l ≤ zs.length := by rw [hz]; split <;> omega
    refine ⟨some a, l, c, zs.take l, hcs, by simp; omega, hl, ?_, fun _ => rfl, fun j hj => ?_⟩
    · unfold maxLen at hm
      simp
      omega
    · have hj' : j < l ∧ j < zs.length := by simp at hj; omega
      rw [show (ad (some a)).add j = a.add j from rfl, hcell j hj'.2]
      simp [List.getD_eq_getElem?_getD, List.getElem?_take, hj'.1]
theorem trod_ints {t e : TypeId} {v : Value} {d : DataW H} {p : List MemPlace} (ht : P.underlying t = some (.slice e)) (he : P.underlying e = some (.int .i64)) (hc : P.cellsOf e = 1)
    (h : DataW.Trod enc P w base spare held t v d p) : ∃ X n c xs, v.cells.toList = [.slice X n c] ∧ n = xs.length ∧ n ≤ c ∧ Ints w X xs := by
  obtain ⟨fuel, hf⟩ := h
  exact read_ints ht he hc hf
end
end Go.Sh

/- From the reading of a grammar among the arguments to what the contracts ask. -/
set_option linter.unusedVariables false
set_option linter.unusedSimpArgs false
set_option maxRecDepth 100000
namespace Go.Sh
open Go Go.ChangeShapes Go.WideShapes Go.ChangeAt Go.RowKit Go.Deep
section
variable {H : Type} {enc : TypeId × Value → H} {P : Program} {w : World} {base : Nat} {spare : Nat → Bool} {held : Bool}
theorem read_rules {t e ti : TypeId} {f0 f1 : Field} (ht : P.underlying t = some (.slice e)) (he : P.underlying e = some (.struct #[f0, f1])) (ce : P.cellsOf e = 2) (o0 : f0.offset = 0) (o1 : f1.offset = 1) (c0 : P.cellsOf f0.type = 1) (c1 : P.cellsOf f1.type = 1)
    (h0 : P.underlying f0.type = some (.int .i64)) (h1 : P.underlying f1.type = some (.slice ti)) (hti : P.underlying ti = some (.int .i64)) (hci : P.cellsOf ti = 1) {fuel : Nat} {cs : List Value} {x : DataW H × List MemPlace}
    (h : DataW.trod enc P w base spare held fuel t cs = some x) : ∃ X c rs, cs = [.slice X (List.length rs) c] ∧ rs.length ≤ c ∧ RulesF (fun b => b < w.heap.size) w X rs := by
  rcases open_slice_pairs ht he ce o0 o1 c0 c1 h with ⟨hcs, _⟩ | ⟨a, len, cap, m, n, V0, V1, D0, D1, P0, P1, rfl, hb, hl, hm, hmm, _, hx⟩
  · exact ⟨none, 0, [], hcs, Nat.le_refl _, by simp, fun h => by simp at h, fun h => by simp at h, fun j hj => by simp at hj⟩
  have hlm : len ≤ m := by rw [hmm]; split <;> omega
  have each : ∀ i, i < len → ∃ q : RuleL × Option Addr × Nat, V0 i = .int .i64 q.1.1 ∧ V1 i = .slice q.2.1 q.1.2.length q.2.2 ∧ q.1.2.length ≤ q.2.2 ∧ Ints w q.2.1 q.1.2 := fun i hi => by
    obtain ⟨_, _, t0, t1⟩ := hx i (by omega)
    obtain ⟨k, hk, _, _⟩ := DataW.trod_int h0 t0
    obtain ⟨X, n, c, xs, hcs, rfl, hn, hix⟩ := read_ints h1 hti hci t1
    simp only [List.cons.injEq, and_true] at hk hcs
    exact ⟨((k, xs), X, c), hk, hcs, hn, hix⟩
  obtain ⟨q, hq⟩ := choose_lt each
  have hr : ∀ j, j < len → rul ((List.range len).map fun i => (q i).1) j = (q j).1 := fun j hj => by
    rw [rul_eq (by simpa using hj)]
    simp
  refine ⟨some a, cap, (List.range len).map fun i => (q i).1, by simp, by simpa using hl, by unfold maxLen at hm; simp; omega, fun _ => rfl, fun hp => ?_, fun j hj => ?_⟩
  · have := lt_of_cell (hx 0 (by simp at hp; omega)).1
    rwa [add_block] at this
  · have hj' : j < len := by simpa using hj
    rw [hr j hj']
    obtain ⟨e0, e1, _, _⟩ := hx j (by omega)
    obtain ⟨q0, q1, q2, q3⟩ := hq j hj'
    exact ⟨_, _, e0.trans (by rw [q0]), e1.trans (by rw [q1]), q2, IntsF.of_ints q3⟩
end
end Go.Sh
namespace Go.Proofs.Ytiohaeckagjebaa
open Go Go.Sh Go.ChangeShapes Go.WideShapes Go.ChangeAt Go.RowKit Go.Deep
theorem cells3 : Try.prog.cellsOf 3 = 1 := by kernel_rfl
theorem cells22 : Try.prog.cellsOf 22 = 1 := by kernel_rfl
theorem cells29 : Try.prog.cellsOf 29 = 1 := by kernel_rfl
theorem cells148 : Try.prog.cellsOf 148 = 2 := by kernel_rfl
theorem read_gram {H : Type} {enc : TypeId × Value → H} {w : World} {base b0 : Nat} {spare : Nat → Bool} {held : Bool} {r : Reach} {v : Value} {d : DataW H} {p : List MemPlace} (hval : Value.okWide Try.prog w r b0 31 v)
    (h : DataW.Trod enc Try.prog w base spare held 31 v d p) : ∃ g, GramV (fun b => b < w.heap.size) w v g := by
  obtain ⟨cs, rfl, hsz⟩ := okWide_struct Try.underlying31 hval
  obtain ⟨fuel, hf⟩ := h
  obtain ⟨y0, y1, y2, n, _, hl, t0, t1, t2⟩ := trod_struct3 Try.underlying31 hf
  have hc3 : Try.prog.cellsOf 31 = 3 := by kernel_rfl
  rw [hc3] at hl hsz
  obtain ⟨l⟩ := cs
  match l, hsz with
  | [u0, u1, u2], _ =>
    have ec : (Value.agg #[u0, u1, u2]).cells.toList = [u0, u1, u2] := rfl
    simp only [ec, cells3, cells29, List.drop, List.take] at t0 t1 t2
    obtain ⟨k0, e0, _, _⟩ := DataW.trod_int Try.underlying3 t0
    obtain ⟨k1, e1, _, _⟩ := DataW.trod_int Try.underlying3 t1
    obtain ⟨X, c, rs, e2, hc, hr⟩ := read_rules Try.underlying29 Try.underlying148 cells148 rfl rfl cells3 cells22 Try.underlying3 Try.underlying22 Try.underlying3 cells3 t2
    simp only [List.cons.injEq, and_true] at e0 e1 e2
    subst e0 e1 e2
    exact ⟨⟨k0, k1, rs⟩, X, c, rfl, hc, hr⟩
end Go.Proofs.Ytiohaeckagjebaa

/- Facts of the program alone, that each row asks for: its init order's words, and that it is laid out. -/
set_option maxRecDepth 100000
namespace Go.Proofs.Ytiohaeckagjebaa
open Go
theorem make_of {P : Program} {W : List (List Char)} {c : List Char} {rest : List (List Char)} (h : behindMainWord (wordsSigns P.initOrder.toList) = W) (hW : W = c :: rest) (hc : (c == "gc".toList || c == "spec".toList) = false) (h2 : (c == "cut".toList) = true) : P.make = some .cut := by
  unfold Program.make
  rw [h, hW]
  dsimp only
  rw [if_neg (by rw [hc]; exact Bool.false_ne_true), if_pos (by rw [h2]; rfl)]
theorem lifts_of {P : Program} {W : List (List Char)} (h : behindMainWord (wordsSigns P.initOrder.toList) = W) (h1 : (W.head? == some "carried".toList) = false) (h2 : (stripLifts liftWords W).1.contains "finals" = false) : P.liftsFinal = false := by
  unfold Program.liftsFinal Program.headLifts
  rw [h]
  simp only [h1, Bool.false_and, Bool.false_or]
  split
  · exact h2
  · rfl
theorem may_of {P : Program} {W : List (List Char)} {c : List Char} {rest : List (List Char)} {l : List String} (h : behindMainWord (wordsSigns P.initOrder.toList) = W) (hW : W = c :: rest) (hl : P.laysLater = false) (hb : P.bearsReflect = false) (hs : stripLifts liftWords (c :: rest) = (l, c :: rest)) (h2 : (c == "cut".toList) = true) (h3 : l.contains "leanrows" = false) (hd : P.doorFits l = true) : P.mayEnter = true := by
  unfold Program.mayEnter
  rw [h, hW]
  have h4 : (some c == some "cut".toList) = true := h2
  simp only [hs, hl, hb, h3, hd, h4, List.head?_cons, Bool.not_false, Bool.and_true, Bool.or_true]
def signs : List Char := Char.ofNat 104 :: Char.ofNat 97 :: Char.ofNat 114 :: Char.ofNat 110 :: Char.ofNat 101 :: Char.ofNat 115 :: Char.ofNat 115 :: Char.ofNat 32 :: Char.ofNat 50 :: Char.ofNat 50 :: Char.ofNat 97 :: Char.ofNat 48 :: Char.ofNat 55 :: Char.ofNat 100 :: Char.ofNat 52 :: Char.ofNat 52 :: Char.ofNat 51 :: Char.ofNat 99 :: Char.ofNat 52 :: Char.ofNat 99 :: Char.ofNat 53 :: Char.ofNat 57 :: Char.ofNat 54 :: Char.ofNat 50 :: Char.ofNat 49 :: Char.ofNat 50 :: Char.ofNat 49 :: Char.ofNat 99 :: Char.ofNat 52 :: Char.ofNat 98 :: Char.ofNat 51 :: Char.ofNat 97 :: Char.ofNat 53 :: Char.ofNat 52 :: Char.ofNat 51 :: Char.ofNat 97 :: Char.ofNat 54 :: Char.ofNat 50 :: Char.ofNat 49 :: Char.ofNat 56 :: Char.ofNat 53 :: Char.ofNat 48 :: Char.ofNat 99 :: Char.ofNat 52 :: Char.ofNat 54 :: Char.ofNat 53 :: Char.ofNat 54 :: Char.ofNat 102 :: Char.ofNat 53 :: Char.ofNat 98 :: Char.ofNat 52 :: Char.ofNat 55 :: Char.ofNat 100 :: Char.ofNat 102 :: Char.ofNat 97 :: Char.ofNat 102 :: Char.ofNat 53 :: Char.ofNat 102 :: Char.ofNat 50 :: Char.ofNat 55 :: Char.ofNat 51 :: Char.ofNat 57 :: Char.ofNat 97 :: Char.ofNat 52 :: Char.ofNat 102 :: Char.ofNat 52 :: Char.ofNat 51 :: Char.ofNat 50 :: Char.ofNat 48 :: Char.ofNat 98 :: Char.ofNat 97 :: Char.ofNat 52 :: Char.ofNat 32 :: Char.ofNat 99 :: Char.ofNat 117 :: Char.ofNat 116 :: Char.ofNat 32 :: Char.ofNat 97 :: Char.ofNat 116 :: Char.ofNat 32 :: Char.ofNat 108 :: Char.ofNat 111 :: Char.ofNat 111 :: Char.ofNat 112 :: Char.ofNat 46 :: Char.ofNat 101 :: Char.ofNat 120 :: Char.ofNat 97 :: Char.ofNat 109 :: Char.ofNat 112 :: Char.ofNat 108 :: Char.ofNat 101 :: Char.ofNat 47 :: Char.ofNat 103 :: Char.ofNat 48 :: Char.ofNat 48 :: Char.ofNat 55 :: Char.ofNat 53 :: Char.ofNat 56 :: Char.ofNat 47 :: Char.ofNat 108 :: Char.ofNat 97 :: Char.ofNat 119 :: Char.ofNat 115 :: Char.ofNat 46 :: Char.ofNat 70 :: Char.ofNat 110 :: Char.ofNat 69 :: Char.ofNat 120 :: Char.ofNat 97 :: Char.ofNat 99 :: Char.ofNat 116 :: Char.ofNat 80 :: Char.ofNat 117 :: Char.ofNat 109 :: Char.ofNat 112 :: Char.ofNat 87 :: Char.ofNat 111 :: Char.ofNat 114 :: Char.ofNat 100 :: Char.ofNat 32 :: Char.ofNat 108 :: Char.ofNat 111 :: Char.ofNat 111 :: Char.ofNat 112 :: Char.ofNat 46 :: Char.ofNat 101 :: Char.ofNat 120 :: Char.ofNat 97 :: Char.ofNat 109 :: Char.ofNat 112 :: Char.ofNat 108 :: Char.ofNat 101 :: Char.ofNat 47 :: Char.ofNat 103 :: Char.ofNat 48 :: Char.ofNat 48 :: Char.ofNat 55 :: Char.ofNat 53 :: Char.ofNat 56 :: Char.ofNat 47 :: Char.ofNat 108 :: Char.ofNat 97 :: Char.ofNat 119 :: Char.ofNat 115 :: Char.ofNat 46 :: Char.ofNat 70 :: Char.ofNat 110 :: Char.ofNat 69 :: Char.ofNat 120 :: Char.ofNat 97 :: Char.ofNat 99 :: Char.ofNat 116 :: Char.ofNat 76 :: Char.ofNat 111 :: Char.ofNat 110 :: Char.ofNat 103 :: Char.ofNat 69 :: Char.ofNat 110 :: Char.ofNat 111 :: Char.ofNat 117 :: Char.ofNat 103 :: Char.ofNat 104 :: Char.ofNat 32 :: Char.ofNat 108 :: Char.ofNat 111 :: Char.ofNat 111 :: Char.ofNat 112 :: Char.ofNat 46 :: Char.ofNat 101 :: Char.ofNat 120 :: Char.ofNat 97 :: Char.ofNat 109 :: Char.ofNat 112 :: Char.ofNat 108 :: Char.ofNat 101 :: Char.ofNat 47 :: Char.ofNat 103 :: Char.ofNat 48 :: Char.ofNat 48 :: Char.ofNat 55 :: Char.ofNat 53 :: Char.ofNat 56 :: Char.ofNat 47 :: Char.ofNat 108 :: Char.ofNat 97 :: Char.ofNat 119 :: Char.ofNat 115 :: Char.ofNat 46 :: Char.ofNat 70 :: Char.ofNat 110 :: Char.ofNat 69 :: Char.ofNat 120 :: Char.ofNat 97 :: Char.ofNat 99 :: Char.ofNat 116 :: Char.ofNat 83 :: Char.ofNat 116 :: Char.ofNat 97 :: Char.ofNat 114 :: Char.ofNat 79 :: Char.ofNat 102 :: Char.ofNat 32 :: Char.ofNat 108 :: Char.ofNat 111 :: Char.ofNat 111 :: Char.ofNat 112 :: Char.ofNat 46 :: Char.ofNat 101 :: Char.ofNat 120 :: Char.ofNat 97 :: Char.ofNat 109 :: Char.ofNat 112 :: Char.ofNat 108 :: Char.ofNat 101 :: Char.ofNat 47 :: Char.ofNat 103 :: Char.ofNat 48 :: Char.ofNat 48 :: Char.ofNat 55 :: Char.ofNat 53 :: Char.ofNat 56 :: Char.ofNat 47 :: Char.ofNat 108 :: Char.ofNat 97 :: Char.ofNat 119 :: Char.ofNat 115 :: Char.ofNat 46 :: Char.ofNat 70 :: Char.ofNat 110 :: Char.ofNat 69 :: Char.ofNat 120 :: Char.ofNat 97 :: Char.ofNat 99 :: Char.ofNat 116 :: Char.ofNat 74 :: Char.ofNat 111 :: Char.ofNat 105 :: Char.ofNat 110 :: Char.ofNat 79 :: Char.ofNat 102 :: Char.ofNat 32 :: Char.ofNat 108 :: Char.ofNat 111 :: Char.ofNat 111 :: Char.ofNat 112 :: Char.ofNat 46 :: Char.ofNat 101 :: Char.ofNat 120 :: Char.ofNat 97 :: Char.ofNat 109 :: Char.ofNat 112 :: Char.ofNat 108 :: Char.ofNat 101 :: Char.ofNat 47 :: Char.ofNat 103 :: Char.ofNat 48 :: Char.ofNat 48 :: Char.ofNat 55 :: Char.ofNat 53 :: Char.ofNat 56 :: Char.ofNat 47 :: Char.ofNat 108 :: Char.ofNat 97 :: Char.ofNat 119 :: Char.ofNat 115 :: Char.ofNat 46 :: Char.ofNat 70 :: Char.ofNat 110 :: Char.ofNat 69 :: Char.ofNat 120 :: Char.ofNat 97 :: Char.ofNat 99 :: Char.ofNat 116 :: Char.ofNat 85 :: Char.ofNat 110 :: Char.ofNat 105 :: Char.ofNat 111 :: Char.ofNat 110 :: Char.ofNat 79 :: Char.ofNat 102 :: Char.ofNat 32 :: Char.ofNat 108 :: Char.ofNat 111 :: Char.ofNat 111 :: Char.ofNat 112 :: Char.ofNat 46 :: Char.ofNat 101 :: Char.ofNat 120 :: Char.ofNat 97 :: Char.ofNat 109 :: Char.ofNat 112 :: Char.ofNat 108 :: Char.ofNat 101 :: Char.ofNat 47 :: Char.ofNat 103 :: Char.ofNat 48 :: Char.ofNat 48 :: Char.ofNat 55 :: Char.ofNat 53 :: Char.ofNat 56 :: Char.ofNat 47 :: Char.ofNat 108 :: Char.ofNat 97 :: Char.ofNat 119 :: Char.ofNat 115 :: Char.ofNat 46 :: Char.ofNat 70 :: Char.ofNat 110 :: Char.ofNat 69 :: Char.ofNat 120 :: Char.ofNat 97 :: Char.ofNat 99 :: Char.ofNat 116 :: Char.ofNat 80 :: Char.ofNat 117 :: Char.ofNat 109 :: Char.ofNat 112 :: Char.ofNat 79 :: Char.ofNat 102 :: Char.ofNat 32 :: Char.ofNat 108 :: Char.ofNat 111 :: Char.ofNat 111 :: Char.ofNat 112 :: Char.ofNat 46 :: Char.ofNat 101 :: Char.ofNat 120 :: Char.ofNat 97 :: Char.ofNat 109 :: Char.ofNat 112 :: Char.ofNat 108 :: Char.ofNat 101 :: Char.ofNat 47 :: Char.ofNat 103 :: Char.ofNat 48 :: Char.ofNat 48 :: Char.ofNat 55 :: Char.ofNat 53 :: Char.ofNat 56 :: Char.ofNat 47 :: Char.ofNat 108 :: Char.ofNat 97 :: Char.ofNat 119 :: Char.ofNat 115 :: Char.ofNat 46 :: Char.ofNat 70 :: Char.ofNat 110 :: Char.ofNat 69 :: Char.ofNat 120 :: Char.ofNat 97 :: Char.ofNat 99 :: Char.ofNat 116 :: Char.ofNat 80 :: Char.ofNat 97 :: Char.ofNat 116 :: Char.ofNat 104 :: Char.ofNat 73 :: Char.ofNat 110 :: Char.ofNat 32 :: Char.ofNat 108 :: Char.ofNat 111 :: Char.ofNat 111 :: Char.ofNat 112 :: Char.ofNat 46 :: Char.ofNat 101 :: Char.ofNat 120 :: Char.ofNat 97 :: Char.ofNat 109 :: Char.ofNat 112 :: Char.ofNat 108 :: Char.ofNat 101 :: Char.ofNat 47 :: Char.ofNat 103 :: Char.ofNat 48 :: Char.ofNat 48 :: Char.ofNat 55 :: Char.ofNat 53 :: Char.ofNat 56 :: Char.ofNat 47 :: Char.ofNat 108 :: Char.ofNat 97 :: Char.ofNat 119 :: Char.ofNat 115 :: Char.ofNat 46 :: Char.ofNat 70 :: Char.ofNat 110 :: Char.ofNat 69 :: Char.ofNat 120 :: Char.ofNat 97 :: Char.ofNat 99 :: Char.ofNat 116 :: Char.ofNat 76 :: Char.ofNat 101 :: Char.ofNat 97 :: Char.ofNat 115 :: Char.ofNat 116 :: Char.ofNat 77 :: Char.ofNat 101 :: Char.ofNat 110 :: Char.ofNat 100 :: Char.ofNat 32 :: Char.ofNat 108 :: Char.ofNat 111 :: Char.ofNat 111 :: Char.ofNat 112 :: Char.ofNat 46 :: Char.ofNat 101 :: Char.ofNat 120 :: Char.ofNat 97 :: Char.ofNat 109 :: Char.ofNat 112 :: Char.ofNat 108 :: Char.ofNat 101 :: Char.ofNat 47 :: Char.ofNat 103 :: Char.ofNat 48 :: Char.ofNat 48 :: Char.ofNat 55 :: Char.ofNat 53 :: Char.ofNat 56 :: Char.ofNat 47 :: Char.ofNat 108 :: Char.ofNat 97 :: Char.ofNat 119 :: Char.ofNat 115 :: Char.ofNat 46 :: Char.ofNat 70 :: Char.ofNat 110 :: Char.ofNat 69 :: Char.ofNat 120 :: Char.ofNat 97 :: Char.ofNat 99 :: Char.ofNat 116 :: Char.ofNat 73 :: Char.ofNat 115 :: Char.ofNat 80 :: Char.ofNat 117 :: Char.ofNat 109 :: Char.ofNat 112 :: Char.ofNat 32 :: Char.ofNat 108 :: Char.ofNat 111 :: Char.ofNat 111 :: Char.ofNat 112 :: Char.ofNat 46 :: Char.ofNat 101 :: Char.ofNat 120 :: Char.ofNat 97 :: Char.ofNat 109 :: Char.ofNat 112 :: Char.ofNat 108 :: Char.ofNat 101 :: Char.ofNat 47 :: Char.ofNat 103 :: Char.ofNat 48 :: Char.ofNat 48 :: Char.ofNat 55 :: Char.ofNat 53 :: Char.ofNat 56 :: Char.ofNat 47 :: Char.ofNat 108 :: Char.ofNat 97 :: Char.ofNat 119 :: Char.ofNat 115 :: Char.ofNat 46 :: Char.ofNat 70 :: Char.ofNat 110 :: Char.ofNat 69 :: Char.ofNat 120 :: Char.ofNat 97 :: Char.ofNat 99 :: Char.ofNat 116 :: Char.ofNat 67 :: Char.ofNat 111 :: Char.ofNat 117 :: Char.ofNat 110 :: Char.ofNat 116 :: Char.ofNat 66 :: Char.ofNat 121 :: Char.ofNat 76 :: Char.ofNat 111 :: Char.ofNat 110 :: Char.ofNat 103 :: Char.ofNat 32 :: Char.ofNat 108 :: Char.ofNat 111 :: Char.ofNat 111 :: Char.ofNat 112 :: Char.ofNat 46 :: Char.ofNat 101 :: Char.ofNat 120 :: Char.ofNat 97 :: Char.ofNat 109 :: Char.ofNat 112 :: Char.ofNat 108 :: Char.ofNat 101 :: Char.ofNat 47 :: Char.ofNat 103 :: Char.ofNat 48 :: Char.ofNat 48 :: Char.ofNat 55 :: Char.ofNat 53 :: Char.ofNat 56 :: Char.ofNat 47 :: Char.ofNat 108 :: Char.ofNat 97 :: Char.ofNat 119 :: Char.ofNat 115 :: Char.ofNat 46 :: Char.ofNat 70 :: Char.ofNat 110 :: Char.ofNat 69 :: Char.ofNat 120 :: Char.ofNat 97 :: Char.ofNat 99 :: Char.ofNat 116 :: Char.ofNat 83 :: Char.ofNat 97 :: Char.ofNat 109 :: Char.ofNat 101 :: Char.ofNat 85 :: Char.ofNat 112 :: Char.ofNat 84 :: Char.ofNat 111 :: Char.ofNat 32 :: Char.ofNat 108 :: Char.ofNat 111 :: Char.ofNat 111 :: Char.ofNat 112 :: Char.ofNat 46 :: Char.ofNat 101 :: Char.ofNat 120 :: Char.ofNat 97 :: Char.ofNat 109 :: Char.ofNat 112 :: Char.ofNat 108 :: Char.ofNat 101 :: Char.ofNat 47 :: Char.ofNat 103 :: Char.ofNat 48 :: Char.ofNat 48 :: Char.ofNat 55 :: Char.ofNat 53 :: Char.ofNat 56 :: Char.ofNat 47 :: Char.ofNat 108 :: Char.ofNat 97 :: Char.ofNat 119 :: Char.ofNat 115 :: Char.ofNat 46 :: Char.ofNat 70 :: Char.ofNat 110 :: Char.ofNat 69 :: Char.ofNat 120 :: Char.ofNat 97 :: Char.ofNat 99 :: Char.ofNat 116 :: Char.ofNat 67 :: Char.ofNat 111 :: Char.ofNat 115 :: Char.ofNat 116 :: Char.ofNat 84 :: Char.ofNat 97 :: Char.ofNat 98 :: Char.ofNat 108 :: Char.ofNat 101 :: Char.ofNat 32 :: Char.ofNat 108 :: Char.ofNat 111 :: Char.ofNat 111 :: Char.ofNat 112 :: Char.ofNat 46 :: Char.ofNat 101 :: Char.ofNat 120 :: Char.ofNat 97 :: Char.ofNat 109 :: Char.ofNat 112 :: Char.ofNat 108 :: Char.ofNat 101 :: Char.ofNat 47 :: Char.ofNat 103 :: Char.ofNat 48 :: Char.ofNat 48 :: Char.ofNat 55 :: Char.ofNat 53 :: Char.ofNat 56 :: Char.ofNat 47 :: Char.ofNat 108 :: Char.ofNat 97 :: Char.ofNat 119 :: Char.ofNat 115 :: Char.ofNat 46 :: Char.ofNat 70 :: Char.ofNat 110 :: Char.ofNat 69 :: Char.ofNat 120 :: Char.ofNat 97 :: Char.ofNat 99 :: Char.ofNat 116 :: Char.ofNat 80 :: Char.ofNat 117 :: Char.ofNat 109 :: Char.ofNat 112 :: Char.ofNat 84 :: Char.ofNat 114 :: Char.ofNat 101 :: Char.ofNat 101 :: Char.ofNat 32 :: Char.ofNat 108 :: Char.ofNat 111 :: Char.ofNat 111 :: Char.ofNat 112 :: Char.ofNat 46 :: Char.ofNat 101 :: Char.ofNat 120 :: Char.ofNat 97 :: Char.ofNat 109 :: Char.ofNat 112 :: Char.ofNat 108 :: Char.ofNat 101 :: Char.ofNat 47 :: Char.ofNat 103 :: Char.ofNat 48 :: Char.ofNat 48 :: Char.ofNat 55 :: Char.ofNat 53 :: Char.ofNat 56 :: Char.ofNat 47 :: Char.ofNat 108 :: Char.ofNat 97 :: Char.ofNat 119 :: Char.ofNat 115 :: Char.ofNat 46 :: Char.ofNat 70 :: Char.ofNat 110 :: Char.ofNat 69 :: Char.ofNat 120 :: Char.ofNat 97 :: Char.ofNat 99 :: Char.ofNat 116 :: Char.ofNat 67 :: Char.ofNat 111 :: Char.ofNat 117 :: Char.ofNat 110 :: Char.ofNat 116 :: Char.ofNat 83 :: Char.ofNat 105 :: Char.ofNat 122 :: Char.ofNat 101 :: Char.ofNat 100 :: Char.ofNat 32 :: Char.ofNat 108 :: Char.ofNat 111 :: Char.ofNat 111 :: Char.ofNat 112 :: Char.ofNat 46 :: Char.ofNat 101 :: Char.ofNat 120 :: Char.ofNat 97 :: Char.ofNat 109 :: Char.ofNat 112 :: Char.ofNat 108 :: Char.ofNat 101 :: Char.ofNat 47 :: Char.ofNat 103 :: Char.ofNat 48 :: Char.ofNat 48 :: Char.ofNat 55 :: Char.ofNat 53 :: Char.ofNat 56 :: Char.ofNat 47 :: Char.ofNat 108 :: Char.ofNat 97 :: Char.ofNat 119 :: Char.ofNat 115 :: Char.ofNat 46 :: Char.ofNat 70 :: Char.ofNat 110 :: Char.ofNat 69 :: Char.ofNat 120 :: Char.ofNat 97 :: Char.ofNat 99 :: Char.ofNat 116 :: Char.ofNat 67 :: Char.ofNat 104 :: Char.ofNat 97 :: Char.ofNat 110 :: Char.ofNat 103 :: Char.ofNat 101 :: Char.ofNat 87 :: Char.ofNat 111 :: Char.ofNat 114 :: Char.ofNat 100 :: Char.ofNat 32 :: Char.ofNat 108 :: Char.ofNat 111 :: Char.ofNat 111 :: Char.ofNat 112 :: Char.ofNat 46 :: Char.ofNat 101 :: Char.ofNat 120 :: Char.ofNat 97 :: Char.ofNat 109 :: Char.ofNat 112 :: Char.ofNat 108 :: Char.ofNat 101 :: Char.ofNat 47 :: Char.ofNat 103 :: Char.ofNat 48 :: Char.ofNat 48 :: Char.ofNat 55 :: Char.ofNat 53 :: Char.ofNat 56 :: Char.ofNat 47 :: Char.ofNat 108 :: Char.ofNat 97 :: Char.ofNat 119 :: Char.ofNat 115 :: Char.ofNat 46 :: Char.ofNat 70 :: Char.ofNat 110 :: Char.ofNat 69 :: Char.ofNat 120 :: Char.ofNat 97 :: Char.ofNat 99 :: Char.ofNat 116 :: Char.ofNat 77 :: Char.ofNat 101 :: Char.ofNat 110 :: Char.ofNat 100 :: Char.ofNat 84 :: Char.ofNat 97 :: Char.ofNat 98 :: Char.ofNat 108 :: Char.ofNat 101 :: Char.ofNat 32 :: Char.ofNat 108 :: Char.ofNat 111 :: Char.ofNat 111 :: Char.ofNat 112 :: Char.ofNat 46 :: Char.ofNat 101 :: Char.ofNat 120 :: Char.ofNat 97 :: Char.ofNat 109 :: Char.ofNat 112 :: Char.ofNat 108 :: Char.ofNat 101 :: Char.ofNat 47 :: Char.ofNat 103 :: Char.ofNat 48 :: Char.ofNat 48 :: Char.ofNat 55 :: Char.ofNat 53 :: Char.ofNat 56 :: Char.ofNat 47 :: Char.ofNat 108 :: Char.ofNat 97 :: Char.ofNat 119 :: Char.ofNat 115 :: Char.ofNat 46 :: Char.ofNat 70 :: Char.ofNat 110 :: Char.ofNat 69 :: Char.ofNat 120 :: Char.ofNat 97 :: Char.ofNat 99 :: Char.ofNat 116 :: Char.ofNat 78 :: Char.ofNat 101 :: Char.ofNat 97 :: Char.ofNat 114 :: Char.ofNat 87 :: Char.ofNat 111 :: Char.ofNat 114 :: Char.ofNat 100 :: Char.ofNat 32 :: Char.ofNat 108 :: Char.ofNat 111 :: Char.ofNat 111 :: Char.ofNat 112 :: Char.ofNat 46 :: Char.ofNat 101 :: Char.ofNat 120 :: Char.ofNat 97 :: Char.ofNat 109 :: Char.ofNat 112 :: Char.ofNat 108 :: Char.ofNat 101 :: Char.ofNat 47 :: Char.ofNat 103 :: Char.ofNat 48 :: Char.ofNat 48 :: Char.ofNat 55 :: Char.ofNat 53 :: Char.ofNat 56 :: Char.ofNat 47 :: Char.ofNat 108 :: Char.ofNat 97 :: Char.ofNat 119 :: Char.ofNat 115 :: Char.ofNat 46 :: Char.ofNat 70 :: Char.ofNat 110 :: Char.ofNat 69 :: Char.ofNat 120 :: Char.ofNat 97 :: Char.ofNat 99 :: Char.ofNat 116 :: Char.ofNat 70 :: Char.ofNat 105 :: Char.ofNat 114 :: Char.ofNat 115 :: Char.ofNat 116 :: Char.ofNat 85 :: Char.ofNat 110 :: Char.ofNat 108 :: Char.ofNat 105 :: Char.ofNat 107 :: Char.ofNat 101 :: Char.ofNat 32 :: Char.ofNat 108 :: Char.ofNat 111 :: Char.ofNat 111 :: Char.ofNat 112 :: Char.ofNat 46 :: Char.ofNat 101 :: Char.ofNat 120 :: Char.ofNat 97 :: Char.ofNat 109 :: Char.ofNat 112 :: Char.ofNat 108 :: Char.ofNat 101 :: Char.ofNat 47 :: Char.ofNat 103 :: Char.ofNat 48 :: Char.ofNat 48 :: Char.ofNat 55 :: Char.ofNat 53 :: Char.ofNat 56 :: Char.ofNat 47 :: Char.ofNat 108 :: Char.ofNat 97 :: Char.ofNat 119 :: Char.ofNat 115 :: Char.ofNat 46 :: Char.ofNat 70 :: Char.ofNat 110 :: Char.ofNat 69 :: Char.ofNat 120 :: Char.ofNat 97 :: Char.ofNat 99 :: Char.ofNat 116 :: Char.ofNat 66 :: Char.ofNat 101 :: Char.ofNat 115 :: Char.ofNat 116 :: Char.ofNat 84 :: Char.ofNat 114 :: Char.ofNat 101 :: Char.ofNat 101 :: Char.ofNat 32 :: Char.ofNat 108 :: Char.ofNat 111 :: Char.ofNat 111 :: Char.ofNat 112 :: Char.ofNat 46 :: Char.ofNat 101 :: Char.ofNat 120 :: Char.ofNat 97 :: Char.ofNat 109 :: Char.ofNat 112 :: Char.ofNat 108 :: Char.ofNat 101 :: Char.ofNat 47 :: Char.ofNat 103 :: Char.ofNat 48 :: Char.ofNat 48 :: Char.ofNat 55 :: Char.ofNat 53 :: Char.ofNat 56 :: Char.ofNat 47 :: Char.ofNat 108 :: Char.ofNat 97 :: Char.ofNat 119 :: Char.ofNat 115 :: Char.ofNat 46 :: Char.ofNat 70 :: Char.ofNat 110 :: Char.ofNat 69 :: Char.ofNat 120 :: Char.ofNat 97 :: Char.ofNat 99 :: Char.ofNat 116 :: Char.ofNat 84 :: Char.ofNat 114 :: Char.ofNat 101 :: Char.ofNat 101 :: Char.ofNat 115 :: Char.ofNat 85 :: Char.ofNat 112 :: Char.ofNat 84 :: Char.ofNat 111 :: []
theorem io0 : Try.prog.initOrder = "harness 22a07d443c4c5962121c4b3a543a621850c4656f5b47dfaf5f2739a4f4320ba4 cut at loop.example/g00758/laws.FnExactPumpWord loop.example/g00758/laws.FnExactLongEnough loop.example/g00758/laws.FnExactStarOf loop.example/g00758/laws.FnExactJoinOf loop.example/g00758/laws.FnExactUnionOf loop.example/g00758/laws.FnExactPumpOf loop.example/g00758/laws.FnExactPathIn loop.example/g00758/laws.FnExactLeastMend loop.example/g00758/laws.FnExactIsPump loop.example/g00758/laws.FnExactCountByLong loop.example/g00758/laws.FnExactSameUpTo loop.example/g00758/laws.FnExactCostTable loop.example/g00758/laws.FnExactPumpTree loop.example/g00758/laws.FnExactCountSized loop.example/g00758/laws.FnExactChangeWord loop.example/g00758/laws.FnExactMendTable loop.example/g00758/laws.FnExactNearWord loop.example/g00758/laws.FnExactFirstUnlike loop.example/g00758/laws.FnExactBestTree loop.example/g00758/laws.FnExactTreesUpTo" := by kernel_rfl
theorem io1 : "harness 22a07d443c4c5962121c4b3a543a621850c4656f5b47dfaf5f2739a4f4320ba4 cut at loop.example/g00758/laws.FnExactPumpWord loop.example/g00758/laws.FnExactLongEnough loop.example/g00758/laws.FnExactStarOf loop.example/g00758/laws.FnExactJoinOf loop.example/g00758/laws.FnExactUnionOf loop.example/g00758/laws.FnExactPumpOf loop.example/g00758/laws.FnExactPathIn loop.example/g00758/laws.FnExactLeastMend loop.example/g00758/laws.FnExactIsPump loop.example/g00758/laws.FnExactCountByLong loop.example/g00758/laws.FnExactSameUpTo loop.example/g00758/laws.FnExactCostTable loop.example/g00758/laws.FnExactPumpTree loop.example/g00758/laws.FnExactCountSized loop.example/g00758/laws.FnExactChangeWord loop.example/g00758/laws.FnExactMendTable loop.example/g00758/laws.FnExactNearWord loop.example/g00758/laws.FnExactFirstUnlike loop.example/g00758/laws.FnExactBestTree loop.example/g00758/laws.FnExactTreesUpTo" = String.ofList (Char.ofNat 104 :: Char.ofNat 97 :: Char.ofNat 114 :: Char.ofNat 110 :: Char.ofNat 101 :: Char.ofNat 115 :: Char.ofNat 115 :: Char.ofNat 32 :: Char.ofNat 50 :: Char.ofNat 50 :: Char.ofNat 97 :: Char.ofNat 48 :: Char.ofNat 55 :: Char.ofNat 100 :: Char.ofNat 52 :: Char.ofNat 52 :: Char.ofNat 51 :: Char.ofNat 99 :: Char.ofNat 52 :: Char.ofNat 99 :: Char.ofNat 53 :: Char.ofNat 57 :: Char.ofNat 54 :: Char.ofNat 50 :: Char.ofNat 49 :: Char.ofNat 50 :: Char.ofNat 49 :: Char.ofNat 99 :: Char.ofNat 52 :: Char.ofNat 98 :: Char.ofNat 51 :: Char.ofNat 97 :: Char.ofNat 53 :: Char.ofNat 52 :: Char.ofNat 51 :: Char.ofNat 97 :: Char.ofNat 54 :: Char.ofNat 50 :: Char.ofNat 49 :: Char.ofNat 56 :: Char.ofNat 53 :: Char.ofNat 48 :: Char.ofNat 99 :: Char.ofNat 52 :: Char.ofNat 54 :: Char.ofNat 53 :: Char.ofNat 54 :: Char.ofNat 102 :: Char.ofNat 53 :: Char.ofNat 98 :: Char.ofNat 52 :: Char.ofNat 55 :: Char.ofNat 100 :: Char.ofNat 102 :: Char.ofNat 97 :: Char.ofNat 102 :: Char.ofNat 53 :: Char.ofNat 102 :: Char.ofNat 50 :: Char.ofNat 55 :: Char.ofNat 51 :: Char.ofNat 57 :: Char.ofNat 97 :: Char.ofNat 52 :: Char.ofNat 102 :: Char.ofNat 52 :: Char.ofNat 51 :: Char.ofNat 50 :: Char.ofNat 48 :: Char.ofNat 98 :: Char.ofNat 97 :: Char.ofNat 52 :: Char.ofNat 32 :: Char.ofNat 99 :: Char.ofNat 117 :: Char.ofNat 116 :: Char.ofNat 32 :: Char.ofNat 97 :: Char.ofNat 116 :: Char.ofNat 32 :: Char.ofNat 108 :: Char.ofNat 111 :: Char.ofNat 111 :: Char.ofNat 112 :: Char.ofNat 46 :: Char.ofNat 101 :: Char.ofNat 120 :: Char.ofNat 97 :: Char.ofNat 109 :: Char.ofNat 112 :: Char.ofNat 108 :: Char.ofNat 101 :: Char.ofNat 47 :: Char.ofNat 103 :: Char.ofNat 48 :: Char.ofNat 48 :: Char.ofNat 55 :: Char.ofNat 53 :: Char.ofNat 56 :: Char.ofNat 47 :: Char.ofNat 108 :: Char.ofNat 97 :: Char.ofNat 119 :: Char.ofNat 115 :: Char.ofNat 46 :: Char.ofNat 70 :: Char.ofNat 110 :: Char.ofNat 69 :: Char.ofNat 120 :: Char.ofNat 97 :: Char.ofNat 99 :: Char.ofNat 116 :: Char.ofNat 80 :: Char.ofNat 117 :: Char.ofNat 109 :: Char.ofNat 112 :: Char.ofNat 87 :: Char.ofNat 111 :: Char.ofNat 114 :: Char.ofNat 100 :: Char.ofNat 32 :: Char.ofNat 108 :: Char.ofNat 111 :: Char.ofNat 111 :: Char.ofNat 112 :: Char.ofNat 46 :: Char.ofNat 101 :: Char.ofNat 120 :: Char.ofNat 97 :: Char.ofNat 109 :: Char.ofNat 112 :: Char.ofNat 108 :: Char.ofNat 101 :: Char.ofNat 47 :: Char.ofNat 103 :: Char.ofNat 48 :: Char.ofNat 48 :: Char.ofNat 55 :: Char.ofNat 53 :: Char.ofNat 56 :: Char.ofNat 47 :: Char.ofNat 108 :: Char.ofNat 97 :: Char.ofNat 119 :: Char.ofNat 115 :: Char.ofNat 46 :: Char.ofNat 70 :: Char.ofNat 110 :: Char.ofNat 69 :: Char.ofNat 120 :: Char.ofNat 97 :: Char.ofNat 99 :: Char.ofNat 116 :: Char.ofNat 76 :: Char.ofNat 111 :: Char.ofNat 110 :: Char.ofNat 103 :: Char.ofNat 69 :: Char.ofNat 110 :: Char.ofNat 111 :: Char.ofNat 117 :: Char.ofNat 103 :: Char.ofNat 104 :: Char.ofNat 32 :: Char.ofNat 108 :: Char.ofNat 111 :: Char.ofNat 111 :: Char.ofNat 112 :: Char.ofNat 46 :: Char.ofNat 101 :: Char.ofNat 120 :: Char.ofNat 97 :: Char.ofNat 109 :: Char.ofNat 112 :: Char.ofNat 108 :: Char.ofNat 101 :: Char.ofNat 47 :: Char.ofNat 103 :: Char.ofNat 48 :: Char.ofNat 48 :: Char.ofNat 55 :: Char.ofNat 53 :: Char.ofNat 56 :: Char.ofNat 47 :: Char.ofNat 108 :: Char.ofNat 97 :: Char.ofNat 119 :: Char.ofNat 115 :: Char.ofNat 46 :: Char.ofNat 70 :: Char.ofNat 110 :: Char.ofNat 69 :: Char.ofNat 120 :: Char.ofNat 97 :: Char.ofNat 99 :: Char.ofNat 116 :: Char.ofNat 83 :: Char.ofNat 116 :: Char.ofNat 97 :: Char.ofNat 114 :: Char.ofNat 79 :: Char.ofNat 102 :: Char.ofNat 32 :: Char.ofNat 108 :: Char.ofNat 111 :: Char.ofNat 111 :: Char.ofNat 112 :: Char.ofNat 46 :: Char.ofNat 101 :: Char.ofNat 120 :: Char.ofNat 97 :: Char.ofNat 109 :: Char.ofNat 112 :: Char.ofNat 108 :: Char.ofNat 101 :: Char.ofNat 47 :: Char.ofNat 103 :: Char.ofNat 48 :: Char.ofNat 48 :: Char.ofNat 55 :: Char.ofNat 53 :: Char.ofNat 56 :: Char.ofNat 47 :: Char.ofNat 108 :: Char.ofNat 97 :: Char.ofNat 119 :: Char.ofNat 115 :: Char.ofNat 46 :: Char.ofNat 70 :: Char.ofNat 110 :: Char.ofNat 69 :: Char.ofNat 120 :: Char.ofNat 97 :: Char.ofNat 99 :: Char.ofNat 116 :: Char.ofNat 74 :: Char.ofNat 111 :: Char.ofNat 105 :: Char.ofNat 110 :: Char.ofNat 79 :: Char.ofNat 102 :: Char.ofNat 32 :: Char.ofNat 108 :: Char.ofNat 111 :: Char.ofNat 111 :: Char.ofNat 112 :: Char.ofNat 46 :: Char.ofNat 101 :: Char.ofNat 120 :: Char.ofNat 97 :: Char.ofNat 109 :: Char.ofNat 112 :: Char.ofNat 108 :: Char.ofNat 101 :: Char.ofNat 47 :: Char.ofNat 103 :: Char.ofNat 48 :: Char.ofNat 48 :: Char.ofNat 55 :: Char.ofNat 53 :: Char.ofNat 56 :: Char.ofNat 47 :: Char.ofNat 108 :: Char.ofNat 97 :: Char.ofNat 119 :: Char.ofNat 115 :: Char.ofNat 46 :: Char.ofNat 70 :: Char.ofNat 110 :: Char.ofNat 69 :: Char.ofNat 120 :: Char.ofNat 97 :: Char.ofNat 99 :: Char.ofNat 116 :: Char.ofNat 85 :: Char.ofNat 110 :: Char.ofNat 105 :: Char.ofNat 111 :: Char.ofNat 110 :: Char.ofNat 79 :: Char.ofNat 102 :: Char.ofNat 32 :: Char.ofNat 108 :: Char.ofNat 111 :: Char.ofNat 111 :: Char.ofNat 112 :: Char.ofNat 46 :: Char.ofNat 101 :: Char.ofNat 120 :: Char.ofNat 97 :: Char.ofNat 109 :: Char.ofNat 112 :: Char.ofNat 108 :: Char.ofNat 101 :: Char.ofNat 47 :: Char.ofNat 103 :: Char.ofNat 48 :: Char.ofNat 48 :: Char.ofNat 55 :: Char.ofNat 53 :: Char.ofNat 56 :: Char.ofNat 47 :: Char.ofNat 108 :: Char.ofNat 97 :: Char.ofNat 119 :: Char.ofNat 115 :: Char.ofNat 46 :: Char.ofNat 70 :: Char.ofNat 110 :: Char.ofNat 69 :: Char.ofNat 120 :: Char.ofNat 97 :: Char.ofNat 99 :: Char.ofNat 116 :: Char.ofNat 80 :: Char.ofNat 117 :: Char.ofNat 109 :: Char.ofNat 112 :: Char.ofNat 79 :: Char.ofNat 102 :: Char.ofNat 32 :: Char.ofNat 108 :: Char.ofNat 111 :: Char.ofNat 111 :: Char.ofNat 112 :: Char.ofNat 46 :: Char.ofNat 101 :: Char.ofNat 120 :: Char.ofNat 97 :: Char.ofNat 109 :: Char.ofNat 112 :: Char.ofNat 108 :: Char.ofNat 101 :: Char.ofNat 47 :: Char.ofNat 103 :: Char.ofNat 48 :: Char.ofNat 48 :: Char.ofNat 55 :: Char.ofNat 53 :: Char.ofNat 56 :: Char.ofNat 47 :: Char.ofNat 108 :: Char.ofNat 97 :: Char.ofNat 119 :: Char.ofNat 115 :: Char.ofNat 46 :: Char.ofNat 70 :: Char.ofNat 110 :: Char.ofNat 69 :: Char.ofNat 120 :: Char.ofNat 97 :: Char.ofNat 99 :: Char.ofNat 116 :: Char.ofNat 80 :: Char.ofNat 97 :: Char.ofNat 116 :: Char.ofNat 104 :: Char.ofNat 73 :: Char.ofNat 110 :: Char.ofNat 32 :: Char.ofNat 108 :: Char.ofNat 111 :: Char.ofNat 111 :: Char.ofNat 112 :: Char.ofNat 46 :: Char.ofNat 101 :: Char.ofNat 120 :: Char.ofNat 97 :: Char.ofNat 109 :: Char.ofNat 112 :: Char.ofNat 108 :: Char.ofNat 101 :: Char.ofNat 47 :: Char.ofNat 103 :: Char.ofNat 48 :: Char.ofNat 48 :: Char.ofNat 55 :: Char.ofNat 53 :: Char.ofNat 56 :: Char.ofNat 47 :: Char.ofNat 108 :: Char.ofNat 97 :: Char.ofNat 119 :: Char.ofNat 115 :: Char.ofNat 46 :: Char.ofNat 70 :: Char.ofNat 110 :: Char.ofNat 69 :: Char.ofNat 120 :: Char.ofNat 97 :: Char.ofNat 99 :: Char.ofNat 116 :: Char.ofNat 76 :: Char.ofNat 101 :: Char.ofNat 97 :: Char.ofNat 115 :: Char.ofNat 116 :: Char.ofNat 77 :: Char.ofNat 101 :: Char.ofNat 110 :: Char.ofNat 100 :: Char.ofNat 32 :: Char.ofNat 108 :: Char.ofNat 111 :: Char.ofNat 111 :: Char.ofNat 112 :: Char.ofNat 46 :: Char.ofNat 101 :: Char.ofNat 120 :: Char.ofNat 97 :: Char.ofNat 109 :: Char.ofNat 112 :: Char.ofNat 108 :: Char.ofNat 101 :: Char.ofNat 47 :: Char.ofNat 103 :: Char.ofNat 48 :: Char.ofNat 48 :: Char.ofNat 55 :: Char.ofNat 53 :: Char.ofNat 56 :: Char.ofNat 47 :: Char.ofNat 108 :: Char.ofNat 97 :: Char.ofNat 119 :: Char.ofNat 115 :: Char.ofNat 46 :: Char.ofNat 70 :: Char.ofNat 110 :: Char.ofNat 69 :: Char.ofNat 120 :: Char.ofNat 97 :: Char.ofNat 99 :: Char.ofNat 116 :: Char.ofNat 73 :: Char.ofNat 115 :: Char.ofNat 80 :: Char.ofNat 117 :: Char.ofNat 109 :: Char.ofNat 112 :: Char.ofNat 32 :: Char.ofNat 108 :: Char.ofNat 111 :: Char.ofNat 111 :: Char.ofNat 112 :: Char.ofNat 46 :: Char.ofNat 101 :: Char.ofNat 120 :: Char.ofNat 97 :: Char.ofNat 109 :: Char.ofNat 112 :: Char.ofNat 108 :: Char.ofNat 101 :: Char.ofNat 47 :: Char.ofNat 103 :: Char.ofNat 48 :: Char.ofNat 48 :: Char.ofNat 55 :: Char.ofNat 53 :: Char.ofNat 56 :: Char.ofNat 47 :: Char.ofNat 108 :: Char.ofNat 97 :: Char.ofNat 119 :: Char.ofNat 115 :: Char.ofNat 46 :: Char.ofNat 70 :: Char.ofNat 110 :: Char.ofNat 69 :: Char.ofNat 120 :: Char.ofNat 97 :: Char.ofNat 99 :: Char.ofNat 116 :: Char.ofNat 67 :: Char.ofNat 111 :: Char.ofNat 117 :: Char.ofNat 110 :: Char.ofNat 116 :: Char.ofNat 66 :: Char.ofNat 121 :: Char.ofNat 76 :: Char.ofNat 111 :: Char.ofNat 110 :: Char.ofNat 103 :: Char.ofNat 32 :: Char.ofNat 108 :: Char.ofNat 111 :: Char.ofNat 111 :: Char.ofNat 112 :: Char.ofNat 46 :: Char.ofNat 101 :: Char.ofNat 120 :: Char.ofNat 97 :: Char.ofNat 109 :: Char.ofNat 112 :: Char.ofNat 108 :: Char.ofNat 101 :: Char.ofNat 47 :: Char.ofNat 103 :: Char.ofNat 48 :: Char.ofNat 48 :: Char.ofNat 55 :: Char.ofNat 53 :: Char.ofNat 56 :: Char.ofNat 47 :: Char.ofNat 108 :: Char.ofNat 97 :: Char.ofNat 119 :: Char.ofNat 115 :: Char.ofNat 46 :: Char.ofNat 70 :: Char.ofNat 110 :: Char.ofNat 69 :: Char.ofNat 120 :: Char.ofNat 97 :: Char.ofNat 99 :: Char.ofNat 116 :: Char.ofNat 83 :: Char.ofNat 97 :: Char.ofNat 109 :: Char.ofNat 101 :: Char.ofNat 85 :: Char.ofNat 112 :: Char.ofNat 84 :: Char.ofNat 111 :: Char.ofNat 32 :: Char.ofNat 108 :: Char.ofNat 111 :: Char.ofNat 111 :: Char.ofNat 112 :: Char.ofNat 46 :: Char.ofNat 101 :: Char.ofNat 120 :: Char.ofNat 97 :: Char.ofNat 109 :: Char.ofNat 112 :: Char.ofNat 108 :: Char.ofNat 101 :: Char.ofNat 47 :: Char.ofNat 103 :: Char.ofNat 48 :: Char.ofNat 48 :: Char.ofNat 55 :: Char.ofNat 53 :: Char.ofNat 56 :: Char.ofNat 47 :: Char.ofNat 108 :: Char.ofNat 97 :: Char.ofNat 119 :: Char.ofNat 115 :: Char.ofNat 46 :: Char.ofNat 70 :: Char.ofNat 110 :: Char.ofNat 69 :: Char.ofNat 120 :: Char.ofNat 97 :: Char.ofNat 99 :: Char.ofNat 116 :: Char.ofNat 67 :: Char.ofNat 111 :: Char.ofNat 115 :: Char.ofNat 116 :: Char.ofNat 84 :: Char.ofNat 97 :: Char.ofNat 98 :: Char.ofNat 108 :: Char.ofNat 101 :: Char.ofNat 32 :: Char.ofNat 108 :: Char.ofNat 111 :: Char.ofNat 111 :: Char.ofNat 112 :: Char.ofNat 46 :: Char.ofNat 101 :: Char.ofNat 120 :: Char.ofNat 97 :: Char.ofNat 109 :: Char.ofNat 112 :: Char.ofNat 108 :: Char.ofNat 101 :: Char.ofNat 47 :: Char.ofNat 103 :: Char.ofNat 48 :: Char.ofNat 48 :: Char.ofNat 55 :: Char.ofNat 53 :: Char.ofNat 56 :: Char.ofNat 47 :: Char.ofNat 108 :: Char.ofNat 97 :: Char.ofNat 119 :: Char.ofNat 115 :: Char.ofNat 46 :: Char.ofNat 70 :: Char.ofNat 110 :: Char.ofNat 69 :: Char.ofNat 120 :: Char.ofNat 97 :: Char.ofNat 99 :: Char.ofNat 116 :: Char.ofNat 80 :: Char.ofNat 117 :: Char.ofNat 109 :: Char.ofNat 112 :: Char.ofNat 84 :: Char.ofNat 114 :: Char.ofNat 101 :: Char.ofNat 101 :: Char.ofNat 32 :: Char.ofNat 108 :: Char.ofNat 111 :: Char.ofNat 111 :: Char.ofNat 112 :: Char.ofNat 46 :: Char.ofNat 101 :: Char.ofNat 120 :: Char.ofNat 97 :: Char.ofNat 109 :: Char.ofNat 112 :: Char.ofNat 108 :: Char.ofNat 101 :: Char.ofNat 47 :: Char.ofNat 103 :: Char.ofNat 48 :: Char.ofNat 48 :: Char.ofNat 55 :: Char.ofNat 53 :: Char.ofNat 56 :: Char.ofNat 47 :: Char.ofNat 108 :: Char.ofNat 97 :: Char.ofNat 119 :: Char.ofNat 115 :: Char.ofNat 46 :: Char.ofNat 70 :: Char.ofNat 110 :: Char.ofNat 69 :: Char.ofNat 120 :: Char.ofNat 97 :: Char.ofNat 99 :: Char.ofNat 116 :: Char.ofNat 67 :: Char.ofNat 111 :: Char.ofNat 117 :: Char.ofNat 110 :: Char.ofNat 116 :: Char.ofNat 83 :: Char.ofNat 105 :: Char.ofNat 122 :: Char.ofNat 101 :: Char.ofNat 100 :: Char.ofNat 32 :: Char.ofNat 108 :: Char.ofNat 111 :: Char.ofNat 111 :: Char.ofNat 112 :: Char.ofNat 46 :: Char.ofNat 101 :: Char.ofNat 120 :: Char.ofNat 97 :: Char.ofNat 109 :: Char.ofNat 112 :: Char.ofNat 108 :: Char.ofNat 101 :: Char.ofNat 47 :: Char.ofNat 103 :: Char.ofNat 48 :: Char.ofNat 48 :: Char.ofNat 55 :: Char.ofNat 53 :: Char.ofNat 56 :: Char.ofNat 47 :: Char.ofNat 108 :: Char.ofNat 97 :: Char.ofNat 119 :: Char.ofNat 115 :: Char.ofNat 46 :: Char.ofNat 70 :: Char.ofNat 110 :: Char.ofNat 69 :: Char.ofNat 120 :: Char.ofNat 97 :: Char.ofNat 99 :: Char.ofNat 116 :: Char.ofNat 67 :: Char.ofNat 104 :: Char.ofNat 97 :: Char.ofNat 110 :: Char.ofNat 103 :: Char.ofNat 101 :: Char.ofNat 87 :: Char.ofNat 111 :: Char.ofNat 114 :: Char.ofNat 100 :: Char.ofNat 32 :: Char.ofNat 108 :: Char.ofNat 111 :: Char.ofNat 111 :: Char.ofNat 112 :: Char.ofNat 46 :: Char.ofNat 101 :: Char.ofNat 120 :: Char.ofNat 97 :: Char.ofNat 109 :: Char.ofNat 112 :: Char.ofNat 108 :: Char.ofNat 101 :: Char.ofNat 47 :: Char.ofNat 103 :: Char.ofNat 48 :: Char.ofNat 48 :: Char.ofNat 55 :: Char.ofNat 53 :: Char.ofNat 56 :: Char.ofNat 47 :: Char.ofNat 108 :: Char.ofNat 97 :: Char.ofNat 119 :: Char.ofNat 115 :: Char.ofNat 46 :: Char.ofNat 70 :: Char.ofNat 110 :: Char.ofNat 69 :: Char.ofNat 120 :: Char.ofNat 97 :: Char.ofNat 99 :: Char.ofNat 116 :: Char.ofNat 77 :: Char.ofNat 101 :: Char.ofNat 110 :: Char.ofNat 100 :: Char.ofNat 84 :: Char.ofNat 97 :: Char.ofNat 98 :: Char.ofNat 108 :: Char.ofNat 101 :: Char.ofNat 32 :: Char.ofNat 108 :: Char.ofNat 111 :: Char.ofNat 111 :: Char.ofNat 112 :: Char.ofNat 46 :: Char.ofNat 101 :: Char.ofNat 120 :: Char.ofNat 97 :: Char.ofNat 109 :: Char.ofNat 112 :: Char.ofNat 108 :: Char.ofNat 101 :: Char.ofNat 47 :: Char.ofNat 103 :: Char.ofNat 48 :: Char.ofNat 48 :: Char.ofNat 55 :: Char.ofNat 53 :: Char.ofNat 56 :: Char.ofNat 47 :: Char.ofNat 108 :: Char.ofNat 97 :: Char.ofNat 119 :: Char.ofNat 115 :: Char.ofNat 46 :: Char.ofNat 70 :: Char.ofNat 110 :: Char.ofNat 69 :: Char.ofNat 120 :: Char.ofNat 97 :: Char.ofNat 99 :: Char.ofNat 116 :: Char.ofNat 78 :: Char.ofNat 101 :: Char.ofNat 97 :: Char.ofNat 114 :: Char.ofNat 87 :: Char.ofNat 111 :: Char.ofNat 114 :: Char.ofNat 100 :: Char.ofNat 32 :: Char.ofNat 108 :: Char.ofNat 111 :: Char.ofNat 111 :: Char.ofNat 112 :: Char.ofNat 46 :: Char.ofNat 101 :: Char.ofNat 120 :: Char.ofNat 97 :: Char.ofNat 109 :: Char.ofNat 112 :: Char.ofNat 108 :: Char.ofNat 101 :: Char.ofNat 47 :: Char.ofNat 103 :: Char.ofNat 48 :: Char.ofNat 48 :: Char.ofNat 55 :: Char.ofNat 53 :: Char.ofNat 56 :: Char.ofNat 47 :: Char.ofNat 108 :: Char.ofNat 97 :: Char.ofNat 119 :: Char.ofNat 115 :: Char.ofNat 46 :: Char.ofNat 70 :: Char.ofNat 110 :: Char.ofNat 69 :: Char.ofNat 120 :: Char.ofNat 97 :: Char.ofNat 99 :: Char.ofNat 116 :: Char.ofNat 70 :: Char.ofNat 105 :: Char.ofNat 114 :: Char.ofNat 115 :: Char.ofNat 116 :: Char.ofNat 85 :: Char.ofNat 110 :: Char.ofNat 108 :: Char.ofNat 105 :: Char.ofNat 107 :: Char.ofNat 101 :: Char.ofNat 32 :: Char.ofNat 108 :: Char.ofNat 111 :: Char.ofNat 111 :: Char.ofNat 112 :: Char.ofNat 46 :: Char.ofNat 101 :: Char.ofNat 120 :: Char.ofNat 97 :: Char.ofNat 109 :: Char.ofNat 112 :: Char.ofNat 108 :: Char.ofNat 101 :: Char.ofNat 47 :: Char.ofNat 103 :: Char.ofNat 48 :: Char.ofNat 48 :: Char.ofNat 55 :: Char.ofNat 53 :: Char.ofNat 56 :: Char.ofNat 47 :: Char.ofNat 108 :: Char.ofNat 97 :: Char.ofNat 119 :: Char.ofNat 115 :: Char.ofNat 46 :: Char.ofNat 70 :: Char.ofNat 110 :: Char.ofNat 69 :: Char.ofNat 120 :: Char.ofNat 97 :: Char.ofNat 99 :: Char.ofNat 116 :: Char.ofNat 66 :: Char.ofNat 101 :: Char.ofNat 115 :: Char.ofNat 116 :: Char.ofNat 84 :: Char.ofNat 114 :: Char.ofNat 101 :: Char.ofNat 101 :: Char.ofNat 32 :: Char.ofNat 108 :: Char.ofNat 111 :: Char.ofNat 111 :: Char.ofNat 112 :: Char.ofNat 46 :: Char.ofNat 101 :: Char.ofNat 120 :: Char.ofNat 97 :: Char.ofNat 109 :: Char.ofNat 112 :: Char.ofNat 108 :: Char.ofNat 101 :: Char.ofNat 47 :: Char.ofNat 103 :: Char.ofNat 48 :: Char.ofNat 48 :: Char.ofNat 55 :: Char.ofNat 53 :: Char.ofNat 56 :: Char.ofNat 47 :: Char.ofNat 108 :: Char.ofNat 97 :: Char.ofNat 119 :: Char.ofNat 115 :: Char.ofNat 46 :: Char.ofNat 70 :: Char.ofNat 110 :: Char.ofNat 69 :: Char.ofNat 120 :: Char.ofNat 97 :: Char.ofNat 99 :: Char.ofNat 116 :: Char.ofNat 84 :: Char.ofNat 114 :: Char.ofNat 101 :: Char.ofNat 101 :: Char.ofNat 115 :: Char.ofNat 85 :: Char.ofNat 112 :: Char.ofNat 84 :: Char.ofNat 111 :: []) := by kernel_rfl
theorem io : Try.prog.initOrder = String.ofList (Char.ofNat 104 :: Char.ofNat 97 :: Char.ofNat 114 :: Char.ofNat 110 :: Char.ofNat 101 :: Char.ofNat 115 :: Char.ofNat 115 :: Char.ofNat 32 :: Char.ofNat 50 :: Char.ofNat 50 :: Char.ofNat 97 :: Char.ofNat 48 :: Char.ofNat 55 :: Char.ofNat 100 :: Char.ofNat 52 :: Char.ofNat 52 :: Char.ofNat 51 :: Char.ofNat 99 :: Char.ofNat 52 :: Char.ofNat 99 :: Char.ofNat 53 :: Char.ofNat 57 :: Char.ofNat 54 :: Char.ofNat 50 :: Char.ofNat 49 :: Char.ofNat 50 :: Char.ofNat 49 :: Char.ofNat 99 :: Char.ofNat 52 :: Char.ofNat 98 :: Char.ofNat 51 :: Char.ofNat 97 :: Char.ofNat 53 :: Char.ofNat 52 :: Char.ofNat 51 :: Char.ofNat 97 :: Char.ofNat 54 :: Char.ofNat 50 :: Char.ofNat 49 :: Char.ofNat 56 :: Char.ofNat 53 :: Char.ofNat 48 :: Char.ofNat 99 :: Char.ofNat 52 :: Char.ofNat 54 :: Char.ofNat 53 :: Char.ofNat 54 :: Char.ofNat 102 :: Char.ofNat 53 :: Char.ofNat 98 :: Char.ofNat 52 :: Char.ofNat 55 :: Char.ofNat 100 :: Char.ofNat 102 :: Char.ofNat 97 :: Char.ofNat 102 :: Char.ofNat 53 :: Char.ofNat 102 :: Char.ofNat 50 :: Char.ofNat 55 :: Char.ofNat 51 :: Char.ofNat 57 :: Char.ofNat 97 :: Char.ofNat 52 :: Char.ofNat 102 :: Char.ofNat 52 :: Char.ofNat 51 :: Char.ofNat 50 :: Char.ofNat 48 :: Char.ofNat 98 :: Char.ofNat 97 :: Char.ofNat 52 :: Char.ofNat 32 :: Char.ofNat 99 :: Char.ofNat 117 :: Char.ofNat 116 :: Char.ofNat 32 :: Char.ofNat 97 :: Char.ofNat 116 :: Char.ofNat 32 :: Char.ofNat 108 :: Char.ofNat 111 :: Char.ofNat 111 :: Char.ofNat 112 :: Char.ofNat 46 :: Char.ofNat 101 :: Char.ofNat 120 :: Char.ofNat 97 :: Char.ofNat 109 :: Char.ofNat 112 :: Char.ofNat 108 :: Char.ofNat 101 :: Char.ofNat 47 :: Char.ofNat 103 :: Char.ofNat 48 :: Char.ofNat 48 :: Char.ofNat 55 :: Char.ofNat 53 :: Char.ofNat 56 :: Char.ofNat 47 :: Char.ofNat 108 :: Char.ofNat 97 :: Char.ofNat 119 :: Char.ofNat 115 :: Char.ofNat 46 :: Char.ofNat 70 :: Char.ofNat 110 :: Char.ofNat 69 :: Char.ofNat 120 :: Char.ofNat 97 :: Char.ofNat 99 :: Char.ofNat 116 :: Char.ofNat 80 :: Char.ofNat 117 :: Char.ofNat 109 :: Char.ofNat 112 :: Char.ofNat 87 :: Char.ofNat 111 :: Char.ofNat 114 :: Char.ofNat 100 :: Char.ofNat 32 :: Char.ofNat 108 :: Char.ofNat 111 :: Char.ofNat 111 :: Char.ofNat 112 :: Char.ofNat 46 :: Char.ofNat 101 :: Char.ofNat 120 :: Char.ofNat 97 :: Char.ofNat 109 :: Char.ofNat 112 :: Char.ofNat 108 :: Char.ofNat 101 :: Char.ofNat 47 :: Char.ofNat 103 :: Char.ofNat 48 :: Char.ofNat 48 :: Char.ofNat 55 :: Char.ofNat 53 :: Char.ofNat 56 :: Char.ofNat 47 :: Char.ofNat 108 :: Char.ofNat 97 :: Char.ofNat 119 :: Char.ofNat 115 :: Char.ofNat 46 :: Char.ofNat 70 :: Char.ofNat 110 :: Char.ofNat 69 :: Char.ofNat 120 :: Char.ofNat 97 :: Char.ofNat 99 :: Char.ofNat 116 :: Char.ofNat 76 :: Char.ofNat 111 :: Char.ofNat 110 :: Char.ofNat 103 :: Char.ofNat 69 :: Char.ofNat 110 :: Char.ofNat 111 :: Char.ofNat 117 :: Char.ofNat 103 :: Char.ofNat 104 :: Char.ofNat 32 :: Char.ofNat 108 :: Char.ofNat 111 :: Char.ofNat 111 :: Char.ofNat 112 :: Char.ofNat 46 :: Char.ofNat 101 :: Char.ofNat 120 :: Char.ofNat 97 :: Char.ofNat 109 :: Char.ofNat 112 :: Char.ofNat 108 :: Char.ofNat 101 :: Char.ofNat 47 :: Char.ofNat 103 :: Char.ofNat 48 :: Char.ofNat 48 :: Char.ofNat 55 :: Char.ofNat 53 :: Char.ofNat 56 :: Char.ofNat 47 :: Char.ofNat 108 :: Char.ofNat 97 :: Char.ofNat 119 :: Char.ofNat 115 :: Char.ofNat 46 :: Char.ofNat 70 :: Char.ofNat 110 :: Char.ofNat 69 :: Char.ofNat 120 :: Char.ofNat 97 :: Char.ofNat 99 :: Char.ofNat 116 :: Char.ofNat 83 :: Char.ofNat 116 :: Char.ofNat 97 :: Char.ofNat 114 :: Char.ofNat 79 :: Char.ofNat 102 :: Char.ofNat 32 :: Char.ofNat 108 :: Char.ofNat 111 :: Char.ofNat 111 :: Char.ofNat 112 :: Char.ofNat 46 :: Char.ofNat 101 :: Char.ofNat 120 :: Char.ofNat 97 :: Char.ofNat 109 :: Char.ofNat 112 :: Char.ofNat 108 :: Char.ofNat 101 :: Char.ofNat 47 :: Char.ofNat 103 :: Char.ofNat 48 :: Char.ofNat 48 :: Char.ofNat 55 :: Char.ofNat 53 :: Char.ofNat 56 :: Char.ofNat 47 :: Char.ofNat 108 :: Char.ofNat 97 :: Char.ofNat 119 :: Char.ofNat 115 :: Char.ofNat 46 :: Char.ofNat 70 :: Char.ofNat 110 :: Char.ofNat 69 :: Char.ofNat 120 :: Char.ofNat 97 :: Char.ofNat 99 :: Char.ofNat 116 :: Char.ofNat 74 :: Char.ofNat 111 :: Char.ofNat 105 :: Char.ofNat 110 :: Char.ofNat 79 :: Char.ofNat 102 :: Char.ofNat 32 :: Char.ofNat 108 :: Char.ofNat 111 :: Char.ofNat 111 :: Char.ofNat 112 :: Char.ofNat 46 :: Char.ofNat 101 :: Char.ofNat 120 :: Char.ofNat 97 :: Char.ofNat 109 :: Char.ofNat 112 :: Char.ofNat 108 :: Char.ofNat 101 :: Char.ofNat 47 :: Char.ofNat 103 :: Char.ofNat 48 :: Char.ofNat 48 :: Char.ofNat 55 :: Char.ofNat 53 :: Char.ofNat 56 :: Char.ofNat 47 :: Char.ofNat 108 :: Char.ofNat 97 :: Char.ofNat 119 :: Char.ofNat 115 :: Char.ofNat 46 :: Char.ofNat 70 :: Char.ofNat 110 :: Char.ofNat 69 :: Char.ofNat 120 :: Char.ofNat 97 :: Char.ofNat 99 :: Char.ofNat 116 :: Char.ofNat 85 :: Char.ofNat 110 :: Char.ofNat 105 :: Char.ofNat 111 :: Char.ofNat 110 :: Char.ofNat 79 :: Char.ofNat 102 :: Char.ofNat 32 :: Char.ofNat 108 :: Char.ofNat 111 :: Char.ofNat 111 :: Char.ofNat 112 :: Char.ofNat 46 :: Char.ofNat 101 :: Char.ofNat 120 :: Char.ofNat 97 :: Char.ofNat 109 :: Char.ofNat 112 :: Char.ofNat 108 :: Char.ofNat 101 :: Char.ofNat 47 :: Char.ofNat 103 :: Char.ofNat 48 :: Char.ofNat 48 :: Char.ofNat 55 :: Char.ofNat 53 :: Char.ofNat 56 :: Char.ofNat 47 :: Char.ofNat 108 :: Char.ofNat 97 :: Char.ofNat 119 :: Char.ofNat 115 :: Char.ofNat 46 :: Char.ofNat 70 :: Char.ofNat 110 :: Char.ofNat 69 :: Char.ofNat 120 :: Char.ofNat 97 :: Char.ofNat 99 :: Char.ofNat 116 :: Char.ofNat 80 :: Char.ofNat 117 :: Char.ofNat 109 :: Char.ofNat 112 :: Char.ofNat 79 :: Char.ofNat 102 :: Char.ofNat 32 :: Char.ofNat 108 :: Char.ofNat 111 :: Char.ofNat 111 :: Char.ofNat 112 :: Char.ofNat 46 :: Char.ofNat 101 :: Char.ofNat 120 :: Char.ofNat 97 :: Char.ofNat 109 :: Char.ofNat 112 :: Char.ofNat 108 :: Char.ofNat 101 :: Char.ofNat 47 :: Char.ofNat 103 :: Char.ofNat 48 :: Char.ofNat 48 :: Char.ofNat 55 :: Char.ofNat 53 :: Char.ofNat 56 :: Char.ofNat 47 :: Char.ofNat 108 :: Char.ofNat 97 :: Char.ofNat 119 :: Char.ofNat 115 :: Char.ofNat 46 :: Char.ofNat 70 :: Char.ofNat 110 :: Char.ofNat 69 :: Char.ofNat 120 :: Char.ofNat 97 :: Char.ofNat 99 :: Char.ofNat 116 :: Char.ofNat 80 :: Char.ofNat 97 :: Char.ofNat 116 :: Char.ofNat 104 :: Char.ofNat 73 :: Char.ofNat 110 :: Char.ofNat 32 :: Char.ofNat 108 :: Char.ofNat 111 :: Char.ofNat 111 :: Char.ofNat 112 :: Char.ofNat 46 :: Char.ofNat 101 :: Char.ofNat 120 :: Char.ofNat 97 :: Char.ofNat 109 :: Char.ofNat 112 :: Char.ofNat 108 :: Char.ofNat 101 :: Char.ofNat 47 :: Char.ofNat 103 :: Char.ofNat 48 :: Char.ofNat 48 :: Char.ofNat 55 :: Char.ofNat 53 :: Char.ofNat 56 :: Char.ofNat 47 :: Char.ofNat 108 :: Char.ofNat 97 :: Char.ofNat 119 :: Char.ofNat 115 :: Char.ofNat 46 :: Char.ofNat 70 :: Char.ofNat 110 :: Char.ofNat 69 :: Char.ofNat 120 :: Char.ofNat 97 :: Char.ofNat 99 :: Char.ofNat 116 :: Char.ofNat 76 :: Char.ofNat 101 :: Char.ofNat 97 :: Char.ofNat 115 :: Char.ofNat 116 :: Char.ofNat 77 :: Char.ofNat 101 :: Char.ofNat 110 :: Char.ofNat 100 :: Char.ofNat 32 :: Char.ofNat 108 :: Char.ofNat 111 :: Char.ofNat 111 :: Char.ofNat 112 :: Char.ofNat 46 :: Char.ofNat 101 :: Char.ofNat 120 :: Char.ofNat 97 :: Char.ofNat 109 :: Char.ofNat 112 :: Char.ofNat 108 :: Char.ofNat 101 :: Char.ofNat 47 :: Char.ofNat 103 :: Char.ofNat 48 :: Char.ofNat 48 :: Char.ofNat 55 :: Char.ofNat 53 :: Char.ofNat 56 :: Char.ofNat 47 :: Char.ofNat 108 :: Char.ofNat 97 :: Char.ofNat 119 :: Char.ofNat 115 :: Char.ofNat 46 :: Char.ofNat 70 :: Char.ofNat 110 :: Char.ofNat 69 :: Char.ofNat 120 :: Char.ofNat 97 :: Char.ofNat 99 :: Char.ofNat 116 :: Char.ofNat 73 :: Char.ofNat 115 :: Char.ofNat 80 :: Char.ofNat 117 :: Char.ofNat 109 :: Char.ofNat 112 :: Char.ofNat 32 :: Char.ofNat 108 :: Char.ofNat 111 :: Char.ofNat 111 :: Char.ofNat 112 :: Char.ofNat 46 :: Char.ofNat 101 :: Char.ofNat 120 :: Char.ofNat 97 :: Char.ofNat 109 :: Char.ofNat 112 :: Char.ofNat 108 :: Char.ofNat 101 :: Char.ofNat 47 :: Char.ofNat 103 :: Char.ofNat 48 :: Char.ofNat 48 :: Char.ofNat 55 :: Char.ofNat 53 :: Char.ofNat 56 :: Char.ofNat 47 :: Char.ofNat 108 :: Char.ofNat 97 :: Char.ofNat 119 :: Char.ofNat 115 :: Char.ofNat 46 :: Char.ofNat 70 :: Char.ofNat 110 :: Char.ofNat 69 :: Char.ofNat 120 :: Char.ofNat 97 :: Char.ofNat 99 :: Char.ofNat 116 :: Char.ofNat 67 :: Char.ofNat 111 :: Char.ofNat 117 :: Char.ofNat 110 :: Char.ofNat 116 :: Char.ofNat 66 :: Char.ofNat 121 :: Char.ofNat 76 :: Char.ofNat 111 :: Char.ofNat 110 :: Char.ofNat 103 :: Char.ofNat 32 :: Char.ofNat 108 :: Char.ofNat 111 :: Char.ofNat 111 :: Char.ofNat 112 :: Char.ofNat 46 :: Char.ofNat 101 :: Char.ofNat 120 :: Char.ofNat 97 :: Char.ofNat 109 :: Char.ofNat 112 :: Char.ofNat 108 :: Char.ofNat 101 :: Char.ofNat 47 :: Char.ofNat 103 :: Char.ofNat 48 :: Char.ofNat 48 :: Char.ofNat 55 :: Char.ofNat 53 :: Char.ofNat 56 :: Char.ofNat 47 :: Char.ofNat 108 :: Char.ofNat 97 :: Char.ofNat 119 :: Char.ofNat 115 :: Char.ofNat 46 :: Char.ofNat 70 :: Char.ofNat 110 :: Char.ofNat 69 :: Char.ofNat 120 :: Char.ofNat 97 :: Char.ofNat 99 :: Char.ofNat 116 :: Char.ofNat 83 :: Char.ofNat 97 :: Char.ofNat 109 :: Char.ofNat 101 :: Char.ofNat 85 :: Char.ofNat 112 :: Char.ofNat 84 :: Char.ofNat 111 :: Char.ofNat 32 :: Char.ofNat 108 :: Char.ofNat 111 :: Char.ofNat 111 :: Char.ofNat 112 :: Char.ofNat 46 :: Char.ofNat 101 :: Char.ofNat 120 :: Char.ofNat 97 :: Char.ofNat 109 :: Char.ofNat 112 :: Char.ofNat 108 :: Char.ofNat 101 :: Char.ofNat 47 :: Char.ofNat 103 :: Char.ofNat 48 :: Char.ofNat 48 :: Char.ofNat 55 :: Char.ofNat 53 :: Char.ofNat 56 :: Char.ofNat 47 :: Char.ofNat 108 :: Char.ofNat 97 :: Char.ofNat 119 :: Char.ofNat 115 :: Char.ofNat 46 :: Char.ofNat 70 :: Char.ofNat 110 :: Char.ofNat 69 :: Char.ofNat 120 :: Char.ofNat 97 :: Char.ofNat 99 :: Char.ofNat 116 :: Char.ofNat 67 :: Char.ofNat 111 :: Char.ofNat 115 :: Char.ofNat 116 :: Char.ofNat 84 :: Char.ofNat 97 :: Char.ofNat 98 :: Char.ofNat 108 :: Char.ofNat 101 :: Char.ofNat 32 :: Char.ofNat 108 :: Char.ofNat 111 :: Char.ofNat 111 :: Char.ofNat 112 :: Char.ofNat 46 :: Char.ofNat 101 :: Char.ofNat 120 :: Char.ofNat 97 :: Char.ofNat 109 :: Char.ofNat 112 :: Char.ofNat 108 :: Char.ofNat 101 :: Char.ofNat 47 :: Char.ofNat 103 :: Char.ofNat 48 :: Char.ofNat 48 :: Char.ofNat 55 :: Char.ofNat 53 :: Char.ofNat 56 :: Char.ofNat 47 :: Char.ofNat 108 :: Char.ofNat 97 :: Char.ofNat 119 :: Char.ofNat 115 :: Char.ofNat 46 :: Char.ofNat 70 :: Char.ofNat 110 :: Char.ofNat 69 :: Char.ofNat 120 :: Char.ofNat 97 :: Char.ofNat 99 :: Char.ofNat 116 :: Char.ofNat 80 :: Char.ofNat 117 :: Char.ofNat 109 :: Char.ofNat 112 :: Char.ofNat 84 :: Char.ofNat 114 :: Char.ofNat 101 :: Char.ofNat 101 :: Char.ofNat 32 :: Char.ofNat 108 :: Char.ofNat 111 :: Char.ofNat 111 :: Char.ofNat 112 :: Char.ofNat 46 :: Char.ofNat 101 :: Char.ofNat 120 :: Char.ofNat 97 :: Char.ofNat 109 :: Char.ofNat 112 :: Char.ofNat 108 :: Char.ofNat 101 :: Char.ofNat 47 :: Char.ofNat 103 :: Char.ofNat 48 :: Char.ofNat 48 :: Char.ofNat 55 :: Char.ofNat 53 :: Char.ofNat 56 :: Char.ofNat 47 :: Char.ofNat 108 :: Char.ofNat 97 :: Char.ofNat 119 :: Char.ofNat 115 :: Char.ofNat 46 :: Char.ofNat 70 :: Char.ofNat 110 :: Char.ofNat 69 :: Char.ofNat 120 :: Char.ofNat 97 :: Char.ofNat 99 :: Char.ofNat 116 :: Char.ofNat 67 :: Char.ofNat 111 :: Char.ofNat 117 :: Char.ofNat 110 :: Char.ofNat 116 :: Char.ofNat 83 :: Char.ofNat 105 :: Char.ofNat 122 :: Char.ofNat 101 :: Char.ofNat 100 :: Char.ofNat 32 :: Char.ofNat 108 :: Char.ofNat 111 :: Char.ofNat 111 :: Char.ofNat 112 :: Char.ofNat 46 :: Char.ofNat 101 :: Char.ofNat 120 :: Char.ofNat 97 :: Char.ofNat 109 :: Char.ofNat 112 :: Char.ofNat 108 :: Char.ofNat 101 :: Char.ofNat 47 :: Char.ofNat 103 :: Char.ofNat 48 :: Char.ofNat 48 :: Char.ofNat 55 :: Char.ofNat 53 :: Char.ofNat 56 :: Char.ofNat 47 :: Char.ofNat 108 :: Char.ofNat 97 :: Char.ofNat 119 :: Char.ofNat 115 :: Char.ofNat 46 :: Char.ofNat 70 :: Char.ofNat 110 :: Char.ofNat 69 :: Char.ofNat 120 :: Char.ofNat 97 :: Char.ofNat 99 :: Char.ofNat 116 :: Char.ofNat 67 :: Char.ofNat 104 :: Char.ofNat 97 :: Char.ofNat 110 :: Char.ofNat 103 :: Char.ofNat 101 :: Char.ofNat 87 :: Char.ofNat 111 :: Char.ofNat 114 :: Char.ofNat 100 :: Char.ofNat 32 :: Char.ofNat 108 :: Char.ofNat 111 :: Char.ofNat 111 :: Char.ofNat 112 :: Char.ofNat 46 :: Char.ofNat 101 :: Char.ofNat 120 :: Char.ofNat 97 :: Char.ofNat 109 :: Char.ofNat 112 :: Char.ofNat 108 :: Char.ofNat 101 :: Char.ofNat 47 :: Char.ofNat 103 :: Char.ofNat 48 :: Char.ofNat 48 :: Char.ofNat 55 :: Char.ofNat 53 :: Char.ofNat 56 :: Char.ofNat 47 :: Char.ofNat 108 :: Char.ofNat 97 :: Char.ofNat 119 :: Char.ofNat 115 :: Char.ofNat 46 :: Char.ofNat 70 :: Char.ofNat 110 :: Char.ofNat 69 :: Char.ofNat 120 :: Char.ofNat 97 :: Char.ofNat 99 :: Char.ofNat 116 :: Char.ofNat 77 :: Char.ofNat 101 :: Char.ofNat 110 :: Char.ofNat 100 :: Char.ofNat 84 :: Char.ofNat 97 :: Char.ofNat 98 :: Char.ofNat 108 :: Char.ofNat 101 :: Char.ofNat 32 :: Char.ofNat 108 :: Char.ofNat 111 :: Char.ofNat 111 :: Char.ofNat 112 :: Char.ofNat 46 :: Char.ofNat 101 :: Char.ofNat 120 :: Char.ofNat 97 :: Char.ofNat 109 :: Char.ofNat 112 :: Char.ofNat 108 :: Char.ofNat 101 :: Char.ofNat 47 :: Char.ofNat 103 :: Char.ofNat 48 :: Char.ofNat 48 :: Char.ofNat 55 :: Char.ofNat 53 :: Char.ofNat 56 :: Char.ofNat 47 :: Char.ofNat 108 :: Char.ofNat 97 :: Char.ofNat 119 :: Char.ofNat 115 :: Char.ofNat 46 :: Char.ofNat 70 :: Char.ofNat 110 :: Char.ofNat 69 :: Char.ofNat 120 :: Char.ofNat 97 :: Char.ofNat 99 :: Char.ofNat 116 :: Char.ofNat 78 :: Char.ofNat 101 :: Char.ofNat 97 :: Char.ofNat 114 :: Char.ofNat 87 :: Char.ofNat 111 :: Char.ofNat 114 :: Char.ofNat 100 :: Char.ofNat 32 :: Char.ofNat 108 :: Char.ofNat 111 :: Char.ofNat 111 :: Char.ofNat 112 :: Char.ofNat 46 :: Char.ofNat 101 :: Char.ofNat 120 :: Char.ofNat 97 :: Char.ofNat 109 :: Char.ofNat 112 :: Char.ofNat 108 :: Char.ofNat 101 :: Char.ofNat 47 :: Char.ofNat 103 :: Char.ofNat 48 :: Char.ofNat 48 :: Char.ofNat 55 :: Char.ofNat 53 :: Char.ofNat 56 :: Char.ofNat 47 :: Char.ofNat 108 :: Char.ofNat 97 :: Char.ofNat 119 :: Char.ofNat 115 :: Char.ofNat 46 :: Char.ofNat 70 :: Char.ofNat 110 :: Char.ofNat 69 :: Char.ofNat 120 :: Char.ofNat 97 :: Char.ofNat 99 :: Char.ofNat 116 :: Char.ofNat 70 :: Char.ofNat 105 :: Char.ofNat 114 :: Char.ofNat 115 :: Char.ofNat 116 :: Char.ofNat 85 :: Char.ofNat 110 :: Char.ofNat 108 :: Char.ofNat 105 :: Char.ofNat 107 :: Char.ofNat 101 :: Char.ofNat 32 :: Char.ofNat 108 :: Char.ofNat 111 :: Char.ofNat 111 :: Char.ofNat 112 :: Char.ofNat 46 :: Char.ofNat 101 :: Char.ofNat 120 :: Char.ofNat 97 :: Char.ofNat 109 :: Char.ofNat 112 :: Char.ofNat 108 :: Char.ofNat 101 :: Char.ofNat 47 :: Char.ofNat 103 :: Char.ofNat 48 :: Char.ofNat 48 :: Char.ofNat 55 :: Char.ofNat 53 :: Char.ofNat 56 :: Char.ofNat 47 :: Char.ofNat 108 :: Char.ofNat 97 :: Char.ofNat 119 :: Char.ofNat 115 :: Char.ofNat 46 :: Char.ofNat 70 :: Char.ofNat 110 :: Char.ofNat 69 :: Char.ofNat 120 :: Char.ofNat 97 :: Char.ofNat 99 :: Char.ofNat 116 :: Char.ofNat 66 :: Char.ofNat 101 :: Char.ofNat 115 :: Char.ofNat 116 :: Char.ofNat 84 :: Char.ofNat 114 :: Char.ofNat 101 :: Char.ofNat 101 :: Char.ofNat 32 :: Char.ofNat 108 :: Char.ofNat 111 :: Char.ofNat 111 :: Char.ofNat 112 :: Char.ofNat 46 :: Char.ofNat 101 :: Char.ofNat 120 :: Char.ofNat 97 :: Char.ofNat 109 :: Char.ofNat 112 :: Char.ofNat 108 :: Char.ofNat 101 :: Char.ofNat 47 :: Char.ofNat 103 :: Char.ofNat 48 :: Char.ofNat 48 :: Char.ofNat 55 :: Char.ofNat 53 :: Char.ofNat 56 :: Char.ofNat 47 :: Char.ofNat 108 :: Char.ofNat 97 :: Char.ofNat 119 :: Char.ofNat 115 :: Char.ofNat 46 :: Char.ofNat 70 :: Char.ofNat 110 :: Char.ofNat 69 :: Char.ofNat 120 :: Char.ofNat 97 :: Char.ofNat 99 :: Char.ofNat 116 :: Char.ofNat 84 :: Char.ofNat 114 :: Char.ofNat 101 :: Char.ofNat 101 :: Char.ofNat 115 :: Char.ofNat 85 :: Char.ofNat 112 :: Char.ofNat 84 :: Char.ofNat 111 :: []) := io0.trans io1
theorem io2 : Try.prog.initOrder.toList = signs := by rw [io, String.toList_ofList]; rfl
def behind : List (List Char) := [[Char.ofNat 99, Char.ofNat 117, Char.ofNat 116], [Char.ofNat 97, Char.ofNat 116], [Char.ofNat 108, Char.ofNat 111, Char.ofNat 111, Char.ofNat 112, Char.ofNat 46, Char.ofNat 101, Char.ofNat 120, Char.ofNat 97, Char.ofNat 109, Char.ofNat 112, Char.ofNat 108, Char.ofNat 101, Char.ofNat 47, Char.ofNat 103, Char.ofNat 48, Char.ofNat 48, Char.ofNat 55, Char.ofNat 53, Char.ofNat 56, Char.ofNat 47, Char.ofNat 108, Char.ofNat 97, Char.ofNat 119, Char.ofNat 115, Char.ofNat 46, Char.ofNat 70, Char.ofNat 110, Char.ofNat 69, Char.ofNat 120, Char.ofNat 97, Char.ofNat 99, Char.ofNat 116, Char.ofNat 80, Char.ofNat 117, Char.ofNat 109, Char.ofNat 112, Char.ofNat 87, Char.ofNat 111, Char.ofNat 114, Char.ofNat 100], [Char.ofNat 108, Char.ofNat 111, Char.ofNat 111, Char.ofNat 112, Char.ofNat 46, Char.ofNat 101, Char.ofNat 120, Char.ofNat 97, Char.ofNat 109, Char.ofNat 112, Char.ofNat 108, Char.ofNat 101, Char.ofNat 47, Char.ofNat 103, Char.ofNat 48, Char.ofNat 48, Char.ofNat 55, Char.ofNat 53, Char.ofNat 56, Char.ofNat 47, Char.ofNat 108, Char.ofNat 97, Char.ofNat 119, Char.ofNat 115, Char.ofNat 46, Char.ofNat 70, Char.ofNat 110, Char.ofNat 69, Char.ofNat 120, Char.ofNat 97, Char.ofNat 99, Char.ofNat 116, Char.ofNat 76, Char.ofNat 111, Char.ofNat 110, Char.ofNat 103, Char.ofNat 69, Char.ofNat 110, Char.ofNat 111, Char.ofNat 117, Char.ofNat 103, Char.ofNat 104], [Char.ofNat 108, Char.ofNat 111, Char.ofNat 111, Char.ofNat 112, Char.ofNat 46, Char.ofNat 101, Char.ofNat 120, Char.ofNat 97, Char.ofNat 109, Char.ofNat 112, Char.ofNat 108, Char.ofNat 101, Char.ofNat 47, Char.ofNat 103, Char.ofNat 48, Char.ofNat 48, Char.ofNat 55, Char.ofNat 53, Char.ofNat 56, Char.ofNat 47, Char.ofNat 108, Char.ofNat 97, Char.ofNat 119, Char.ofNat 115, Char.ofNat 46, Char.ofNat 70, Char.ofNat 110, Char.ofNat 69, Char.ofNat 120, Char.ofNat 97, Char.ofNat 99, Char.ofNat 116, Char.ofNat 83, Char.ofNat 116, Char.ofNat 97, Char.ofNat 114, Char.ofNat 79, Char.ofNat 102], [Char.ofNat 108, Char.ofNat 111, Char.ofNat 111, Char.ofNat 112, Char.ofNat 46, Char.ofNat 101, Char.ofNat 120, Char.ofNat 97, Char.ofNat 109, Char.ofNat 112, Char.ofNat 108, Char.ofNat 101, Char.ofNat 47, Char.ofNat 103, Char.ofNat 48, Char.ofNat 48, Char.ofNat 55, Char.ofNat 53, Char.ofNat 56, Char.ofNat 47, Char.ofNat 108, Char.ofNat 97, Char.ofNat 119, Char.ofNat 115, Char.ofNat 46, Char.ofNat 70, Char.ofNat 110, Char.ofNat 69, Char.ofNat 120, Char.ofNat 97, Char.ofNat 99, Char.ofNat 116, Char.ofNat 74, Char.ofNat 111, Char.ofNat 105, Char.ofNat 110, Char.ofNat 79, Char.ofNat 102], [Char.ofNat 108, Char.ofNat 111, Char.ofNat 111, Char.ofNat 112, Char.ofNat 46, Char.ofNat 101, Char.ofNat 120, Char.ofNat 97, Char.ofNat 109, Char.ofNat 112, Char.ofNat 108, Char.ofNat 101, Char.ofNat 47, Char.ofNat 103, Char.ofNat 48, Char.ofNat 48, Char.ofNat 55, Char.ofNat 53, Char.ofNat 56, Char.ofNat 47, Char.ofNat 108, Char.ofNat 97, Char.ofNat 119, Char.ofNat 115, Char.ofNat 46, Char.ofNat 70, Char.ofNat 110, Char.ofNat 69, Char.ofNat 120, Char.ofNat 97, Char.ofNat 99, Char.ofNat 116, Char.ofNat 85, Char.ofNat 110, Char.ofNat 105, Char.ofNat 111, Char.ofNat 110, Char.ofNat 79, Char.ofNat 102], [Char.ofNat 108, Char.ofNat 111, Char.ofNat 111, Char.ofNat 112, Char.ofNat 46, Char.ofNat 101, Char.ofNat 120, Char.ofNat 97, Char.ofNat 109, Char.ofNat 112, Char.ofNat 108, Char.ofNat 101, Char.ofNat 47, Char.ofNat 103, Char.ofNat 48, Char.ofNat 48, Char.ofNat 55, Char.ofNat 53, Char.ofNat 56, Char.ofNat 47, Char.ofNat 108, Char.ofNat 97, Char.ofNat 119, Char.ofNat 115, Char.ofNat 46, Char.ofNat 70, Char.ofNat 110, Char.ofNat 69, Char.ofNat 120, Char.ofNat 97, Char.ofNat 99, Char.ofNat 116, Char.ofNat 80, Char.ofNat 117, Char.ofNat 109, Char.ofNat 112, Char.ofNat 79, Char.ofNat 102], [Char.ofNat 108, Char.ofNat 111, Char.ofNat 111, Char.ofNat 112, Char.ofNat 46, Char.ofNat 101, Char.ofNat 120, Char.ofNat 97, Char.ofNat 109, Char.ofNat 112, Char.ofNat 108, Char.ofNat 101, Char.ofNat 47, Char.ofNat 103, Char.ofNat 48, Char.ofNat 48, Char.ofNat 55, Char.ofNat 53, Char.ofNat 56, Char.ofNat 47, Char.ofNat 108, Char.ofNat 97, Char.ofNat 119, Char.ofNat 115, Char.ofNat 46, Char.ofNat 70, Char.ofNat 110, Char.ofNat 69, Char.ofNat 120, Char.ofNat 97, Char.ofNat 99, Char.ofNat 116, Char.ofNat 80, Char.ofNat 97, Char.ofNat 116, Char.ofNat 104, Char.ofNat 73, Char.ofNat 110], [Char.ofNat 108, Char.ofNat 111, Char.ofNat 111, Char.ofNat 112, Char.ofNat 46, Char.ofNat 101, Char.ofNat 120, Char.ofNat 97, Char.ofNat 109, Char.ofNat 112, Char.ofNat 108, Char.ofNat 101, Char.ofNat 47, Char.ofNat 103, Char.ofNat 48, Char.ofNat 48, Char.ofNat 55, Char.ofNat 53, Char.ofNat 56, Char.ofNat 47, Char.ofNat 108, Char.ofNat 97, Char.ofNat 119, Char.ofNat 115, Char.ofNat 46, Char.ofNat 70, Char.ofNat 110, Char.ofNat 69, Char.ofNat 120, Char.ofNat 97, Char.ofNat 99, Char.ofNat 116, Char.ofNat 76, Char.ofNat 101, Char.ofNat 97, Char.ofNat 115, Char.ofNat 116, Char.ofNat 77, Char.ofNat 101, Char.ofNat 110, Char.ofNat 100], [Char.ofNat 108, Char.ofNat 111, Char.ofNat 111, Char.ofNat 112, Char.ofNat 46, Char.ofNat 101, Char.ofNat 120, Char.ofNat 97, Char.ofNat 109, Char.ofNat 112, Char.ofNat 108, Char.ofNat 101, Char.ofNat 47, Char.ofNat 103, Char.ofNat 48, Char.ofNat 48, Char.ofNat 55, Char.ofNat 53, Char.ofNat 56, Char.ofNat 47, Char.ofNat 108, Char.ofNat 97, Char.ofNat 119, Char.ofNat 115, Char.ofNat 46, Char.ofNat 70, Char.ofNat 110, Char.ofNat 69, Char.ofNat 120, Char.ofNat 97, Char.ofNat 99, Char.ofNat 116, Char.ofNat 73, Char.ofNat 115, Char.ofNat 80, Char.ofNat 117, Char.ofNat 109, Char.ofNat 112], [Char.ofNat 108, Char.ofNat 111, Char.ofNat 111, Char.ofNat 112, Char.ofNat 46, Char.ofNat 101, Char.ofNat 120, Char.ofNat 97, Char.ofNat 109, Char.ofNat 112, Char.ofNat 108, Char.ofNat 101, Char.ofNat 47, Char.ofNat 103, Char.ofNat 48, Char.ofNat 48, Char.ofNat 55, Char.ofNat 53, Char.ofNat 56, Char.ofNat 47, Char.ofNat 108, Char.ofNat 97, Char.ofNat 119, Char.ofNat 115, Char.ofNat 46, Char.ofNat 70, Char.ofNat 110, Char.ofNat 69, Char.ofNat 120, Char.ofNat 97, Char.ofNat 99, Char.ofNat 116, Char.ofNat 67, Char.ofNat 111, Char.ofNat 117, Char.ofNat 110, Char.ofNat 116, Char.ofNat 66, Char.ofNat 121, Char.ofNat 76, Char.ofNat 111, Char.ofNat 110, Char.ofNat 103], [Char.ofNat 108, Char.ofNat 111, Char.ofNat 111, Char.ofNat 112, Char.ofNat 46, Char.ofNat 101, Char.ofNat 120, Char.ofNat 97, Char.ofNat 109, Char.ofNat 112, Char.ofNat 108, Char.ofNat 101, Char.ofNat 47, Char.ofNat 103, Char.ofNat 48, Char.ofNat 48, Char.ofNat 55, Char.ofNat 53, Char.ofNat 56, Char.ofNat 47, Char.ofNat 108, Char.ofNat 97, Char.ofNat 119, Char.ofNat 115, Char.ofNat 46, Char.ofNat 70, Char.ofNat 110, Char.ofNat 69, Char.ofNat 120, Char.ofNat 97, Char.ofNat 99, Char.ofNat 116, Char.ofNat 83, Char.ofNat 97, Char.ofNat 109, Char.ofNat 101, Char.ofNat 85, Char.ofNat 112, Char.ofNat 84, Char.ofNat 111], [Char.ofNat 108, Char.ofNat 111, Char.ofNat 111, Char.ofNat 112, Char.ofNat 46, Char.ofNat 101, Char.ofNat 120, Char.ofNat 97, Char.ofNat 109, Char.ofNat 112, Char.ofNat 108, Char.ofNat 101, Char.ofNat 47, Char.ofNat 103, Char.ofNat 48, Char.ofNat 48, Char.ofNat 55, Char.ofNat 53, Char.ofNat 56, Char.ofNat 47, Char.ofNat 108, Char.ofNat 97, Char.ofNat 119, Char.ofNat 115, Char.ofNat 46, Char.ofNat 70, Char.ofNat 110, Char.ofNat 69, Char.ofNat 120, Char.ofNat 97, Char.ofNat 99, Char.ofNat 116, Char.ofNat 67, Char.ofNat 111, Char.ofNat 115, Char.ofNat 116, Char.ofNat 84, Char.ofNat 97, Char.ofNat 98, Char.ofNat 108, Char.ofNat 101], [Char.ofNat 108, Char.ofNat 111, Char.ofNat 111, Char.ofNat 112, Char.ofNat 46, Char.ofNat 101, Char.ofNat 120, Char.ofNat 97, Char.ofNat 109, Char.ofNat 112, Char.ofNat 108, Char.ofNat 101, Char.ofNat 47, Char.ofNat 103, Char.ofNat 48, Char.ofNat 48, Char.ofNat 55, Char.ofNat 53, Char.ofNat 56, Char.ofNat 47, Char.ofNat 108, Char.ofNat 97, Char.ofNat 119, Char.ofNat 115, Char.ofNat 46, Char.ofNat 70, Char.ofNat 110, Char.ofNat 69, Char.ofNat 120, Char.ofNat 97, Char.ofNat 99, Char.ofNat 116, Char.ofNat 80, Char.ofNat 117, Char.ofNat 109, Char.ofNat 112, Char.ofNat 84, Char.ofNat 114, Char.ofNat 101, Char.ofNat 101], [Char.ofNat 108, Char.ofNat 111, Char.ofNat 111, Char.ofNat 112, Char.ofNat 46, Char.ofNat 101, Char.ofNat 120, Char.ofNat 97, Char.ofNat 109, Char.ofNat 112, Char.ofNat 108, Char.ofNat 101, Char.ofNat 47, Char.ofNat 103, Char.ofNat 48, Char.ofNat 48, Char.ofNat 55, Char.ofNat 53, Char.ofNat 56, Char.ofNat 47, Char.ofNat 108, Char.ofNat 97, Char.ofNat 119, Char.ofNat 115, Char.ofNat 46, Char.ofNat 70, Char.ofNat 110, Char.ofNat 69, Char.ofNat 120, Char.ofNat 97, Char.ofNat 99, Char.ofNat 116, Char.ofNat 67, Char.ofNat 111, Char.ofNat 117, Char.ofNat 110, Char.ofNat 116, Char.ofNat 83, Char.ofNat 105, Char.ofNat 122, Char.ofNat 101, Char.ofNat 100], [Char.ofNat 108, Char.ofNat 111, Char.ofNat 111, Char.ofNat 112, Char.ofNat 46, Char.ofNat 101, Char.ofNat 120, Char.ofNat 97, Char.ofNat 109, Char.ofNat 112, Char.ofNat 108, Char.ofNat 101, Char.ofNat 47, Char.ofNat 103, Char.ofNat 48, Char.ofNat 48, Char.ofNat 55, Char.ofNat 53, Char.ofNat 56, Char.ofNat 47, Char.ofNat 108, Char.ofNat 97, Char.ofNat 119, Char.ofNat 115, Char.ofNat 46, Char.ofNat 70, Char.ofNat 110, Char.ofNat 69, Char.ofNat 120, Char.ofNat 97, Char.ofNat 99, Char.ofNat 116, Char.ofNat 67, Char.ofNat 104, Char.ofNat 97, Char.ofNat 110, Char.ofNat 103, Char.ofNat 101, Char.ofNat 87, Char.ofNat 111, Char.ofNat 114, Char.ofNat 100], [Char.ofNat 108, Char.ofNat 111, Char.ofNat 111, Char.ofNat 112, Char.ofNat 46, Char.ofNat 101, Char.ofNat 120, Char.ofNat 97, Char.ofNat 109, Char.ofNat 112, Char.ofNat 108, Char.ofNat 101, Char.ofNat 47, Char.ofNat 103, Char.ofNat 48, Char.ofNat 48, Char.ofNat 55, Char.ofNat 53, Char.ofNat 56, Char.ofNat 47, Char.ofNat 108, Char.ofNat 97, Char.ofNat 119, Char.ofNat 115, Char.ofNat 46, Char.ofNat 70, Char.ofNat 110, Char.ofNat 69, Char.ofNat 120, Char.ofNat 97, Char.ofNat 99, Char.ofNat 116, Char.ofNat 77, Char.ofNat 101, Char.ofNat 110, Char.ofNat 100, Char.ofNat 84, Char.ofNat 97, Char.ofNat 98, Char.ofNat 108, Char.ofNat 101], [Char.ofNat 108, Char.ofNat 111, Char.ofNat 111, Char.ofNat 112, Char.ofNat 46, Char.ofNat 101, Char.ofNat 120, Char.ofNat 97, Char.ofNat 109, Char.ofNat 112, Char.ofNat 108, Char.ofNat 101, Char.ofNat 47, Char.ofNat 103, Char.ofNat 48, Char.ofNat 48, Char.ofNat 55, Char.ofNat 53, Char.ofNat 56, Char.ofNat 47, Char.ofNat 108, Char.ofNat 97, Char.ofNat 119, Char.ofNat 115, Char.ofNat 46, Char.ofNat 70, Char.ofNat 110, Char.ofNat 69, Char.ofNat 120, Char.ofNat 97, Char.ofNat 99, Char.ofNat 116, Char.ofNat 78, Char.ofNat 101, Char.ofNat 97, Char.ofNat 114, Char.ofNat 87, Char.ofNat 111, Char.ofNat 114, Char.ofNat 100], [Char.ofNat 108, Char.ofNat 111, Char.ofNat 111, Char.ofNat 112, Char.ofNat 46, Char.ofNat 101, Char.ofNat 120, Char.ofNat 97, Char.ofNat 109, Char.ofNat 112, Char.ofNat 108, Char.ofNat 101, Char.ofNat 47, Char.ofNat 103, Char.ofNat 48, Char.ofNat 48, Char.ofNat 55, Char.ofNat 53, Char.ofNat 56, Char.ofNat 47, Char.ofNat 108, Char.ofNat 97, Char.ofNat 119, Char.ofNat 115, Char.ofNat 46, Char.ofNat 70, Char.ofNat 110, Char.ofNat 69, Char.ofNat 120, Char.ofNat 97, Char.ofNat 99, Char.ofNat 116, Char.ofNat 70, Char.ofNat 105, Char.ofNat 114, Char.ofNat 115, Char.ofNat 116, Char.ofNat 85, Char.ofNat 110, Char.ofNat 108, Char.ofNat 105, Char.ofNat 107, Char.ofNat 101], [Char.ofNat 108, Char.ofNat 111, Char.ofNat 111, Char.ofNat 112, Char.ofNat 46, Char.ofNat 101, Char.ofNat 120, Char.ofNat 97, Char.ofNat 109, Char.ofNat 112, Char.ofNat 108, Char.ofNat 101, Char.ofNat 47, Char.ofNat 103, Char.ofNat 48, Char.ofNat 48, Char.ofNat 55, Char.ofNat 53, Char.ofNat 56, Char.ofNat 47, Char.ofNat 108, Char.ofNat 97, Char.ofNat 119, Char.ofNat 115, Char.ofNat 46, Char.ofNat 70, Char.ofNat 110, Char.ofNat 69, Char.ofNat 120, Char.ofNat 97, Char.ofNat 99, Char.ofNat 116, Char.ofNat 66, Char.ofNat 101, Char.ofNat 115, Char.ofNat 116, Char.ofNat 84, Char.ofNat 114, Char.ofNat 101, Char.ofNat 101], [Char.ofNat 108, Char.ofNat 111, Char.ofNat 111, Char.ofNat 112, Char.ofNat 46, Char.ofNat 101, Char.ofNat 120, Char.ofNat 97, Char.ofNat 109, Char.ofNat 112, Char.ofNat 108, Char.ofNat 101, Char.ofNat 47, Char.ofNat 103, Char.ofNat 48, Char.ofNat 48, Char.ofNat 55, Char.ofNat 53, Char.ofNat 56, Char.ofNat 47, Char.ofNat 108, Char.ofNat 97, Char.ofNat 119, Char.ofNat 115, Char.ofNat 46, Char.ofNat 70, Char.ofNat 110, Char.ofNat 69, Char.ofNat 120, Char.ofNat 97, Char.ofNat 99, Char.ofNat 116, Char.ofNat 84, Char.ofNat 114, Char.ofNat 101, Char.ofNat 101, Char.ofNat 115, Char.ofNat 85, Char.ofNat 112, Char.ofNat 84, Char.ofNat 111]]
theorem io4 : behindMainWord (wordsSigns signs) = behind := by kernel_rfl
theorem io3 : behindMainWord (wordsSigns Try.prog.initOrder.toList) = behind := by rw [io2, io4]
theorem may : Try.prog.mayEnter = true := may_of (l := []) io3 (by rfl) (by kernel_rfl) (by kernel_rfl) (by kernel_rfl) (by kernel_rfl) rfl (by kernel_rfl)
theorem fin : Try.prog.liftsFinal = false := lifts_of io3 (by kernel_rfl) (by kernel_rfl)
theorem mk : Try.prog.make = some .cut := make_of io3 (by rfl) (by kernel_rfl) (by kernel_rfl)
theorem own : ownKnob Try.prog.godebug = none := by kernel_rfl
theorem laidOut : laidOutB Try.prog = true := by kernel_rfl
theorem rowed : mapsRowed Try.prog = true := by kernel_rfl
def lightFacts (P : Program) (f : FuncId) (fn : Func) (s : ChangeSpec) (c : OpenClaim) : Bool :=
  c.wf (OpenSpec.ofChange s) && fn.params.all (P.readableRec ·) && namedTie P c.named s.vars && (c.stops == []) && (P.stops == []) && (c.knobs == []) && (P.stopKnobs == []) && (c.inPlace == P.inPlace f) && (c.unfollowed == P.unfollowed f) && (c.recurses == P.recurses f) && (c.named == P.varsNamed f) && (c.maps == (fn.params.toList ++ s.plain.varTypes P).any (P.mapsRec ·)) && (c.ifaces == (fn.params.toList ++ s.plain.varTypes P).any (P.ifacesRec ·)) && (c.mapsOut == P.mapsAmong fn.resultTypes.toList) && (c.loops == (fn.params.toList ++ s.plain.varTypes P).any (P.loopsFrom ·)) && (c.wideKeys == (fn.params.toList ++ s.plain.varTypes P ++ fn.resultTypes.toList).any (P.wideKeysFrom ·)) && s.vars.all (P.varReadable ·) && fn.resultTypes.all (fun t => P.readableRec t && decide (t < P.types.size)) && (c.ifacesOut == fn.resultTypes.toList.any (P.ifacesRec ·)) && (c.loopsOut == fn.resultTypes.toList.any (P.loopsFrom ·)) && (c.plainKeys == P.plainKeys) && c.shortTexts.isNone && P.stopsHeard && (c.kinds == (if c.domain.isEmpty then [] else fn.params.toList.map fun t => match P.underlying t with | some (.int k) => some k | _ => none)) && (c.pinned == c.pinnedBy) && (c.veiled == (fn.params.toList ++ s.plain.varTypes P ++ fn.resultTypes.toList).any (P.veiledRec ·)) && c.veiledFits P fn.params.toList (fn.params.toList ++ s.plain.varTypes P ++ fn.resultTypes.toList)
theorem facts_of {f : FuncId} {fn : Func} {s : ChangeSpec} {c : OpenClaim} (hl : c.lifted = false) (hm : c.make = .cut) (h : lightFacts Try.prog f fn s c = true) : joinedFacts Try.prog f fn s c = true := by
  unfold lightFacts at h
  unfold joinedFacts
  simp only [Bool.and_eq_true] at h ⊢
  obtain ⟨⟨⟨⟨⟨⟨⟨⟨⟨⟨⟨⟨⟨⟨⟨⟨⟨⟨⟨⟨⟨⟨⟨⟨⟨⟨k0, k3⟩, k4⟩, k5⟩, k6⟩, k7⟩, k8⟩, k9⟩, k10⟩, k11⟩, k12⟩, k13⟩, k14⟩, k15⟩, k16⟩, k17⟩, k18⟩, k19⟩, k20⟩, k21⟩, k22⟩, k23⟩, k24⟩, k28⟩, k29⟩, k30⟩, k31⟩ := h
  exact ⟨⟨⟨⟨⟨⟨⟨⟨⟨⟨⟨⟨⟨⟨⟨⟨⟨⟨⟨⟨⟨⟨⟨⟨⟨⟨⟨⟨⟨⟨⟨k0, laidOut⟩, rowed⟩, k3⟩, k4⟩, k5⟩, k6⟩, k7⟩, k8⟩, k9⟩, k10⟩, k11⟩, k12⟩, k13⟩, k14⟩, k15⟩, k16⟩, k17⟩, k18⟩, k19⟩, k20⟩, k21⟩, k22⟩, k23⟩, k24⟩, may⟩, (by rw [hl, fin]; rfl)⟩, (by rw [hm, mk]; rfl)⟩, k28⟩, k29⟩, k30⟩, k31⟩
end Go.Proofs.Ytiohaeckagjebaa
