/- Texts of this repository put together: ShE2, ShE4, ShE5, ShU2, ShH6, Bm, ShJ0, ShU4, ShU8, ShU3, ShU9, Ci, ShI1, ShD3, ShU5, ShU6, ShY1, ShX1, ShX2, ShY2, ShZ1, ShD1, ShE3, ShD2, ShM1, ShM2, ShM3, ShM5. -/
import Derived.Test.YtegcjkhebecgbaaKMendc
import Derived.Test.YtegcjkhebecgbaaKMendb
import Derived.Test.YtegcjkhebecgbaaProg
import Derived.Test.YtegcjkhebecgbaaKMenda

/- Contracts: Derives, InLanguage, SequenceDerives. -/
set_option linter.unusedVariables false
set_option linter.unusedSimpArgs false
set_option maxRecDepth 100000
namespace Go.Sh
open Go
def wordG (gm : Gram) (ws : List Int) : Bool := goodG gm && wordB gm.toks ws
noncomputable def inLV (gm : Gram) (ws : List Int) : Bool × Bool := if wordG gm ws = true then (inL gm.rules ws, true) else (false, false)
theorem wordB_of {toks : Int} {ws : List Int} (h : wordB toks ws = true) : ws.length ≤ 10 ∧ ∀ t ∈ ws, 0 ≤ t ∧ t ≤ toks - 1 := by
  simp only [wordB, allB, inB, Bool.and_eq_true, decide_eq_true_eq, List.all_eq_true] at h
  exact h
end Go.Sh
namespace Go.Proofs.Ytegcjkhebecgbaa
open Go Go.Sh Go.RowKit
section
variable {w : World} {X Z Y : Option Addr} {cx cz cy : Nat} {gm : Gram} {ws xs : List Int} {k : Value → World → Prop}
abbrev grv (gm : Gram) (Y : Option Addr) (cy : Nat) : Value := .agg #[.int .i64 gm.nons, .int .i64 gm.toks, .slice Y gm.rules.length cy]
set_option maxHeartbeats 1600000 in
theorem implInLanguage_c (hG : kG Y cy gm.rules w) (hX : kI X ws cx w) (hk : ∀ w', Gr w w' → k (.tuple #[.bool (inLV gm ws).1, .bool (inLV gm ws).2]) w') :
    CallK Try.prog 26 [grv gm Y cy, .slice X ws.length cx] k w := by
  refine enter26 ?_
  unfold S26
  have H := ((Kn.nil w).addG hG.1 hG.2).addI hX.1 hX.2
  refine do_box fun b1 w1 g1 hb B1 => ?_
  have H := (H.step g1).addB B1
  rw [ldB_agg agg26 sz26 rfl (H.get 3 rfl)]
  refine isGrammar_c (gvK (H.get 1 rfl)) fun w2 g => ?_
  have H := H.step g
  unfold inLV wordG at hk
  cases hg : goodG gm
  · simp only [Bool.not_false, bin_add, bin_sub, bin_mul, bin_eql, bin_neq, bin_lss, bin_leq, bin_gtr, bin_geq, un_not, un_neg, pick_true, pick_false, extract_two_0, extract_two_1, nilCheck_pointer, cond_true', cond_false', guard_tt, guard_ff, guard_tf, guard_ft, guard_undef, seqQ_normal, seqQ_ret, seqQ_exit, blockQ_ret, blockQ_normal, blockQ_exit, bodyQ_ret, bodyQ_normal, resK_nil, resK_tmp, ite_T, ite_F, upd_at, add_plain, add_zero', Nat.reduceEqDiff, fa8_0, fa8_1, fa8_2, fa8_3, fa14_0, fa14_1, fa19_0, len22, len24, fa26_0, fa26_1, fa26_2, len27, fa33_0, fa33_1, len35, fa77_0, fa77_1, fa88_0, fa88_1, fa88_2, fa88_3, fa88_4, fa88_5, fa114_0, fa114_1, fa114_2, fa124_0, fa124_1, len134, len136, len154, fa156_0, fa156_1, fa156_2, fa156_3, fa156_4, fa156_5, fa156_6, fa184_0, fa184_1, fa200_0, fa200_1, fa200_2, fa200_3, fa215_0, fa215_1, fa215_2, fa215_3, fa215_4, len218, len271, fa274_0, fa274_1, fa274_2, fa303_0, fa303_1, fa303_2, fa303_3, fa314_0, fa314_1, fa314_2, fa314_3, fa314_4, fa314_5, fa314_6, fa314_7, fa314_8, fa314_9, fa314_10]
    rw [hg, Bool.false_and, if_neg Bool.false_ne_true] at hk
    exact hk _ (H.get 0 rfl)
  rw [hg, Bool.true_and] at hk
  have hn := good_nons hg
  have ht := good_toks hg
  simp only [Bool.not_true, bin_add, bin_sub, bin_mul, bin_eql, bin_neq, bin_lss, bin_leq, bin_gtr, bin_geq, un_not, un_neg, pick_true, pick_false, extract_two_0, extract_two_1, nilCheck_pointer, cond_true', cond_false', guard_tt, guard_ff, guard_tf, guard_ft, guard_undef, seqQ_normal, seqQ_ret, seqQ_exit, blockQ_ret, blockQ_normal, blockQ_exit, bodyQ_ret, bodyQ_normal, resK_nil, resK_tmp, ite_T, ite_F, upd_at, add_plain, add_zero', Nat.reduceEqDiff, fa8_0, fa8_1, fa8_2, fa8_3, fa14_0, fa14_1, fa19_0, len22, len24, fa26_0, fa26_1, fa26_2, len27, fa33_0, fa33_1, len35, fa77_0, fa77_1, fa88_0, fa88_1, fa88_2, fa88_3, fa88_4, fa88_5, fa114_0, fa114_1, fa114_2, fa124_0, fa124_1, len134, len136, len154, fa156_0, fa156_1, fa156_2, fa156_3, fa156_4, fa156_5, fa156_6, fa184_0, fa184_1, fa200_0, fa200_1, fa200_2, fa200_3, fa215_0, fa215_1, fa215_2, fa215_3, fa215_4, len218, len271, fa274_0, fa274_1, fa274_2, fa303_0, fa303_1, fa303_2, fa303_3, fa314_0, fa314_1, fa314_2, fa314_3, fa314_4, fa314_5, fa314_6, fa314_7, fa314_8, fa314_9, fa314_10]
  rw [ldB3 (H.get 3 rfl) rfl]
  refine isWord_c (H.get 2 rfl).1 rfl (by omega) (by omega) fun w3 g => ?_
  have H := H.step g
  cases hw : wordB gm.toks ws
  · simp only [Bool.not_false, bin_add, bin_sub, bin_mul, bin_eql, bin_neq, bin_lss, bin_leq, bin_gtr, bin_geq, un_not, un_neg, pick_true, pick_false, extract_two_0, extract_two_1, nilCheck_pointer, cond_true', cond_false', guard_tt, guard_ff, guard_tf, guard_ft, guard_undef, seqQ_normal, seqQ_ret, seqQ_exit, blockQ_ret, blockQ_normal, blockQ_exit, bodyQ_ret, bodyQ_normal, resK_nil, resK_tmp, ite_T, ite_F, upd_at, add_plain, add_zero', Nat.reduceEqDiff, fa8_0, fa8_1, fa8_2, fa8_3, fa14_0, fa14_1, fa19_0, len22, len24, fa26_0, fa26_1, fa26_2, len27, fa33_0, fa33_1, len35, fa77_0, fa77_1, fa88_0, fa88_1, fa88_2, fa88_3, fa88_4, fa88_5, fa114_0, fa114_1, fa114_2, fa124_0, fa124_1, len134, len136, len154, fa156_0, fa156_1, fa156_2, fa156_3, fa156_4, fa156_5, fa156_6, fa184_0, fa184_1, fa200_0, fa200_1, fa200_2, fa200_3, fa215_0, fa215_1, fa215_2, fa215_3, fa215_4, len218, len271, fa274_0, fa274_1, fa274_2, fa303_0, fa303_1, fa303_2, fa303_3, fa314_0, fa314_1, fa314_2, fa314_3, fa314_4, fa314_5, fa314_6, fa314_7, fa314_8, fa314_9, fa314_10]
    rw [hw, if_neg Bool.false_ne_true] at hk
    exact hk _ (H.get 0 rfl)
  rw [hw, if_pos rfl] at hk
  simp only [Bool.not_true, bin_add, bin_sub, bin_mul, bin_eql, bin_neq, bin_lss, bin_leq, bin_gtr, bin_geq, un_not, un_neg, pick_true, pick_false, extract_two_0, extract_two_1, nilCheck_pointer, cond_true', cond_false', guard_tt, guard_ff, guard_tf, guard_ft, guard_undef, seqQ_normal, seqQ_ret, seqQ_exit, blockQ_ret, blockQ_normal, blockQ_exit, bodyQ_ret, bodyQ_normal, resK_nil, resK_tmp, ite_T, ite_F, upd_at, add_plain, add_zero', Nat.reduceEqDiff, fa8_0, fa8_1, fa8_2, fa8_3, fa14_0, fa14_1, fa19_0, len22, len24, fa26_0, fa26_1, fa26_2, len27, fa33_0, fa33_1, len35, fa77_0, fa77_1, fa88_0, fa88_1, fa88_2, fa88_3, fa88_4, fa88_5, fa114_0, fa114_1, fa114_2, fa124_0, fa124_1, len134, len136, len154, fa156_0, fa156_1, fa156_2, fa156_3, fa156_4, fa156_5, fa156_6, fa184_0, fa184_1, fa200_0, fa200_1, fa200_2, fa200_3, fa215_0, fa215_1, fa215_2, fa215_3, fa215_4, len218, len271, fa274_0, fa274_1, fa274_2, fa303_0, fa303_1, fa303_2, fa303_3, fa314_0, fa314_1, fa314_2, fa314_3, fa314_4, fa314_5, fa314_6, fa314_7, fa314_8, fa314_9, fa314_10]
  have hW := wordB_of hw
  rw [ldB_agg agg26 sz26 rfl (H.get 3 rfl)]
  refine spans_c (gvK (H.get 1 rfl)) hg (H.get 2 rfl).1 rfl hW.1 (fun t ht' => by have := hW.2 t ht'; omega) fun w4 bT HT => ?_
  have H := H.step HT.gr
  simp only [bin_add, bin_sub, bin_mul, bin_eql, bin_neq, bin_lss, bin_leq, bin_gtr, bin_geq, un_not, un_neg, pick_true, pick_false, extract_two_0, extract_two_1, nilCheck_pointer, cond_true', cond_false', guard_tt, guard_ff, guard_tf, guard_ft, guard_undef, seqQ_normal, seqQ_ret, seqQ_exit, blockQ_ret, blockQ_normal, blockQ_exit, bodyQ_ret, bodyQ_normal, resK_nil, resK_tmp, ite_T, ite_F, upd_at, add_plain, add_zero', Nat.reduceEqDiff, fa8_0, fa8_1, fa8_2, fa8_3, fa14_0, fa14_1, fa19_0, len22, len24, fa26_0, fa26_1, fa26_2, len27, fa33_0, fa33_1, len35, fa77_0, fa77_1, fa88_0, fa88_1, fa88_2, fa88_3, fa88_4, fa88_5, fa114_0, fa114_1, fa114_2, fa124_0, fa124_1, len134, len136, len154, fa156_0, fa156_1, fa156_2, fa156_3, fa156_4, fa156_5, fa156_6, fa184_0, fa184_1, fa200_0, fa200_1, fa200_2, fa200_3, fa215_0, fa215_1, fa215_2, fa215_3, fa215_4, len218, len271, fa274_0, fa274_1, fa274_2, fa303_0, fa303_1, fa303_2, fa303_3, fa314_0, fa314_1, fa314_2, fa314_3, fa314_4, fa314_5, fa314_6, fa314_7, fa314_8, fa314_9, fa314_10]
  refine rdi (ixa122 (by decide) (by decide)) ?_
  refine rdi (ixa121 (by decide) (by decide)) ?_
  refine rdi (ixa120 (by omega) (by omega)) ?_
  simp only [Int.toNat_natCast, bin_add, bin_sub, bin_mul, bin_eql, bin_neq, bin_lss, bin_leq, bin_gtr, bin_geq, un_not, un_neg, pick_true, pick_false, extract_two_0, extract_two_1, nilCheck_pointer, cond_true', cond_false', guard_tt, guard_ff, guard_tf, guard_ft, guard_undef, seqQ_normal, seqQ_ret, seqQ_exit, blockQ_ret, blockQ_normal, blockQ_exit, bodyQ_ret, bodyQ_normal, resK_nil, resK_tmp, ite_T, ite_F, upd_at, add_plain, add_zero', Nat.reduceEqDiff, fa8_0, fa8_1, fa8_2, fa8_3, fa14_0, fa14_1, fa19_0, len22, len24, fa26_0, fa26_1, fa26_2, len27, fa33_0, fa33_1, len35, fa77_0, fa77_1, fa88_0, fa88_1, fa88_2, fa88_3, fa88_4, fa88_5, fa114_0, fa114_1, fa114_2, fa124_0, fa124_1, len134, len136, len154, fa156_0, fa156_1, fa156_2, fa156_3, fa156_4, fa156_5, fa156_6, fa184_0, fa184_1, fa200_0, fa200_1, fa200_2, fa200_3, fa215_0, fa215_1, fa215_2, fa215_3, fa215_4, len218, len271, fa274_0, fa274_1, fa274_2, fa303_0, fa303_1, fa303_2, fa303_3, fa314_0, fa314_1, fa314_2, fa314_3, fa314_4, fa314_5, fa314_6, fa314_7, fa314_8, fa314_9, fa314_10]
  have hoff : 0 + (0 + 1) + Int.toNat 0 * 121 + Int.toNat 0 * 11 + ws.length = 0 * 121 + 0 * 11 + ws.length + 1 := by
    rw [show Int.toNat 0 = 0 from rfl]
    omega
  rw [hoff]
  refine rdi (ldB4 (HT.box 0 rfl) (cellsT_at (by decide) (by decide) (by omega))) ?_
  exact hk _ (H.get 0 rfl)
end
end Go.Proofs.Ytegcjkhebecgbaa

/- Contracts: DrawDerives, DrawShortWords, DrawInLanguage, DrawSpansOf, DrawSequenceDerives. -/
set_option linter.unusedVariables false
set_option linter.unusedSimpArgs false
set_option maxRecDepth 100000
namespace Go.Proofs.Ytegcjkhebecgbaa
open Go Go.Sh Go.RowKit
theorem inf114' : Inf Try.prog 114 (.agg #[.slice none 0 0, .int .i64 0, .int .u64 0]) 3 40 := inf_of (by kernel_rfl)
theorem bd114 {S : WS} {k : Value → Prop} {ps : List (Nat × Value)} {cells : Array Value} (hf : Instr.fill (#[(0, 1), (1, 1), (2, 1)][·]?) #[.slice none 0 0, .int .i64 0, .int .u64 0] ps = some cells) : Rd Try.prog S (sBuild 114 ps) k = k (.agg cells) :=
  rd_build3 Try.underlying114 inf114' sz22 sz3 sz112 hf
abbrev zg : List Value := [.int .i64 0, .int .i64 0, .slice none 0 0]
section
variable {w0 w : World} {E : List Thing} {C : Option Addr} {cap : Nat} {bs : List Int} {k : Value → World → Prop}
/-- A draw begins: a place for the grammar, a cursor. -/
theorem draw0 {K : Value → Value → Value → World → Prop} (h : ∀ b1 b4 w', Apt w w' [cur b4 (.slice C bs.length cap) 0, bx b1 zg 26] → K (ptrv b1) (.agg #[.slice C bs.length cap, .int .i64 0, .int .u64 0]) (ptrv b4) w') :
    Do Try.prog (sAlloc 26) (fun t1 w2 => Rd Try.prog (WS.at w2) (sBuild 114 [(0, .slice C bs.length cap)]) fun t3 => Do Try.prog (sBox 114 t3) (fun t4 w5 => K t1 t3 t4 w5) w2) w := by
  have H := Apt.nil w
  refine allocH H inf26 fun b1 w1 H => ?_
  refine rdi (bd114 (cells := #[.slice C bs.length cap, .int .i64 0, .int .u64 0]) rfl) ?_
  refine boxH H fun b4 w2 H => ?_
  simp only [List.nil_append, List.cons_append] at H
  have H := H.shutCur (N := 0) (tc := TC) (bc := b4) (cv := .slice C bs.length cap) (a := 0) (s := 0) 1 rfl (by omega) (by omega)
  simp only [List.set_cons_succ, List.set_cons_zero] at H
  exact h b1 b4 w2 (H.perm (List.Perm.swap _ _ _))
theorem rdS26 {S : WS} {k : Value → Prop} {b e : Nat} {cs : List Value} (hl : cs.length = 3) (h : ∀ w', S.S w' → Box w' b cs e) : Rd Try.prog S (sLoad 26 (ptrv b)) k = k (.agg cs.toArray) := by
  refine rd_loadAgg agg26 sz26 (cs := cs) hl fun w' hw j hj => ?_
  rw [show (⟨b, 0, none⟩ : Addr).add j = ⟨b, 0 + j, none⟩ from add_plain b 0 j, Nat.zero_add, (h w' hw).cell j]
  exact List.getElem?_eq_getElem hj
theorem gowK {ft : Nat → Prop} {Y : Option Addr} {cy : Nat} {rs : List RuleL} (h : OwnG 33 ft w 0 Y cy rs) : kG Y cy rs w := by
  have h1 := h.read
  obtain ⟨cells, hr, _⟩ := h
  exact ⟨hr.cap.1, h1⟩
set_option maxHeartbeats 1600000 in
theorem drawInLanguage_c (hC : Byts w C bs) (hk : ∀ w' gm ft Y cy X cx ws, Drawn 101 gm → Apt w w' [ows X cx ws, gth ft Y cy gm.rules] → k (.tuple #[grv gm Y cy, .slice X (List.length ws) cx]) w') :
    CallK Try.prog 43 [.slice C bs.length cap] k w := by
  refine enter43 ?_
  unfold S43
  refine draw0 fun b1 b4 w1 H => ?_
  refine any_c H hC (by omega) fun w2 gm ft Y cy hd H => ?_
  refine allocH H inf26 fun b8 w3 H => ?_
  refine storeH H 3 rfl sz26 rfl rfl rfl fun w4 H => ?_
  simp only [List.cons_append, List.nil_append, List.set_cons_zero, List.set_cons_succ] at H
  have H := H.drew
  refine ⟨fun w' => Box w' b8 [.int .i64 gm.nons, .int .i64 gm.toks, .slice Y gm.rules.length cy] 26, H.box 3 rfl, ?_⟩
  refine rdi (rdS26 rfl fun w' h => h) (rdi (rdS26 rfl fun w' h => h) ?_)
  have hG := gowK (H.gow 1 rfl)
  refine wordIn_c H hC (by omega) hG.1 hG.2 hd.toks fun w7 Z d ws _ H => ?_
  refine ⟨H.box 4 rfl, ?_⟩
  refine storeH H 3 rfl sz26 rfl rfl rfl fun w8 H => ?_
  simp only [List.cons_append, List.nil_append, List.set_cons_zero, List.set_cons_succ] at H
  rw [rd_loadVar, ldB_agg agg26 sz26 rfl (H.box 3 rfl)]
  have H := ((H.erase 0).erase 3).erase 2
  simp only [List.eraseIdx_cons_zero, List.eraseIdx_cons_succ] at H
  exact hk w8 gm ft Y cy Z d ws hd H
end
end Go.Proofs.Ytegcjkhebecgbaa

/- What the drawn laws do: comparisons of yes and no, boxes of rules, bytes that are known. -/
set_option linter.unusedVariables false
set_option linter.unusedSimpArgs false
set_option maxRecDepth 100000
namespace Go.Proofs.Ytegcjkhebecgbaa
open Go Go.Sh Go.RowKit
abbrev kC (C : Option Addr) (bs : List Int) : World → Prop := fun w => Byts w C bs
section
variable {S : WS} {k : Value → Prop}
theorem bneq {c x y : Bool} : Rd Try.prog S (sBin .neq 4 c (.bool x) (.bool y)) k = k (.bool (!(x == y))) := bin_neq_bool Try.underlying4
theorem extract3_0 {a b c : Value} : Rd Try.prog S (sExtract (.tuple #[a, b, c]) 0) k = k a := extract_three_0
theorem extract3_1 {a b c : Value} : Rd Try.prog S (sExtract (.tuple #[a, b, c]) 1) k = k b := extract_three_1
theorem extract3_2 {a b c : Value} : Rd Try.prog S (sExtract (.tuple #[a, b, c]) 2) k = k c := extract_three_2
end
section
variable {w w' : World} {L : List (World → Prop)}
theorem knC (H : Kn w L) {C : Option Addr} {bs : List Int} (h : Byts w C bs) : Kn w (L ++ [kC C bs]) := H.add fun w' g => h.gr g
/-- A drawn grammar is known from now on. -/
theorem knG (H : Kn w L) {ft : Nat → Prop} {Y : Option Addr} {cy : Nat} {rs : List RuleL} {w0 : World} {M : List Thing} (A : Apt w0 w M) (i : Nat) (hi : M[i]? = some (gth ft Y cy rs)) : Kn w (L ++ [kG Y cy rs]) :=
  H.addG (gowK (A.gow i hi)).1 (gowK (A.gow i hi)).2
theorem knI (H : Kn w L) {X : Option Addr} {cx : Nat} {xs : List Int} {w0 : World} {M : List Thing} (A : Apt w0 w M) (i : Nat) (hi : M[i]? = some (ows X cx xs)) : Kn w (L ++ [kI X xs cx]) :=
  H.addI (A.ints i hi) (A.row i hi).cap.1
/-- A grammar is put into a place of its own. -/
theorem newG {k : Value → World → Prop} (H : Kn w L) {gm : Gram} {Y : Option Addr} {cy : Nat} (h : ∀ b w', Kn w' (L ++ [kB b [.int .i64 gm.nons, .int .i64 gm.toks, .slice Y gm.rules.length cy] 26]) → k (ptrv b) w') :
    Do Try.prog (sAlloc 26) (fun p w1 => Do Try.prog (sStore 26 p (grv gm Y cy)) (fun _ w2 => k p w2) w1) w :=
  do_new (cs := [.int .i64 gm.nons, .int .i64 gm.toks, .slice Y gm.rules.length cy]) H inf26 sz26 rfl rfl rfl rfl h
end
end Go.Proofs.Ytegcjkhebecgbaa

/- Contracts: words of so many tokens, and all short words of a language, by the program. -/
set_option linter.unusedVariables false
set_option linter.unusedSimpArgs false
set_option maxRecDepth 100000
namespace Go.Sh
open Go
/-- Slices of numbers of which those from place n on are the call's own still. -/
structure OwnSF (e1 e2 : Nat) (w : World) (B : Nat) (X : Option Addr) (c : Nat) (ls : List (List Int)) (ps : Nat → Option Addr × Nat) (n : Nat) : Prop where
  row : ∃ cells, Row w B e1 1 X ls.length c cells ∧ ∀ j, j < ls.length → cells[j]? = some (.slice (ps j).1 (rgt ls j).length (ps j).2)
  own : ∀ j, n ≤ j → j < ls.length → Own e2 w B (ps j).1 (ps j).2 (rgt ls j)
  two : ∀ i j, n ≤ i → n ≤ j → i < ls.length → j < ls.length → i ≠ j → blk (ps i).1 = none ∨ blk (ps i).1 ≠ blk (ps j).1
def FootF (X : Option Addr) (ps : Nat → Option Addr × Nat) (n m : Nat) (q : Nat) : Prop := blk X = some q ∨ ∃ l, n ≤ l ∧ l < m ∧ blk (ps l).1 = some q
section
variable {e1 e2 c n B : Nat} {w w' w0 : World} {X : Option Addr} {ls : List (List Int)} {ps : Nat → Option Addr × Nat} {L : List Thing}
theorem OwnSF.same (h : OwnSF e1 e2 w B X c ls ps n) (hs : ∀ q, FootF X ps n ls.length q → w'.heap[q]? = w.heap[q]?) : OwnSF e1 e2 w' B X c ls ps n := by
  obtain ⟨⟨cells, hr, hc⟩, ho, ht⟩ := h
  exact ⟨⟨cells, hr.same fun q hq => hs q (.inl hq), hc⟩, fun j hn hj => Row.same (ho j hn hj) fun q hq => hs q (.inr ⟨j, hn, hj, hq⟩), ht⟩
theorem OwnSF.up {B' : Nat} (h : OwnSF e1 e2 w B X c ls ps n) (hs : ∀ q, FootF X ps n ls.length q → B' ≤ q) : OwnSF e1 e2 w B' X c ls ps n := by
  obtain ⟨⟨cells, hr, hc⟩, ho, ht⟩ := h
  exact ⟨⟨cells, hr.up fun q hq => hs q (.inl hq), hc⟩, fun j hn hj => Row.up (ho j hn hj) fun q hq => hs q (.inr ⟨j, hn, hj, hq⟩), ht⟩
theorem OwnSF.mono {B' : Nat} (h : OwnSF e1 e2 w B X c ls ps n) (hb : B' ≤ B) : OwnSF e1 e2 w B' X c ls ps n := by
  obtain ⟨⟨cells, hr, hc⟩, ho, ht⟩ := h
  exact ⟨⟨cells, Row.mono hr hb, hc⟩, fun j hn hj => Row.mono (ho j hn hj) hb, ht⟩
theorem OwnSF.foot (h : OwnSF e1 e2 w B X c ls ps n) {q : Nat} (hq : FootF X ps n ls.length q) : B ≤ q ∧ q < w.heap.size := by
  obtain ⟨⟨cells, hr, hc⟩, ho, ht⟩ := h
  rcases hq with hq | ⟨l, hn, hl, hq⟩
  · exact hr.ge hq
  · exact Row.ge (ho l hn hl) hq
theorem OwnSF.ptr (h : OwnSF e1 e2 w B X c ls ps n) (hl : 0 < ls.length) : X = some (ad X) := by
  obtain ⟨⟨cells, hr, hc⟩, _⟩ := h
  exact hr.ptr hl
theorem OwnSF.cell (h : OwnSF e1 e2 w B X c ls ps n) {j : Nat} (hj : j < ls.length) : w.cell? ((ad X).add j) = some (.slice (ps j).1 (rgt ls j).length (ps j).2) := by
  obtain ⟨⟨cells, hr, hc⟩, _⟩ := h
  exact hr.src.cell _ _ (hc j hj)
def lsfi (e1 e2 : Nat) (X : Option Addr) (c : Nat) (ls : List (List Int)) (ps : Nat → Option Addr × Nat) (n : Nat) : Thing := ⟨fun w => OwnSF e1 e2 w 0 X c ls ps n, FootF X ps n ls.length⟩
theorem Apt.lsfi (H : Apt w0 w L) (i : Nat) (hi : L[i]? = some (lsfi e1 e2 X c ls ps n)) : OwnSF e1 e2 w w0.heap.size X c ls ps n := OwnSF.up (H.get i hi) (H.ok i _ hi).lo
theorem Apt.lsf0 (H : Apt w0 w L) (i : Nat) (hi : L[i]? = some (Sh.lssi e1 e2 X c ls ps)) : Apt w0 w (L.set i (Sh.lsfi e1 e2 X c ls ps 0)) := by
  have o := H.lssi i hi
  refine H.set hi (Gx.refl _ w) (fun q hq => .inl ?_) (fun q hq => (o.foot ?_).2) fun w' hs => ?_
  · rcases hq with hq | ⟨l, _, hl, hq⟩
    · exact .inl hq
    · exact .inr ⟨l, hl, hq⟩
  · rcases hq with hq | ⟨l, _, hl, hq⟩
    · exact .inl hq
    · exact .inr ⟨l, hl, hq⟩
  · have o' : OwnSF e1 e2 w w0.heap.size X c ls ps 0 := ⟨o.row, fun j _ hj => o.own j hj, fun i j _ _ hi hj => o.two i j hi hj⟩
    exact (o'.mono (Nat.zero_le _)).same hs
/-- The slice at place n is taken out. -/
theorem Apt.pull (H : Apt w0 w L) (j : Nat) (he : e1 ≠ e2) (hj : L[j]? = some (Sh.lsfi e1 e2 X c ls ps n)) (hn : n < ls.length) : Apt w0 w (L.set j (Sh.lsfi e1 e2 X c ls ps (n + 1)) ++ [rwi e2 1 (ps n).1 (rgt ls n).length (ps n).2 (Sh.ints (rgt ls n))]) := by
  have o := H.lsfi j hj
  have okj := H.ok j _ hj
  have hsub : ∀ q, FootF X ps (n + 1) ls.length q → FootF X ps n ls.length q := fun q hq => by
    rcases hq with hq | ⟨l, h1, hl, hq⟩
    · exact .inl hq
    · exact .inr ⟨l, by omega, hl, hq⟩
  have hin : ∀ q, blk (ps n).1 = some q → FootF X ps n ls.length q := fun q hq => .inr ⟨n, Nat.le_refl _, hn, hq⟩
  have hoff : ∀ q, FootF X ps (n + 1) ls.length q → blk (ps n).1 ≠ some q := fun q hq e => by
    rcases hq with hq | ⟨l, h1, hl, hq⟩
    · obtain ⟨cells, hr, _⟩ := o.row
      rcases row_ne (o.own n (Nat.le_refl _) hn) hr (fun e => he e.symm) with h | h
      · rw [h] at e; cases e
      · exact h (e.trans hq.symm)
    · rcases o.two n l (Nat.le_refl _) (by omega) hn hl (by omega) with h | h
      · rw [h] at e; cases e
      · exact h (e.trans hq.symm)
  have sub : ∀ l x, (L.set j (Sh.lsfi e1 e2 X c ls ps (n + 1)) ++ [rwi e2 1 (ps n).1 (rgt ls n).length (ps n).2 (Sh.ints (rgt ls n))])[l]? = some x → (l = j ∧ x = Sh.lsfi e1 e2 X c ls ps (n + 1)) ∨ (l ≠ j ∧ L[l]? = some x) ∨ (l = L.length ∧ x = rwi e2 1 (ps n).1 (rgt ls n).length (ps n).2 (Sh.ints (rgt ls n))) := fun l x hx => by
    rcases get_snoc hx with h | ⟨h1, h2⟩
    · rcases get_set h with h | h
      · exact .inl h
      · exact .inr (.inl h)
    · rw [List.length_set] at h1
      exact .inr (.inr ⟨h1, h2⟩)
  have ho := o.own n (Nat.le_refl _) hn
  refine ⟨H.gr, fun l x hx => ?_, fun l m x y hlm hx hy q hq hq' => ?_⟩
  · rcases sub l x hx with ⟨_, rfl⟩ | ⟨_, h⟩ | ⟨_, rfl⟩
    · have o' : OwnSF e1 e2 w w0.heap.size X c ls ps (n + 1) := ⟨o.row, fun i hi => o.own i (by omega), fun a b ha hb => o.two a b (by omega) (by omega)⟩
      exact ⟨fun q hq => okj.lo q (hsub q hq), fun q hq => okj.hi q (hsub q hq), fun w' hs => (o'.mono (Nat.zero_le _)).same hs⟩
    · exact H.ok l x h
    · exact ⟨fun q hq => okj.lo q (hin q hq), fun q hq => okj.hi q (hin q hq), rwi_kept ho⟩
  · rcases sub l x hx with ⟨hl, rfl⟩ | ⟨hl, h⟩ | ⟨hl, rfl⟩
    · rcases sub m y hy with ⟨hm, rfl⟩ | ⟨hm, h'⟩ | ⟨hm, rfl⟩
      · exact hlm (hl.trans hm.symm)
      · exact H.two j m _ y (fun e => hm e.symm) hj h' q (hsub q hq) hq'
      · exact hoff q hq hq'
    · rcases sub m y hy with ⟨hm, rfl⟩ | ⟨hm, h'⟩ | ⟨hm, rfl⟩
      · exact H.two l j x _ hl h hj q hq (hsub q hq')
      · exact H.two l m x y hlm h h' q hq hq'
      · exact H.two l j x _ hl h hj q hq (hin q hq')
    · rcases sub m y hy with ⟨hm, rfl⟩ | ⟨hm, h'⟩ | ⟨hm, rfl⟩
      · exact hoff q hq' hq
      · exact H.two m j y _ hm h' hj q hq' (hin q hq)
      · exact hlm (hl.trans hm.symm)
end
end Go.Sh
namespace Go.Proofs.Ytegcjkhebecgbaa
open Go Go.Sh Go.RowKit
abbrev lsf (X : Option Addr) (c : Nat) (ls : List (List Int)) (ps : Nat → Option Addr × Nat) (n : Nat) : Thing := lsfi 27 3 X c ls ps n
theorem wordsOf_c {toks n : Nat} {tk : Int} {w : World} (htk : tk = toks) (ht : toks ≤ 4) (hn : n ≤ 4) {k : Value → World → Prop}
    (hk : ∀ w' U d ps, Gr w w' → OwnSS 27 3 w' w.heap.size U d (wordsN toks n) ps → k (.slice U (wordsN toks n).length d) w') :
    CallK Try.prog 157 [.int .i64 tk, .int .i64 n] k w := by
  subst htk
  refine enter157 ?_
  unfold S157
  have H := Apt.nil w
  refine buildH H u27 inf3 [] (by decide) (by decide) (by simp [Instr.fill, madeCells]) rfl fun b0 w1 H => ?_
  refine buildH H u35 inf27 [.slice (some ⟨b0, 0, none⟩) 0 0] (by decide) (by decide) (by simp [Instr.fill, madeCells, Value.cells, rng1]) rfl fun b1 w2 H => ?_
  simp only [List.nil_append, List.cons_append] at H
  have H := (H.single (i := 1) (j := 0) (by decide) (e2 := 3) (ys := []) rfl rfl).erase 0
  simp only [List.set_cons_zero, List.set_cons_succ, List.eraseIdx_cons_zero, List.eraseIdx_cons_succ] at H
  refine loop_to n 0 (fun m f w' => m ≤ n ∧ f 13 = .int .i64 m ∧ ∃ (U : Option Addr) (d : Nat) (ps : Nat → Option Addr × Nat), f 5 = .slice U (wordsN toks m).length d ∧ Apt w w' [lss U d (wordsN toks m) ps])
    ⟨Nat.zero_le _, rfl, _, _, _, rfl, H⟩ ?_
  rintro m f w3 N hag ⟨hm, h13, U, d, ps, h5, H⟩ hN
  have f0 : f 0 = .int .i64 toks := hag 0 (by decide)
  have f12 : f 12 = .int .i64 n := hag 12 (by decide)
  simp only [f12, h13, h5, f0, go_sem, Nat.reduceEqDiff]
  by_cases hlt : m < n
  case neg =>
    simp only [show ¬ ((m : Int) < n) from by omega, decide_false, go_sem, Nat.reduceEqDiff]
    obtain rfl : m = n := by omega
    exact hk _ U d ps H.gr (H.lssi 0 rfl)
  simp only [show ((m : Int) < n) from by omega, decide_true, go_sem, Nat.reduceEqDiff]
  have hwl := wordsN_le (toks := toks) (n := m) (by omega) (by omega)
  have hwm := fun w => @wordsN_mem toks m w
  have hnext : wordsN toks (m + 1) = (wordsN toks m).flatMap (extW toks) := rfl
  generalize wordsN toks m = ls at *
  refine buildH H u35 inf27 [] (by decide) (by decide) (by simp [Instr.fill, madeCells]) rfl fun b2 w4 H => ?_
  simp only [List.nil_append, List.cons_append] at H
  have H := H.emptySS 1 (e2 := 3) (fun _ => (none, 0)) rfl
  simp only [List.set_cons_zero, List.set_cons_succ] at H
  refine loop_to ls.length 0 (fun i f w' => i ≤ ls.length ∧ f 18 = .int .i64 i ∧ ∃ (X : Option Addr) (c : Nat) (rs : Nat → Option Addr × Nat), f 6 = .slice X ((ls.take i).flatMap (extW toks)).length c ∧
      Apt w w' [lss U d ls ps, lss X c ((ls.take i).flatMap (extW toks)) rs])
    ⟨Nat.zero_le _, rfl, _, _, _, rfl, H⟩ ?_
  rintro i g w5 N2 hag2 ⟨hi, h18, X, c, rs, h6, H⟩ hN2
  have g0 : g 0 = .int .i64 toks := (hag2 0 (by decide)).trans f0
  have g16 : g 16 = .slice U ls.length d := hag2 16 (by decide)
  have g17 : g 17 = .int .i64 ls.length := hag2 17 (by decide)
  have g13 : g 13 = .int .i64 m := (hag2 13 (by decide)).trans h13
  simp only [g0, g16, g17, g13, h18, h6, go_sem, Nat.reduceEqDiff]
  by_cases hlt2 : i < ls.length
  case neg =>
    simp only [show ¬ ((i : Int) < ls.length) from by omega, decide_false, go_sem, Nat.reduceEqDiff]
    rw [List.take_of_length_le (by omega)] at H h6 ⊢
    rw [i64_of (by omega) (by omega)]
    refine hN _ _ hlt ⟨by omega, rfl, X, c, rs, ?_, ?_⟩
    · rw [hnext]
      exact rfl
    · rw [hnext]
      exact H.erase 0
  simp only [show ((i : Int) < ls.length) from by omega, decide_true, go_sem, Nat.reduceEqDiff]
  have o := H.lssi 0 rfl
  have hm2 := hwm _ (rgt_mem hlt2)
  have hflat := flatMap_take_le (ls := ls) (k := toks) i
  have hmul : ls.length * toks ≤ 1024 * 4 := Nat.mul_le_mul hwl (by omega)
  have hel : ∀ t, (extW t (rgt ls i)).length = t := fun t => by simp [extW]
  refine rdi (ixn35 (fun h => o.ptr h) hlt2) ?_
  refine rdi (ld27 (o.cell hlt2)) ?_
  refine loop_to toks 0 (fun t f w' => t ≤ toks ∧ f 23 = .int .i64 t ∧ ∃ (X : Option Addr) (c : Nat) (rs : Nat → Option Addr × Nat), f 6 = .slice X ((ls.take i).flatMap (extW toks) ++ extW t (rgt ls i)).length c ∧
      Apt w w' [lss U d ls ps, lss X c ((ls.take i).flatMap (extW toks) ++ extW t (rgt ls i)) rs])
    ⟨Nat.zero_le _, rfl, X, c, rs, by simp only [extW, List.range_zero, List.map_nil, List.append_nil]; exact h6, by simpa only [extW, List.range_zero, List.map_nil, List.append_nil] using H⟩ ?_
  rintro t r w7 N3 hag3 ⟨ht', r23, X, c, rs, r6, H⟩ hN3
  have r8 : r 8 = .slice (ps i).1 (rgt ls i).length (ps i).2 := hag3 8 (by decide)
  have r22 : r 22 = .int .i64 toks := hag3 22 (by decide)
  have r18 : r 18 = .int .i64 i := (hag3 18 (by decide)).trans h18
  simp only [r8, r22, r23, r6, go_sem, Nat.reduceEqDiff]
  by_cases hlt3 : t < toks
  case neg =>
    simp only [show ¬ ((t : Int) < toks) from by omega, decide_false, r18, go_sem, Nat.reduceEqDiff]
    rw [i64_of (by omega) (by omega)]
    obtain rfl : t = toks := by omega
    refine hN2 _ _ hlt2 ⟨by omega, rfl, X, c, rs, ?_, ?_⟩
    · rw [take_snoc_rgt hlt2, flatMap_snoc]
      exact r6
    · rw [take_snoc_rgt hlt2, flatMap_snoc]
      exact H
  simp only [show ((t : Int) < toks) from by omega, decide_true, go_sem, Nat.reduceEqDiff]
  refine buildH H u27 inf3 [] (by decide) (by decide) (by simp [Instr.fill, madeCells]) rfl fun b3 w8 H => ?_
  simp only [List.nil_append, List.cons_append] at H
  have o := H.lssi 0 rfl
  have hwi := (o.own i hlt2).ints
  refine apH H 2 (xs := []) rfl hwi rfl rfl (by simp; omega) fun X1 d1 w9 H => ?_
  simp only [List.set_cons_zero, List.set_cons_succ, List.nil_append] at H ⊢
  refine pushH H 2 rfl rfl (by omega) fun t1 X2 d2 w10 H => ?_
  simp only [List.set_cons_zero, List.set_cons_succ] at H
  refine pushSSH H 1 2 (by decide) rfl rfl rfl rfl (by rw [List.length_append, hel]; omega) fun t2 X3 c3 w11 rs3 H => ?_
  have H := H.erase 2
  simp only [List.set_cons_zero, List.set_cons_succ, List.eraseIdx_cons_zero, List.eraseIdx_cons_succ] at H
  rw [i64_of (by omega) (by omega)]
  refine hN3 _ _ hlt3 ⟨by omega, rfl, X3, c3, rs3, ?_, ?_⟩
  · rw [extW_succ, ← List.append_assoc]
    rfl
  · rw [extW_succ, ← List.append_assoc]
    exact H
theorem implShortWords_c {F : Nat → Prop} {w : World} {v : Value} {gm : Gram} {most : Int} (hv : GramV F w v gm) {k : Value → World → Prop}
    (hk : ∀ w' U d ps, Gr w w' → OwnSS 27 3 w' w.heap.size U d (shortV gm most).1 ps → k (.tuple #[.slice U (shortV gm most).1.length d, .bool (shortV gm most).2]) w') :
    CallK Try.prog 23 [v, .int .i64 most] k w := by
  obtain ⟨Y, cy, rfl, hc, hy⟩ := hv
  refine enter23 ?_
  unfold S23
  have H := Apt.nil w
  refine boxH H fun b1 w1 H => ?_
  rw [ldB_agg agg26 sz26 rfl (H.box 0 rfl)]
  refine isGrammar_c (gm := gm) ⟨Y, cy, rfl, hc, hy.gr H.gr⟩ fun w2 g2 => ?_
  have H := H.step g2
  unfold shortV at hk
  cases hg : goodG gm
  · simp only [Bool.not_false, go_sem, Nat.reduceEqDiff]
    rw [hg, Bool.false_and, if_neg Bool.false_ne_true] at hk
    exact hk _ none 0 (fun _ => (none, 0)) H.gr (OwnSS.nil _ _ _ _ _)
  simp only [Bool.not_true, go_sem, Nat.reduceEqDiff]
  refine in_c ?_
  rw [hg, Bool.true_and] at hk
  cases hm : inB most 0 4
  · simp only [Bool.not_false, go_sem, Nat.reduceEqDiff]
    rw [hm, if_neg Bool.false_ne_true] at hk
    exact hk _ none 0 (fun _ => (none, 0)) H.gr (OwnSS.nil _ _ _ _ _)
  rw [hm, if_pos rfl] at hk
  obtain ⟨most, rfl⟩ : ∃ m' : Nat, most = m' := by
    simp only [inB, Bool.and_eq_true, decide_eq_true_eq] at hm
    exact ⟨most.toNat, by omega⟩
  have hm4 : most ≤ 4 := by
    simp only [inB, Bool.and_eq_true, decide_eq_true_eq] at hm
    omega
  rw [Int.toNat_natCast] at hk
  dsimp only at hk
  have htk := good_toks hg
  obtain ⟨toks, htoks⟩ : ∃ t : Nat, gm.toks = t := ⟨gm.toks.toNat, by omega⟩
  have htn : gm.toks.toNat = toks := by omega
  simp only [Bool.not_true, go_sem, Nat.reduceEqDiff]
  simp only [List.nil_append] at H
  refine buildH H u35 inf27 [] (by decide) (by decide) (by simp [Instr.fill, madeCells]) rfl fun b2 w3 H => ?_
  simp only [List.nil_append, List.cons_append] at H
  have H := H.emptySS 1 (e2 := 3) (fun _ => (none, 0)) rfl
  simp only [List.set_cons_zero, List.set_cons_succ] at H
  rw [i64_of (by omega) (by omega)]
  refine loop_to (most + 1) 0 (fun n f w' => n ≤ most + 1 ∧ f 21 = .int .i64 n ∧ ∃ (V : Option Addr) (e : Nat) (qs : Nat → Option Addr × Nat), f 6 = .slice V (shortW gm n).length e ∧
      Apt w w' [bx b1 [.int .i64 gm.nons, .int .i64 gm.toks, .slice Y gm.rules.length cy] 26, lss V e (shortW gm n) qs])
    ⟨Nat.zero_le _, rfl, _, _, _, rfl, H⟩ ?_
  rintro n f w4 N hag ⟨hn, h21, V, e, qs, h6, H⟩ hN
  have f20 : f 20 = .int .i64 ((most : Int) + 1) := hag 20 (by decide)
  have f2 : f 2 = ptrv b1 := hag 2 (by decide)
  simp only [f20, f2, h21, h6, go_sem, Nat.reduceEqDiff]
  by_cases hlt0 : n < most + 1
  case neg =>
    simp only [show ¬ ((n : Int) < (most : Int) + 1) from by omega, decide_false, go_sem, Nat.reduceEqDiff]
    obtain rfl : n = most + 1 := by omega
    exact hk _ V e qs H.gr (H.lssi 1 rfl)
  simp only [show ((n : Int) < (most : Int) + 1) from by omega, decide_true, go_sem, Nat.reduceEqDiff]
  rw [ldB3 (H.box 0 rfl) rfl]
  refine wordsOf_c (toks := toks) htoks (by omega) (by omega) fun w5 U d ps g5 o5 => ?_
  have H := H.addLss g5 o5
  have H := H.lsf0 2 rfl
  simp only [List.nil_append, List.cons_append, List.set_cons_zero, List.set_cons_succ] at H
  have hwl := wordsN_le (toks := toks) (n := n) (by omega) (by omega)
  have hwm := fun w => @wordsN_mem toks n w
  have hsl := shortW_len (gm := gm) htk.2 (n := n) (by omega)
  have hshort := shortW_succ gm n
  rw [htn] at hshort
  clear o5
  generalize wordsN toks n = ls at *
  generalize shortW gm n = so at *
  simp only [go_sem, Nat.reduceEqDiff]
  refine loop_to ls.length 0 (fun i f w' => i ≤ ls.length ∧ f 29 = .int .i64 i ∧ ∃ (V : Option Addr) (e : Nat) (qs : Nat → Option Addr × Nat), f 6 = .slice V (so ++ (ls.take i).filter (inL gm.rules)).length e ∧
      Apt w w' [bx b1 [.int .i64 gm.nons, .int .i64 gm.toks, .slice Y gm.rules.length cy] 26, lss V e (so ++ (ls.take i).filter (inL gm.rules)) qs, lsf U d ls ps i])
    ⟨Nat.zero_le _, rfl, V, e, qs, by simp only [List.take_zero, List.filter_nil, List.append_nil]; exact h6, by simpa only [List.take_zero, List.filter_nil, List.append_nil] using H⟩ ?_
  rintro i g w6 N2 hag2 ⟨hi, h29, V, e, qs, h6, H⟩ hN2
  have g27 : g 27 = .slice U ls.length d := hag2 27 (by decide)
  have g28 : g 28 = .int .i64 ls.length := hag2 28 (by decide)
  have g2' : g 2 = ptrv b1 := (hag2 2 (by decide)).trans f2
  have g7 : g 7 = .int .i64 n := hag2 7 (by decide)
  have g21 : g 21 = .int .i64 n := (hag2 21 (by decide)).trans h21
  simp only [g27, g28, g2', g7, g21, h29, h6, go_sem, Nat.reduceEqDiff]
  by_cases hlt : i < ls.length
  case neg =>
    simp only [show ¬ ((i : Int) < ls.length) from by omega, decide_false, go_sem, Nat.reduceEqDiff]
    rw [List.take_of_length_le (by omega)] at H h6
    rw [i64_of (by omega) (by omega)]
    refine hN _ _ hlt0 ⟨by omega, rfl, V, e, qs, ?_, ?_⟩
    · rw [hshort]
      exact h6
    · rw [hshort]
      exact H.erase 2
  simp only [show ((i : Int) < ls.length) from by omega, decide_true, go_sem, Nat.reduceEqDiff]
  have o := H.lsfi 2 rfl
  have hm2 := hwm _ (rgt_mem hlt)
  have hwi := (o.own i (Nat.le_refl _) hlt).ints
  have hfl := filter_le (inL gm.rules) (ls.take i)
  rw [List.length_take] at hfl
  have hxt : ∀ t ∈ rgt ls i, 0 ≤ t ∧ t ≤ 100 := fun t hmem => by
    have := hm2.2 t hmem
    omega
  refine rdi (ixn35 (fun h => o.ptr h) hlt) ?_
  refine rdi (ld27 (o.cell hlt)) ?_
  refine rdi (ldB_agg agg26 sz26 rfl (H.box 0 rfl)) ?_
  refine spans_c (gm := gm) ⟨Y, cy, rfl, hc, hy.gr H.gr⟩ hg hwi rfl (by omega) hxt fun w7 bT HT => ?_
  simp only [go_sem, Nat.reduceEqDiff]
  refine rdi (ixa122 (by decide) (by decide)) ?_
  refine rdi (ixa121 (by decide) (by decide)) ?_
  refine rdi (ixa120 (by omega) (by omega)) ?_
  simp only [Int.toNat_natCast, go_sem, Nat.reduceEqDiff]
  have hoff : 0 + (0 + 1) + Int.toNat 0 * 121 + Int.toNat 0 * 11 + n = 0 * 121 + 0 * 11 + (rgt ls i).length + 1 := by
    rw [show Int.toNat 0 = 0 from rfl, hm2.1]
    omega
  rw [hoff]
  refine rdi (ldB4 (HT.box 0 rfl) (cellsT_at (by decide) (by decide) (by omega))) ?_
  have H := (H.step HT.gr).pull 2 (by decide) rfl hlt
  simp only [List.nil_append, List.cons_append, List.set_cons_zero, List.set_cons_succ] at H
  have hsp : spanT gm.rules (rgt ls i) 0 0 (rgt ls i).length = inL gm.rules (rgt ls i) := rfl
  rw [hsp]
  cases hin : inL gm.rules (rgt ls i)
  · simp only [go_sem, Nat.reduceEqDiff]
    rw [i64_of (by omega) (by omega)]
    have hso : so ++ (ls.take (i + 1)).filter (inL gm.rules) = so ++ (ls.take i).filter (inL gm.rules) := by
      rw [take_snoc_rgt hlt, filter_snoc, hin, if_neg Bool.false_ne_true, List.append_nil]
    rw [← hso] at H h6
    exact hN2 _ _ hlt ⟨by omega, rfl, V, e, qs, h6, H.erase 3⟩
  · simp only [go_sem, Nat.reduceEqDiff]
    have hso : so ++ (ls.take (i + 1)).filter (inL gm.rules) = so ++ (ls.take i).filter (inL gm.rules) ++ [rgt ls i] := by
      rw [take_snoc_rgt hlt, filter_snoc, hin, if_pos rfl, List.append_assoc]
    refine pushSSH H 1 3 (by decide) rfl rfl rfl rfl (by rw [List.length_append]; omega) fun t V' e' w8 qs' H => ?_
    have H := H.erase 3
    simp only [List.set_cons_zero, List.set_cons_succ, List.eraseIdx_cons_zero, List.eraseIdx_cons_succ] at H
    rw [i64_of (by omega) (by omega)]
    rw [← hso] at H
    refine hN2 _ _ hlt ⟨by omega, rfl, V', e', qs', ?_, H⟩
    rw [hso]
    exact rfl
end Go.Proofs.Ytegcjkhebecgbaa

/- Contract: what comes again and again, by the program. -/
set_option linter.unusedVariables false
set_option linter.unusedSimpArgs false
set_option maxRecDepth 100000
namespace Go.Proofs.Ytegcjkhebecgbaa
open Go Go.Sh Go.RowKit

end Go.Proofs.Ytegcjkhebecgbaa

/- Bm: bodies of functions as terms of the frame calculus, printed by shgen.py of this repository. -/
set_option linter.unusedVariables false
set_option maxRecDepth 100000
namespace Go.Proofs.Ytegcjkhebecgbaa
open Go Go.Sh

/-! loop.example/g00758/spec.l20Two -/
end Go.Proofs.Ytegcjkhebecgbaa

/- Contract: whether two grammars may be set beside each other (the reference's l20Two). -/
set_option linter.unusedVariables false
set_option linter.unusedSimpArgs false
set_option maxRecDepth 100000
namespace Go.Sh
open Go
end Go.Sh
namespace Go.Proofs.Ytegcjkhebecgbaa
open Go Go.Sh Go.RowKit

end Go.Proofs.Ytegcjkhebecgbaa

/- Contracts: words in order, the first unlike word of two lists (the reference), equal lists (the program's library). -/
set_option linter.unusedVariables false
set_option linter.unusedSimpArgs false
set_option maxRecDepth 100000
namespace Go.Sh
open Go
end Go.Sh
namespace Go.Proofs.Ytegcjkhebecgbaa
open Go Go.Sh Go.RowKit
end Go.Proofs.Ytegcjkhebecgbaa

/- Contract: how far two words lie apart, by the reference. -/
set_option linter.unusedVariables false
set_option linter.unusedSimpArgs false
set_option maxRecDepth 100000
namespace Go.Sh
open Go
def leastI (x y : Int) : Int := if x < y then x else y
def edCell (x y d u l : Int) : Int := leastI (if x = y then d else d + 1) (leastI u l + 1)
def edNext (x : Int) (b row : List Int) (h : Int) : Nat → List Int
  | 0 => [h]
  | j + 1 => edNext x b row h j ++ [edCell x (b.getD j 0) (row.getD j 0) (row.getD (j + 1) 0) ((edNext x b row h j).getD j 0)]
def ri (n : Nat) : List Int := (List.range n).map fun (t : Nat) => (t : Int)
def edRows (a b : List Int) : Nat → List Int
  | 0 => ri (b.length + 1)
  | i + 1 => edNext (a.getD i 0) b (edRows a b i) ((i : Int) + 1) b.length
def edist (a b : List Int) : Int := (edRows a b a.length).getD b.length 0
theorem ri_length (n : Nat) : (ri n).length = n := by simp [ri]
theorem ri_get {n i : Nat} (h : i < n) : (ri n).getD i 0 = i := by simp [ri, List.getD_eq_getElem?_getD, h]
theorem edNext_len (x : Int) (b row : List Int) (h : Int) : ∀ j, (edNext x b row h j).length = j + 1 := by
  intro j
  induction j with
  | zero => rfl
  | succ j ih => rw [edNext, List.length_append, ih]; rfl
theorem edRows_len (a b : List Int) (i : Nat) : (edRows a b i).length = b.length + 1 := by
  cases i with
  | zero => exact ri_length _
  | succ i => exact edNext_len _ _ _ _ _
theorem getD_snoc_lt {l : List Int} {x : Int} {j : Nat} (h : j < l.length) : (l ++ [x]).getD j 0 = l.getD j 0 := by
  simp [List.getD_eq_getElem?_getD, List.getElem?_append_left h]
theorem getD_snoc_eq {l : List Int} {x : Int} {j : Nat} (h : j = l.length) : (l ++ [x]).getD j 0 = x := by
  subst h
  simp [List.getD_eq_getElem?_getD]
theorem leastI_bd {x y B : Int} (hx : 0 ≤ x) (hy : 0 ≤ y) (hb : y ≤ B) : 0 ≤ leastI x y ∧ leastI x y ≤ B := by
  unfold leastI
  split <;> omega
theorem edNext_bd {x : Int} {b row : List Int} {i m : Nat} (hr : ∀ j, j ≤ m → 0 ≤ row.getD j 0 ∧ row.getD j 0 ≤ ((i + j : Nat) : Int)) : ∀ j, j ≤ m → ∀ t, t ≤ j → 0 ≤ (edNext x b row ((i : Int) + 1) j).getD t 0 ∧ (edNext x b row ((i : Int) + 1) j).getD t 0 ≤ ((i + 1 + t : Nat) : Int) := by
  intro j
  induction j with
  | zero =>
    intro _ t ht
    obtain rfl : t = 0 := by omega
    show 0 ≤ (i : Int) + 1 ∧ (i : Int) + 1 ≤ _
    omega
  | succ j ih =>
    intro hj t ht
    rw [edNext]
    by_cases h : t = j + 1
    · subst h
      rw [getD_snoc_eq (by rw [edNext_len])]
      have h1 := ih (by omega) j (Nat.le_refl _)
      have h2 := hr j (by omega)
      have h3 := hr (j + 1) hj
      unfold edCell
      have h4 := leastI_bd h3.1 h1.1 h1.2
      refine leastI_bd (by split <;> omega) (by omega) (by omega)
    · rw [getD_snoc_lt (by rw [edNext_len]; omega)]
      exact ih (by omega) t (by omega)
theorem edRows_bd (a b : List Int) : ∀ i j, j ≤ b.length → 0 ≤ (edRows a b i).getD j 0 ∧ (edRows a b i).getD j 0 ≤ ((i + j : Nat) : Int) := by
  intro i
  induction i with
  | zero =>
    intro j hj
    rw [edRows, ri_get (by omega)]
    omega
  | succ i ih =>
    intro j hj
    exact edNext_bd ih b.length (Nat.le_refl _) j hj
end Go.Sh
namespace Go.Proofs.Ytegcjkhebecgbaa
open Go Go.Sh Go.RowKit
theorem l1Least_c {w : World} {x y : Int} {k : Value → World → Prop} (hk : k (.int .i64 (leastI x y)) w) : CallK Try.prog 292 [.int .i64 x, .int .i64 y] k w := by
  refine enter292 ?_
  unfold S292
  simp only [go_sem, Nat.reduceEqDiff]
  unfold leastI at hk
  by_cases h : x < y
  · simp only [h, decide_true, go_sem, Nat.reduceEqDiff]
    rwa [if_pos h] at hk
  · simp only [h, decide_false, go_sem, Nat.reduceEqDiff]
    rwa [if_neg h] at hk
theorem ixn27' {k : Value → Prop} {S : WS} {X : Option Addr} {n c i : Nat} {t : Int} (ht : t = (i : Nat)) (hA : 0 < n → X = some (ad X)) (h1 : i < n) : Rd Try.prog S (sIndexAddr 27 (.slice X n c) (.int .i64 t)) k = k (.pointer (some ((ad X).add i))) := by
  subst ht
  exact ixn27 hA h1
theorem l17Apart_c {w : World} {X Y : Option Addr} {c d : Nat} {a b : List Int} (hX : Ints w X a) (hY : Ints w Y b) (la : a.length ≤ 1000) (lb : b.length ≤ 1000) {k : Value → World → Prop} (hk : ∀ w', Gr w w' → k (.int .i64 (edist a b)) w') :
    CallK Try.prog 219 [.slice X a.length c, .slice Y b.length d] k w := by
  refine enter219 ?_
  unfold S219
  have H := Apt.nil w
  simp only [go_sem, Nat.reduceEqDiff]
  rw [i64_of (by omega) (by omega), show ((b.length : Int) + 1) = ((b.length + 1 : Nat) : Int) from by omega]
  refine makeH H u27 inf3 (by omega) (by omega) fun b2 w1 H => ?_
  rw [zeros_ints] at H
  simp only [List.nil_append] at H
  simp only [go_sem, Nat.reduceEqDiff]
  refine loop_to (b.length + 1) 0 (fun i f w' => i ≤ b.length + 1 ∧ f 19 = .int .i64 i ∧ Apt w w' [rwi 3 1 (some ⟨b2, 0, none⟩) (b.length + 1) (b.length + 1) (Sh.ints ((ri (b.length + 1)).take i ++ (List.replicate (b.length + 1) (0 : Int)).drop i))])
    ⟨Nat.zero_le _, rfl, by simpa using H⟩ ?_
  rintro i f w2 N hag ⟨hi, h19, H⟩ hN
  have f5 : f 5 = .slice (some ⟨b2, 0, none⟩) (b.length + 1) (b.length + 1) := hag 5 (by decide)
  have f18 : f 18 = .int .i64 ((b.length + 1 : Nat) : Int) := hag 18 (by decide)
  have f0 : f 0 = .slice X a.length c := hag 0 (by decide)
  have f1 : f 1 = .slice Y b.length d := hag 1 (by decide)
  simp only [f5, f18, h19, f0, go_sem, Nat.reduceEqDiff]
  by_cases hlt : i < b.length + 1
  · simp only [show ((i : Int) < ((b.length + 1 : Nat) : Int)) from by omega, decide_true, go_sem, Nat.reduceEqDiff]
    refine rdi (ixn27 (X := some ⟨b2, 0, none⟩) (fun _ => rfl) hlt) ?_
    refine do_store_row sz3 rfl rfl (H.row 0 rfl) (by omega) fun w3 g hs hr => ?_
    rw [ints_set, show (i : Int) = (ri (b.length + 1)).getD i 0 from (ri_get hlt).symm, set_take_drop (by simpa using hlt) (by simp [ri_length])] at hr
    have H := H.set (it' := rwi 3 1 (some ⟨b2, 0, none⟩) (b.length + 1) (b.length + 1) (Sh.ints ((ri (b.length + 1)).take (i + 1) ++ (List.replicate (b.length + 1) (0 : Int)).drop (i + 1)))) (i := 0) rfl (gx_of g fun q hq => hq) (fun q hq => .inl hq) (fun q hq => (Row.ge hr hq).2) (rwi_kept hr)
    rw [i64_of (by omega) (by omega)]
    exact hN _ _ hlt ⟨by omega, rfl, H⟩
  simp only [show ¬ ((i : Int) < ((b.length + 1 : Nat) : Int)) from by omega, decide_false, go_sem, Nat.reduceEqDiff]
  rw [List.take_of_length_le (by rw [ri_length]; omega), List.drop_of_length_le (by simp; omega), List.append_nil] at H
  have H : Apt w w2 [ows (some ⟨b2, 0, none⟩) (b.length + 1) (edRows a b 0)] := by
    show Apt w w2 [rwi 3 1 (some ⟨b2, 0, none⟩) (ri (b.length + 1)).length (b.length + 1) (Sh.ints (ri (b.length + 1)))]
    rw [ri_length]
    exact H
  clear hN hag N hlt h19 hi
  refine loop_to a.length 0 (fun i f w' => i ≤ a.length ∧ f 29 = .int .i64 i ∧ ∃ (U : Option Addr) (e : Nat), f 5 = .slice U (b.length + 1) e ∧ Apt w w' [ows U e (edRows a b i)])
    ⟨Nat.zero_le _, rfl, _, _, f5, H⟩ ?_
  rintro i g w3 N hag ⟨hi, h29, U, e, h5, H⟩ hN
  have g1 : g 1 = .slice Y b.length d := (hag 1 (by decide)).trans f1
  have g27 : g 27 = .slice X a.length c := hag 27 (by decide)
  have g28 : g 28 = .int .i64 a.length := hag 28 (by decide)
  simp only [g1, g27, g28, h5, h29, go_sem, Nat.reduceEqDiff]
  have hL := edRows_len a b i
  by_cases hlt : i < a.length
  case neg =>
    simp only [show ¬ ((i : Int) < a.length) from by omega, decide_false, go_sem, Nat.reduceEqDiff]
    obtain rfl : i = a.length := by omega
    refine rdi (ixn27 (fun h => (H.ints 0 rfl).ptr (by omega)) (by omega)) ?_
    refine rdi (ld3 ((H.ints 0 rfl).cell _ (by omega))) ?_
    exact hk _ H.gr
  simp only [show ((i : Int) < a.length) from by omega, decide_true, go_sem, Nat.reduceEqDiff]
  refine rdi (ixn27 hX.ptr hlt) (rdi (ld3 ((hX.gr H.gr).cell i hlt)) ?_)
  rw [i64_of (by omega) (by omega)]
  refine buildH H u27 inf3 [.int .i64 ((i : Int) + 1)] (by decide) (by decide) (by simp [Instr.fill, madeCells, Value.cells, rng1]) rfl fun b3 w4 H => ?_
  simp only [List.nil_append, List.cons_append] at H
  have hbr := edRows_bd a b i
  have hnext : edRows a b (i + 1) = edNext (a.getD i 0) b (edRows a b i) ((i : Int) + 1) b.length := rfl
  generalize edRows a b i = row at *
  refine loop_to b.length 0 (fun j f w' => j ≤ b.length ∧ f 39 = .int .i64 j ∧ ∃ (V : Option Addr) (e' : Nat), f 9 = .slice V (j + 1) e' ∧ Apt w w' [ows U e row, ows V e' (edNext (a.getD i 0) b row ((i : Int) + 1) j)])
    ⟨Nat.zero_le _, rfl, _, _, rfl, H⟩ ?_
  rintro j r w5 N3 hag3 ⟨hj, h39, V, e', h9, H⟩ hN3
  have r1 : r 1 = .slice Y b.length d := (hag3 1 (by decide)).trans g1
  have r5 : r 5 = .slice U (b.length + 1) e := (hag3 5 (by decide)).trans h5
  have r8 : r 8 = .int .i64 (a.getD i 0) := hag3 8 (by decide)
  have r29 : r 29 = .int .i64 i := (hag3 29 (by decide)).trans h29
  have r37 : r 37 = .slice Y b.length d := hag3 37 (by decide)
  have r38 : r 38 = .int .i64 b.length := hag3 38 (by decide)
  simp only [r1, r5, r8, r29, r37, r38, h39, h9, go_sem, Nat.reduceEqDiff]
  by_cases hlt3 : j < b.length
  case neg =>
    simp only [show ¬ ((j : Int) < b.length) from by omega, decide_false, go_sem, Nat.reduceEqDiff]
    obtain rfl : j = b.length := by omega
    rw [i64_of (by omega) (by omega)]
    refine hN _ _ hlt ⟨by omega, rfl, V, e', rfl, ?_⟩
    rw [hnext]
    exact H.erase 0
  simp only [show ((j : Int) < b.length) from by omega, decide_true, go_sem, Nat.reduceEqDiff]
  have rowp : 0 < b.length + 1 → U = some (ad U) := fun _ => (H.ints 0 rfl).ptr (by omega)
  refine rdi (ixn27 hY.ptr hlt3) (rdi (ld3 ((hY.gr H.gr).cell j hlt3)) ?_)
  refine rdi (ixn27 rowp (by omega)) (rdi (ld3 ((H.ints 0 rfl).cell j (by omega))) ?_)
  simp only [go_sem, Nat.reduceEqDiff]
  have hb1 := hbr j (by omega)
  have hb2 := hbr (j + 1) (by omega)
  have hb3 := edNext_bd (x := a.getD i 0) (b := b) hbr j (by omega) j (Nat.le_refl _)
  by_cases hxy : a.getD i 0 = b.getD j 0
  · simp only [hxy, decide_true, Bool.not_true, go_sem, Nat.reduceEqDiff]
    rw [← hxy]
    have hLc : (edNext (a.getD i 0) b row ((i : Int) + 1) j).length = j + 1 := edNext_len _ _ _ _ _
    have H := H.drew
    rw [i64_of (by omega) (by omega)]
    refine rdi (ixn27' (i := j + 1) (by omega) rowp (by omega)) ?_
    refine rdi (ld3 ((H.ints 0 rfl).cell (j + 1) (by omega))) ?_
    refine rdi (ixn27 (fun h => (H.ints 1 rfl).ptr (by omega)) (by omega)) ?_
    refine rdi (ld3 ((H.ints 1 rfl).cell j (by omega))) ?_
    refine l1Least_c ?_
    simp only [go_sem, Nat.reduceEqDiff]
    have hb4 := leastI_bd hb2.1 hb3.1 hb3.2
    rw [i64_of (by omega) (by omega)]
    refine l1Least_c ?_
    refine pushH H 1 rfl (by omega) (by omega) fun t1 V1 e1 w8 H => ?_
    simp only [List.set_cons_zero, List.set_cons_succ] at H
    refine hN3 _ _ hlt3 ⟨by omega, rfl, V1, e1, ?_, ?_⟩
    · show Value.slice V1 _ e1 = _
      rw [List.length_append, hLc]
      rfl
    · rw [edNext, edCell, if_pos hxy]
      exact H
  · simp only [hxy, decide_false, Bool.not_false, go_sem, Nat.reduceEqDiff]
    rw [i64_of (n := row.getD j 0 + 1) (by omega) (by omega)]
    have hLc : (edNext (a.getD i 0) b row ((i : Int) + 1) j).length = j + 1 := edNext_len _ _ _ _ _
    have H := H.drew
    rw [i64_of (by omega) (by omega)]
    refine rdi (ixn27' (i := j + 1) (by omega) rowp (by omega)) ?_
    refine rdi (ld3 ((H.ints 0 rfl).cell (j + 1) (by omega))) ?_
    refine rdi (ixn27 (fun h => (H.ints 1 rfl).ptr (by omega)) (by omega)) ?_
    refine rdi (ld3 ((H.ints 1 rfl).cell j (by omega))) ?_
    refine l1Least_c ?_
    simp only [go_sem, Nat.reduceEqDiff]
    have hb4 := leastI_bd hb2.1 hb3.1 hb3.2
    rw [i64_of (by omega) (by omega)]
    refine l1Least_c ?_
    refine pushH H 1 rfl (by omega) (by omega) fun t1 V1 e1 w8 H => ?_
    simp only [List.set_cons_zero, List.set_cons_succ] at H
    refine hN3 _ _ hlt3 ⟨by omega, rfl, V1, e1, ?_, ?_⟩
    · show Value.slice V1 _ e1 = _
      rw [List.length_append, hLc]
      rfl
    · rw [edNext, edCell, if_neg hxy]
      exact H
end Go.Proofs.Ytegcjkhebecgbaa

/- Contracts: how many words of each length, by the reference and by the program. -/
set_option linter.unusedVariables false
set_option linter.unusedSimpArgs false
set_option maxRecDepth 100000
namespace Go.Sh
open Go
end Go.Sh
namespace Go.Proofs.Ytegcjkhebecgbaa
open Go Go.Sh Go.RowKit
theorem putH {k : Value → World → Prop} {w0 w : World} {L : List Thing} (H : Apt w0 w L) (i : Nat) {j c : Nat} {X : Option Addr} {xs : List Int} {x : Int} (hi : L[i]? = some (ows X c xs)) (hj : j < xs.length)
    (h : ∀ w', Apt w0 w' (L.set i (ows X c (xs.set j x))) → k undef w') : Do Try.prog (sStore 3 (.pointer (some ((ad X).add j))) (.int .i64 x)) k w := by
  refine do_store_row sz3 rfl rfl (H.row i hi) (by omega) fun w' g hs hr => ?_
  have hr' : Row w' w0.heap.size 3 1 X (xs.set j x).length c (ints (xs.set j x)) := by
    rw [List.length_set, show ints (xs.set j x) = (ints xs).set j (.int .i64 x) from by simp [ints]]
    exact hr
  exact h w' (H.set hi (gx_of g fun q hq => hq) (fun q hq => .inl hq) (fun q hq => (Row.ge hr' hq).2) (rwi_kept hr'))
end Go.Proofs.Ytegcjkhebecgbaa

/- Contract: how far two words lie apart, by the program. -/
set_option linter.unusedVariables false
set_option linter.unusedSimpArgs false
set_option maxRecDepth 100000
namespace Go.Sh
open Go
variable {P : Program} {S : WS} {k : Value → Prop}
theorem min_int3 {kd : IntKind} {x y z : Int} {ts : Array TypeId} {t : TypeId} {cs : List Bool} : Rd P S (sBuiltin .min ts t cs [.int kd x, .int kd y, .int kd z]) k = k (.int kd (if z < (if y < x then y else x) then z else (if y < x then y else x))) := rd_eq fun w _ => by
  simp [sBuiltin, builtin, Builtin.min_, Builtin.min2]
theorem ri_succ (n : Nat) : ri (n + 1) = ri n ++ [(n : Int)] := by
  unfold ri
  rw [List.range_succ, List.map_append]
  rfl
/-- The row while it is turned into the next. -/
def edCur (x : Int) (b row : List Int) (h : Int) (j : Nat) : List Int := edNext x b row h j ++ row.drop (j + 1)
theorem edCur_len {x : Int} {b row : List Int} {h : Int} {j : Nat} (hj : j < row.length) : (edCur x b row h j).length = row.length := by
  unfold edCur
  rw [List.length_append, edNext_len, List.length_drop]
  omega
theorem edCur_up {x : Int} {b row : List Int} {h : Int} {j : Nat} (hj : j + 1 < row.length) : (edCur x b row h j).getD (j + 1) 0 = row.getD (j + 1) 0 := by
  unfold edCur
  rw [List.getD_eq_getElem?_getD, List.getElem?_append_right (by rw [edNext_len]; omega), edNext_len, List.getElem?_drop, List.getD_eq_getElem?_getD]
  congr 2
  omega
theorem edCur_left {x : Int} {b row : List Int} {h : Int} {j : Nat} : (edCur x b row h j).getD j 0 = (edNext x b row h j).getD j 0 := by
  unfold edCur
  rw [List.getD_eq_getElem?_getD, List.getElem?_append_left (by rw [edNext_len]; omega), List.getD_eq_getElem?_getD]
theorem edCur_set {x : Int} {b row : List Int} {h : Int} {j : Nat} (hj : j + 1 < row.length) {v : Int} (hv : v = edCell x (b.getD j 0) (row.getD j 0) (row.getD (j + 1) 0) ((edNext x b row h j).getD j 0)) : (edCur x b row h j).set (j + 1) v = edCur x b row h (j + 1) := by
  unfold edCur
  rw [List.set_append_right _ _ (by rw [edNext_len]; omega), edNext_len, Nat.sub_self, List.drop_eq_getElem_cons hj, List.set_cons_zero, edNext, ← hv, List.append_assoc]
  rfl
theorem edCur_zero {x : Int} {b row : List Int} {h : Int} (hr : 0 < row.length) : row.set 0 h = edCur x b row h 0 := by
  cases row with
  | nil => simp at hr
  | cons y row => rfl
theorem edCur_end {x : Int} {b row : List Int} {h : Int} {j : Nat} (hj : row.length = j + 1) : edCur x b row h j = edNext x b row h j := by
  unfold edCur
  rw [List.drop_of_length_le (by omega), List.append_nil]
theorem min3_cell {c u l : Int} : (if u + 1 < (if l + 1 < c then l + 1 else c) then u + 1 else (if l + 1 < c then l + 1 else c)) = leastI c (leastI u l + 1) := by
  unfold leastI
  split <;> split <;> split <;> split <;> omega
end Go.Sh
namespace Go.Proofs.Ytegcjkhebecgbaa
open Go Go.Sh Go.RowKit
theorem apart_c {w : World} {X Y : Option Addr} {c d : Nat} {a b : List Int} (hX : Ints w X a) (hY : Ints w Y b) (la : a.length ≤ 1000) (lb : b.length ≤ 1000) {k : Value → World → Prop} (hk : ∀ w', Gr w w' → k (.int .i64 (edist a b)) w') :
    CallK Try.prog 217 [.slice X a.length c, .slice Y b.length d] k w := by
  refine enter217 ?_
  unfold S217
  have H := Apt.nil w
  refine buildH H u27 inf3 [] (by decide) (by decide) (by simp [Instr.fill, madeCells]) rfl fun b1 w1 H => ?_
  simp only [List.nil_append] at H
  simp only [go_sem, Nat.reduceEqDiff]
  rw [i64_of (by omega) (by omega), show ((b.length : Int) + 1) = ((b.length + 1 : Nat) : Int) from by omega]
  refine loop_to (b.length + 1) 0 (fun i f w' => i ≤ b.length + 1 ∧ f 17 = .int .i64 i ∧ ∃ (U : Option Addr) (e : Nat), f 5 = .slice U i e ∧ Apt w w' [ows U e (ri i)])
    ⟨Nat.zero_le _, rfl, _, _, rfl, H⟩ ?_
  rintro i f w2 N hag ⟨hi, h17, U, e, h5, H⟩ hN
  have f16 : f 16 = .int .i64 ((b.length + 1 : Nat) : Int) := hag 16 (by decide)
  have f0 : f 0 = .slice X a.length c := hag 0 (by decide)
  have f1 : f 1 = .slice Y b.length d := hag 1 (by decide)
  simp only [f16, h17, h5, f0, go_sem, Nat.reduceEqDiff]
  by_cases hlt : i < b.length + 1
  · simp only [show ((i : Int) < ((b.length + 1 : Nat) : Int)) from by omega, decide_true, go_sem, Nat.reduceEqDiff]
    refine pushH H 0 rfl (ri_length i).symm (by rw [ri_length]; omega) fun t1 V1 e1 w3 H => ?_
    simp only [List.set_cons_zero] at H
    rw [i64_of (by omega) (by omega)]
    refine hN _ _ hlt ⟨by omega, rfl, V1, e1, ?_, ?_⟩
    · show Value.slice V1 _ e1 = _
      rw [List.length_append, ri_length]
      rfl
    · rw [ri_succ]
      exact H
  simp only [show ¬ ((i : Int) < ((b.length + 1 : Nat) : Int)) from by omega, decide_false, go_sem, Nat.reduceEqDiff]
  obtain rfl : i = b.length + 1 := by omega
  have H : Apt w w2 [ows U e (edRows a b 0)] := H
  clear hN hag N hlt h17 hi
  refine loop_to a.length 0 (fun i f w' => i ≤ a.length ∧ f 27 = .int .i64 i ∧ Apt w w' [ows U e (edRows a b i)])
    ⟨Nat.zero_le _, rfl, H⟩ ?_
  rintro i g w3 N hag ⟨hi, h27, H⟩ hN
  have g1 : g 1 = .slice Y b.length d := (hag 1 (by decide)).trans f1
  have g5 : g 5 = .slice U (b.length + 1) e := (hag 5 (by decide)).trans h5
  have g25 : g 25 = .slice X a.length c := hag 25 (by decide)
  have g26 : g 26 = .int .i64 a.length := hag 26 (by decide)
  simp only [g1, g5, g25, g26, h27, go_sem, Nat.reduceEqDiff]
  have hL := edRows_len a b i
  by_cases hlt : i < a.length
  case neg =>
    simp only [show ¬ ((i : Int) < a.length) from by omega, decide_false, go_sem, Nat.reduceEqDiff]
    obtain rfl : i = a.length := by omega
    refine rdi (ixn27 (fun h => (H.ints 0 rfl).ptr (by omega)) (by omega)) ?_
    refine rdi (ld3 ((H.ints 0 rfl).cell _ (by omega))) ?_
    exact hk _ H.gr
  simp only [show ((i : Int) < a.length) from by omega, decide_true, go_sem, Nat.reduceEqDiff]
  have hbr := edRows_bd a b i
  have hnext : edRows a b (i + 1) = edNext (a.getD i 0) b (edRows a b i) ((i : Int) + 1) b.length := rfl
  generalize edRows a b i = row at *
  have rowp : 0 < b.length + 1 → U = some (ad U) := fun _ => (H.ints 0 rfl).ptr (by omega)
  refine rdi (ixn27 hX.ptr hlt) (rdi (ld3 ((hX.gr H.gr).cell i hlt)) ?_)
  refine rdi (ix27_0 rowp (by omega)) (rdi (ld3 ((H.ints 0 rfl).cell 0 (by omega))) ?_)
  simp only [go_sem, Nat.reduceEqDiff]
  rw [i64_of (by omega) (by omega)]
  refine rdi (ix27_0 rowp (by omega)) ?_
  refine putH H 0 (j := 0) rfl (by omega) fun w4 H => ?_
  simp only [List.set_cons_zero] at H
  rw [edCur_zero (x := a.getD i 0) (b := b) (by omega)] at H
  refine loop_to b.length 0 (fun j f w' => j ≤ b.length ∧ f 41 = .int .i64 j ∧ f 9 = .int .i64 (row.getD j 0) ∧ Apt w w' [ows U e (edCur (a.getD i 0) b row ((i : Int) + 1) j)])
    ⟨Nat.zero_le _, rfl, rfl, H⟩ ?_
  rintro j r w5 N3 hag3 ⟨hj, h41, h9, H⟩ hN3
  have r1 : r 1 = .slice Y b.length d := (hag3 1 (by decide)).trans g1
  have r5 : r 5 = .slice U (b.length + 1) e := (hag3 5 (by decide)).trans g5
  have r8 : r 8 = .int .i64 (a.getD i 0) := hag3 8 (by decide)
  have r27 : r 27 = .int .i64 i := (hag3 27 (by decide)).trans h27
  have r39 : r 39 = .slice Y b.length d := hag3 39 (by decide)
  have r40 : r 40 = .int .i64 b.length := hag3 40 (by decide)
  simp only [r1, r5, r8, r27, r39, r40, h41, h9, go_sem, Nat.reduceEqDiff]
  have hcl : (edCur (a.getD i 0) b row ((i : Int) + 1) j).length = row.length := edCur_len (by omega)
  by_cases hlt3 : j < b.length
  case neg =>
    simp only [show ¬ ((j : Int) < b.length) from by omega, decide_false, go_sem, Nat.reduceEqDiff]
    obtain rfl : j = b.length := by omega
    rw [i64_of (by omega) (by omega)]
    refine hN _ _ hlt ⟨by omega, rfl, ?_⟩
    rw [hnext, ← edCur_end (by omega)]
    exact H
  simp only [show ((j : Int) < b.length) from by omega, decide_true, go_sem, Nat.reduceEqDiff]
  refine rdi (ixn27 hY.ptr hlt3) (rdi (ld3 ((hY.gr H.gr).cell j hlt3)) ?_)
  simp only [go_sem, Nat.reduceEqDiff]
  have hb1 := hbr j (by omega)
  have hb2 := hbr (j + 1) (by omega)
  have hb3 := edNext_bd (x := a.getD i 0) (b := b) hbr j (by omega) j (Nat.le_refl _)
  have hup : (edCur (a.getD i 0) b row ((i : Int) + 1) j).getD (j + 1) 0 = row.getD (j + 1) 0 := edCur_up (by omega)
  have hle : (edCur (a.getD i 0) b row ((i : Int) + 1) j).getD j 0 = (edNext (a.getD i 0) b row ((i : Int) + 1) j).getD j 0 := edCur_left
  by_cases hxy : a.getD i 0 = b.getD j 0
  · simp only [hxy, decide_true, Bool.not_true, go_sem, Nat.reduceEqDiff]
    rw [← hxy]
    rw [i64_of (n := (j : Int) + 1) (by omega) (by omega)]
    refine rdi (ixn27' (i := j + 1) (by omega) rowp (by omega)) ?_
    refine rdi (ld3 ((H.ints 0 rfl).cell (j + 1) (by omega))) ?_
    refine rdi (ixn27 rowp (by omega)) ?_
    refine rdi (ld3 ((H.ints 0 rfl).cell j (by omega))) ?_
    rw [hup, hle]
    simp only [go_sem, Nat.reduceEqDiff]
    rw [i64_of (n := (edNext (a.getD i 0) b row ((i : Int) + 1) j).getD j 0 + 1) (by omega) (by omega), i64_of (n := row.getD (j + 1) 0 + 1) (by omega) (by omega)]
    refine rdi min_int3 ?_
    rw [min3_cell]
    refine rdi (ixn27' (i := j + 1) (by omega) rowp (by omega)) ?_
    refine putH H 0 (j := j + 1) rfl (by omega) fun w6 H => ?_
    simp only [List.set_cons_zero] at H
    rw [edCur_set (by omega) (by rw [edCell, if_pos hxy])] at H
    refine hN3 _ _ hlt3 ⟨by omega, rfl, rfl, H⟩
  · simp only [hxy, decide_false, Bool.not_false, go_sem, Nat.reduceEqDiff]
    rw [i64_of (n := row.getD j 0 + 1) (by omega) (by omega)]
    rw [i64_of (n := (j : Int) + 1) (by omega) (by omega)]
    refine rdi (ixn27' (i := j + 1) (by omega) rowp (by omega)) ?_
    refine rdi (ld3 ((H.ints 0 rfl).cell (j + 1) (by omega))) ?_
    refine rdi (ixn27 rowp (by omega)) ?_
    refine rdi (ld3 ((H.ints 0 rfl).cell j (by omega))) ?_
    rw [hup, hle]
    simp only [go_sem, Nat.reduceEqDiff]
    rw [i64_of (n := (edNext (a.getD i 0) b row ((i : Int) + 1) j).getD j 0 + 1) (by omega) (by omega), i64_of (n := row.getD (j + 1) 0 + 1) (by omega) (by omega)]
    refine rdi min_int3 ?_
    rw [min3_cell]
    refine rdi (ixn27' (i := j + 1) (by omega) rowp (by omega)) ?_
    refine putH H 0 (j := j + 1) rfl (by omega) fun w6 H => ?_
    simp only [List.set_cons_zero] at H
    rw [edCur_set (by omega) (by rw [edCell, if_neg hxy])] at H
    refine hN3 _ _ hlt3 ⟨by omega, rfl, rfl, H⟩
end Go.Proofs.Ytegcjkhebecgbaa

/- Ci: bodies of functions as terms of the frame calculus, printed by shgen.py of this repository. -/
set_option linter.unusedVariables false
set_option maxRecDepth 100000
namespace Go.Proofs.Ytegcjkhebecgbaa
open Go Go.Sh

/-! loop.example/g00758/laws.FnMend -/
def pl11 : Plans := fun _ => ⟨false, [], .nil⟩
def S11 (v0 v1 : Value) (k : Value → World → Prop) (w : World) : Prop :=
 CallK Try.prog 15 [v0, v1] (fun t1 w2 =>
 CondK t1
  (k (.bool true) w2)
  (CallK Try.prog 95 [v0] (fun t3 w4 =>
  Rd Try.prog (WS.at w4) (sExtract t3 0) fun t5 =>
  Rd Try.prog (WS.at w4) (sExtract t3 1) fun t6 =>
  Rd Try.prog (WS.at w4) (sExtract t3 2) fun t7 =>
  Rd Try.prog (WS.at w4) (sExtract t3 3) fun t8 =>
  Rd Try.prog (WS.at w4) (sExtract t3 4) fun t9 =>
  Do Try.prog (sAlloc 26) (fun t10 w11 =>
  Do Try.prog (sStore 26 t10 t5) (fun _ w12 =>
  Rd Try.prog (WS.at w12) (sLoad 26 t10) fun t13 =>
  CallK Try.prog 96 [t13, t6, t7, t8, t9] (fun t14 w15 =>
  Rd Try.prog (WS.at w15) (sExtract t14 0) fun t16 =>
  Rd Try.prog (WS.at w15) (sExtract t14 1) fun t17 =>
  Rd Try.prog (WS.at w15) (sLoad 26 t10) fun t18 =>
  CallK Try.prog 97 [t18, t6, t7, t8, t9] (fun t19 w20 =>
  Rd Try.prog (WS.at w20) (sExtract t19 0) fun t21 =>
  Rd Try.prog (WS.at w20) (sExtract t19 1) fun t22 =>
  Rd Try.prog (WS.at w20) (sLoad 26 t10) fun t23 =>
  CallK Try.prog 98 [t23, t6] (fun t24 w25 =>
  Rd Try.prog (WS.at w25) (sExtract t24 0) fun t26 =>
  Rd Try.prog (WS.at w25) (sExtract t24 1) fun t27 =>
  Rd Try.prog (WS.at w25) (sLoad 26 t10) fun t28 =>
  CallK Try.prog 99 [t28, t6] (fun t29 w30 =>
  Rd Try.prog (WS.at w30) (sExtract t29 0) fun t31 =>
  Rd Try.prog (WS.at w30) (sExtract t29 1) fun t32 =>
  Rd Try.prog (WS.at w30) (sBin .neq 4 false t17 t22) fun t33 =>
  GuardK t33 false (fun k w' => k t16 w') (fun t34 w35 =>
  GuardK t33 false (fun k w' => k t21 w') (fun t36 w37 =>
  GuardK t33 false (fun k w' => CallK Try.prog 34 [t34, t36] k w') (fun t38 w39 =>
  GuardK t33 false (fun k w' => Rd Try.prog (WS.at w39) (sUn .not t38) fun v => k v w') (fun t40 w41 =>
  Rd Try.prog (WS.at w41) (sPick t33 (.bool true) t40) fun t42 =>
  GuardK t42 false (fun k w' => k t27 w') (fun t43 w44 =>
  GuardK t42 false (fun k w' => k t32 w') (fun t45 w46 =>
  GuardK t42 false (fun k w' => Rd Try.prog (WS.at w46) (sBin .neq 4 false t43 t45) fun v => k v w') (fun t47 w48 =>
  Rd Try.prog (WS.at w48) (sPick t42 (.bool true) t47) fun t49 =>
  GuardK t49 false (fun k w' => k t26 w') (fun t50 w51 =>
  GuardK t49 false (fun k w' => k t31 w') (fun t52 w53 =>
  GuardK t49 false (fun k w' => Rd Try.prog (WS.at w53) (sBin .neq 3 false t50 t52) fun v => k v w') (fun t54 w55 =>
  Rd Try.prog (WS.at w55) (sPick t49 (.bool true) t54) fun t56 =>
  CondK t56
   (k (.bool false) w55)
   (Join (fun K57 =>
   CondK t27
    (Rd Try.prog (WS.at w55) (sLoad 26 t10) fun t60 =>
    CallK Try.prog 26 [t60, t6] (fun t61 w62 =>
    Rd Try.prog (WS.at w62) (sExtract t61 0) fun t63 =>
    Rd Try.prog (WS.at w62) (sExtract t61 1) fun t64 =>
    Rd Try.prog (WS.at w62) (sLoad 26 t10) fun t65 =>
    CallK Try.prog 23 [t65, (.int .i64 3)] (fun t66 w67 =>
    Rd Try.prog (WS.at w67) (sExtract t66 0) fun t68 =>
    Rd Try.prog (WS.at w67) (sExtract t66 1) fun t69 =>
    Rd Try.prog (WS.at w67) (sUn .not t64) fun t70 =>
    GuardK t70 false (fun k w' => k t63 w') (fun t71 w72 =>
    GuardK t70 false (fun k w' => k t26 w') (fun t73 w74 =>
    GuardK t70 false (fun k w' => Rd Try.prog (WS.at w74) (sBin .eql 3 true t73 (.int .i64 0)) fun v => k v w') (fun t75 w76 =>
    GuardK t70 false (fun k w' => Rd Try.prog (WS.at w76) (sBin .neq 4 false t71 t75) fun v => k v w') (fun t77 w78 =>
    Rd Try.prog (WS.at w78) (sPick t70 (.bool true) t77) fun t79 =>
    GuardK t79 false (fun k w' => k t69 w') (fun t80 w81 =>
    GuardK t79 false (fun k w' => Rd Try.prog (WS.at w81) (sUn .not t80) fun v => k v w') (fun t82 w83 =>
    Rd Try.prog (WS.at w83) (sPick t79 (.bool true) t82) fun t84 =>
    CondK t84
     (k (.bool false) w83)
     (Rd Try.prog (WS.at w83) (sBuiltin .len #[35] 3 [false] [t68]) fun t85 =>
     LoopF [134, 135, 136, 23, 138, 139, 140, 137, 141, 142, 24, 25, 143, 144, 145, 146, 147, 148, 149, 4, 150, 133] (fun Q86 f87 w88 =>
      Rd Try.prog (WS.at w88) (sBin .lss 3 false (f87 133) (f87 132)) fun t89 =>
      CondK t89
       (Rd Try.prog (WS.at w88) (sIndexAddr 35 (f87 131) (f87 133)) fun t90 =>
       Rd Try.prog (WS.at w88) (sLoad 27 t90) fun t91 =>
       CallK Try.prog 100 [(f87 6), t91] (fun t92 w93 =>
       Rd Try.prog (WS.at w93) (sExtract t92 0) fun t94 =>
       Rd Try.prog (WS.at w93) (sExtract t92 1) fun t95 =>
       Rd Try.prog (WS.at w93) (sUn .not t95) fun t96 =>
       GuardK t96 false (fun k w' => k t94 w') (fun t97 w98 =>
       GuardK t96 false (fun k w' => k (f87 14) w') (fun t99 w100 =>
       GuardK t96 false (fun k w' => Rd Try.prog (WS.at w100) (sBin .lss 3 false t97 t99) fun v => k v w') (fun t101 w102 =>
       Rd Try.prog (WS.at w102) (sPick t96 (.bool true) t101) fun t103 =>
       CondK t103
        (Q86 .ret (F.upd (F.upd (F.upd (F.upd (F.upd (F.upd (F.upd (F.upd (F.upd (F.upd (F.upd (F.upd (F.upd (F.upd (F.upd (F.upd (F.upd (F.upd (F.upd (F.upd f87 134 t89) 135 t90) 136 t91) 23 t91) 138 (f87 6)) 139 t91) 140 t92) 137 t92) 141 t94) 142 t95) 24 t94) 25 t95) 143 t95) 144 t96) 145 t96) 146 t97) 147 t99) 148 t101) 149 t103) 4 (.bool false)) w102)
        (Rd Try.prog (WS.at w102) (sBin .add 3 true (f87 133) (.int .i64 1)) fun t104 =>
        Q86 .normal (F.upd (F.upd (F.upd (F.upd (F.upd (F.upd (F.upd (F.upd (F.upd (F.upd (F.upd (F.upd (F.upd (F.upd (F.upd (F.upd (F.upd (F.upd (F.upd (F.upd (F.upd f87 134 t89) 135 t90) 136 t91) 23 t91) 138 (f87 6)) 139 t91) 140 t92) 137 t92) 141 t94) 142 t95) 24 t94) 25 t95) 143 t95) 144 t96) 145 t96) 146 t97) 147 t99) 148 t101) 149 t103) 150 t104) 133 t104) w102)) w100) w98) w93) w88)
       (Q86 (.exit 0) (F.upd f87 134 t89) w88))
      (blockQ 0 (seqQ (fun f105 w106 =>
     CondK (f105 11)
      (Rd Try.prog (WS.at w106) (sLoad 26 (f105 5)) fun t107 =>
      CallK Try.prog 98 [t107, (f105 10)] (fun t108 w109 =>
      Rd Try.prog (WS.at w109) (sExtract t108 0) fun t110 =>
      Rd Try.prog (WS.at w109) (sExtract t108 1) fun t111 =>
      CallK Try.prog 100 [(f105 6), (f105 10)] (fun t112 w113 =>
      Rd Try.prog (WS.at w113) (sExtract t112 0) fun t114 =>
      Rd Try.prog (WS.at w113) (sExtract t112 1) fun t115 =>
      Rd Try.prog (WS.at w113) (sUn .not t111) fun t116 =>
      GuardK t116 false (fun k w' => k t110 w') (fun t117 w118 =>
      GuardK t116 false (fun k w' => k (f105 14) w') (fun t119 w120 =>
      GuardK t116 false (fun k w' => Rd Try.prog (WS.at w120) (sBin .add 3 true t119 (.int .i64 1)) fun v => k v w') (fun t121 w122 =>
      GuardK t116 false (fun k w' => Rd Try.prog (WS.at w122) (sBin .gtr 3 false t117 t121) fun v => k v w') (fun t123 w124 =>
      Rd Try.prog (WS.at w124) (sPick t116 (.bool true) t123) fun t125 =>
      GuardK t125 false (fun k w' => k (f105 14) w') (fun t126 w127 =>
      GuardK t125 false (fun k w' => k t110 w') (fun t128 w129 =>
      GuardK t125 false (fun k w' => Rd Try.prog (WS.at w129) (sBin .add 3 true t128 (.int .i64 1)) fun v => k v w') (fun t130 w131 =>
      GuardK t125 false (fun k w' => Rd Try.prog (WS.at w131) (sBin .gtr 3 false t126 t130) fun v => k v w') (fun t132 w133 =>
      Rd Try.prog (WS.at w133) (sPick t125 (.bool true) t132) fun t134 =>
      GuardK t134 false (fun k w' => k t115 w') (fun t135 w136 =>
      GuardK t134 false (fun k w' => Rd Try.prog (WS.at w136) (sUn .not t135) fun v => k v w') (fun t137 w138 =>
      Rd Try.prog (WS.at w138) (sPick t134 (.bool true) t137) fun t139 =>
      GuardK t139 false (fun k w' => k t114 w') (fun t140 w141 =>
      GuardK t139 false (fun k w' => Rd Try.prog (WS.at w141) (sBin .gtr 3 true t140 (.int .i64 1)) fun v => k v w') (fun t142 w143 =>
      Rd Try.prog (WS.at w143) (sPick t139 (.bool true) t142) fun t144 =>
      CondK t144
       (k (.bool false) w143)
       (K57 (F.upd (F.upd (F.upd (F.upd (F.upd (F.upd (F.upd (F.upd (F.upd (F.upd (F.upd (F.upd (F.upd (F.upd (F.upd (F.upd (F.upd (F.upd (F.upd (F.upd (F.upd (F.upd (F.upd (F.upd (F.upd (F.upd (F.upd (F.upd (F.upd (F.upd (F.upd (F.upd (F.upd (F.upd (F.upd (F.upd (F.upd (F.upd (F.upd f105 151 (f105 11)) 153 t107) 154 (f105 10)) 155 t108) 152 t108) 156 t110) 157 t111) 26 t110) 27 t111) 159 (f105 6)) 160 (f105 10)) 161 t112) 158 t112) 162 t114) 163 t115) 28 t114) 29 t115) 164 t111) 165 t116) 166 t116) 167 t117) 168 t119) 169 t121) 170 t123) 171 t125) 172 t125) 173 t126) 174 t128) 175 t130) 176 t132) 177 t134) 178 t134) 179 t135) 180 t137) 181 t139) 182 t139) 183 t140) 184 t142) 185 t144) w143)) w141) w138) w136) w133) w131) w129) w127) w124) w122) w120) w118) w113) w109) w106)
      (K57 (F.upd f105 151 (f105 11)) w106)) (seqQ K57 (bodyQ Try.prog [.tmp 4] k))))
      (F.upd (F.upd (F.upd (F.upd (F.upd (F.upd (F.upd (F.upd (F.upd (F.upd (F.upd (F.upd (F.upd (F.upd (F.upd (F.upd (F.upd (F.upd (F.upd (F.upd (F.upd (F.upd (F.upd (F.upd (F.upd (F.upd (F.upd (F.upd (F.upd (F.upd (F.upd (F.upd (F.upd (F.upd (F.upd (F.upd (F.upd (F.upd (F.upd (F.upd (F.upd (F.upd (F.upd (F.upd (F.upd (F.upd (F.upd (F.upd (F.upd (F.upd (F.upd (F.upd (F.upd (F.upd (F.upd (F.upd (F.upd (F.upd (F.upd (F.upd (F.upd (F.upd (F.upd (F.upd (F.upd (F.upd (F.upd (F.upd (F.upd (F.upd (F.upd (F.upd (F.upd (F.upd (F.upd (F.upd (F.upd (F.upd (F.upd (F.upd (F.upd (F.upd (F.upd (F.upd (F.upd (F.upd (F.upd (F.upd (F.upd (F.upd (F.upd (F.upd (F.upd (F.upd (F.upd (F.upd (F.upd (F.upd (F.upd (F.upd (F.upd (F.upd (F.upd (F.upd (F.upd (initF [v0, v1]) 4 (.bool false)) 47 v0) 48 v1) 49 t1) 51 v0) 52 t3) 50 t3) 53 t5) 54 t6) 55 t7) 56 t8) 57 t9) 5 t10) 6 t6) 7 t7) 8 t8) 9 t9) 59 t13) 60 t6) 61 t7) 62 t8) 63 t9) 64 t14) 58 t14) 65 t16) 66 t17) 10 t16) 11 t17) 68 t18) 69 t6) 70 t7) 71 t8) 72 t9) 73 t19) 67 t19) 74 t21) 75 t22) 12 t21) 13 t22) 77 t23) 78 t6) 79 t24) 76 t24) 80 t26) 81 t27) 14 t26) 15 t27) 83 t28) 84 t6) 85 t29) 82 t29) 86 t31) 87 t32) 16 t31) 17 t32) 88 t17) 89 t22) 90 t33) 91 t33) 92 t34) 93 t36) 94 t38) 95 t40) 96 t42) 97 t42) 98 t43) 99 t45) 100 t47) 101 t49) 102 t49) 103 t50) 104 t52) 105 t54) 106 t56) 107 t27) 109 t60) 110 t6) 111 t61) 108 t61) 112 t63) 113 t64) 18 t63) 19 t64) 115 t65) 116 t66) 114 t66) 117 t68) 118 t69) 20 t68) 21 t69) 119 t64) 120 t70) 121 t70) 122 t71) 123 t73) 124 t75) 125 t77) 126 t79) 127 t79) 128 t80) 129 t82) 130 t84) 131 t68) 132 t85) 133 (.int .i64 0)) w83)) w81) w78) w76) w74) w72) w67) w62) w55)
    (K57 (F.upd (F.upd (F.upd (F.upd (F.upd (F.upd (F.upd (F.upd (F.upd (F.upd (F.upd (F.upd (F.upd (F.upd (F.upd (F.upd (F.upd (F.upd (F.upd (F.upd (F.upd (F.upd (F.upd (F.upd (F.upd (F.upd (F.upd (F.upd (F.upd (F.upd (F.upd (F.upd (F.upd (F.upd (F.upd (F.upd (F.upd (F.upd (F.upd (F.upd (F.upd (F.upd (F.upd (F.upd (F.upd (F.upd (F.upd (F.upd (F.upd (F.upd (F.upd (F.upd (F.upd (F.upd (F.upd (F.upd (F.upd (F.upd (F.upd (F.upd (F.upd (F.upd (F.upd (F.upd (F.upd (F.upd (F.upd (F.upd (F.upd (F.upd (F.upd (F.upd (F.upd (F.upd (F.upd (initF [v0, v1]) 4 (.bool false)) 47 v0) 48 v1) 49 t1) 51 v0) 52 t3) 50 t3) 53 t5) 54 t6) 55 t7) 56 t8) 57 t9) 5 t10) 6 t6) 7 t7) 8 t8) 9 t9) 59 t13) 60 t6) 61 t7) 62 t8) 63 t9) 64 t14) 58 t14) 65 t16) 66 t17) 10 t16) 11 t17) 68 t18) 69 t6) 70 t7) 71 t8) 72 t9) 73 t19) 67 t19) 74 t21) 75 t22) 12 t21) 13 t22) 77 t23) 78 t6) 79 t24) 76 t24) 80 t26) 81 t27) 14 t26) 15 t27) 83 t28) 84 t6) 85 t29) 82 t29) 86 t31) 87 t32) 16 t31) 17 t32) 88 t17) 89 t22) 90 t33) 91 t33) 92 t34) 93 t36) 94 t38) 95 t40) 96 t42) 97 t42) 98 t43) 99 t45) 100 t47) 101 t49) 102 t49) 103 t50) 104 t52) 105 t54) 106 t56) 107 t27) w55)) (fun f58 w59 =>
   CallK Try.prog 101 [(f58 1)] (fun t147 w148 =>
   Rd Try.prog (WS.at w148) (sExtract t147 0) fun t149 =>
   Rd Try.prog (WS.at w148) (sExtract t147 1) fun t150 =>
   Rd Try.prog (WS.at w148) (sExtract t147 2) fun t151 =>
   Do Try.prog (sAlloc 26) (fun t152 w153 =>
   Do Try.prog (sStore 26 t152 t149) (fun _ w154 =>
   Rd Try.prog (WS.at w154) (sLoad 26 t152) fun t155 =>
   CallK Try.prog 102 [t155, t150, t151] (fun t156 w157 =>
   Rd Try.prog (WS.at w157) (sExtract t156 0) fun t158 =>
   Rd Try.prog (WS.at w157) (sExtract t156 1) fun t159 =>
   Rd Try.prog (WS.at w157) (sLoad 26 t152) fun t160 =>
   CallK Try.prog 103 [t160, t150, t151] (fun t161 w162 =>
   Rd Try.prog (WS.at w162) (sExtract t161 0) fun t163 =>
   Rd Try.prog (WS.at w162) (sExtract t161 1) fun t164 =>
   CallK Try.prog 104 [(f58 1)] (fun t165 w166 =>
   Rd Try.prog (WS.at w166) (sExtract t165 0) fun t167 =>
   Rd Try.prog (WS.at w166) (sExtract t165 1) fun t168 =>
   Do Try.prog (sAlloc 26) (fun t169 w170 =>
   Do Try.prog (sStore 26 t169 t167) (fun _ w171 =>
   Rd Try.prog (WS.at w171) (sLoad 26 t169) fun t172 =>
   CallK Try.prog 105 [t172, t168] (fun t173 w174 =>
   Rd Try.prog (WS.at w174) (sExtract t173 0) fun t175 =>
   Rd Try.prog (WS.at w174) (sExtract t173 1) fun t176 =>
   Rd Try.prog (WS.at w174) (sLoad 26 t169) fun t177 =>
   CallK Try.prog 106 [t177, t168] (fun t178 w179 =>
   Rd Try.prog (WS.at w179) (sExtract t178 0) fun t180 =>
   Rd Try.prog (WS.at w179) (sExtract t178 1) fun t181 =>
   Rd Try.prog (WS.at w179) (sBin .neq 4 false t159 t164) fun t182 =>
   GuardK t182 false (fun k w' => k t158 w') (fun t183 w184 =>
   GuardK t182 false (fun k w' => k t163 w') (fun t185 w186 =>
   GuardK t182 false (fun k w' => CallK Try.prog 34 [t183, t185] k w') (fun t187 w188 =>
   GuardK t182 false (fun k w' => Rd Try.prog (WS.at w188) (sUn .not t187) fun v => k v w') (fun t189 w190 =>
   Rd Try.prog (WS.at w190) (sPick t182 (.bool true) t189) fun t191 =>
   GuardK t191 false (fun k w' => k t176 w') (fun t192 w193 =>
   GuardK t191 false (fun k w' => k t181 w') (fun t194 w195 =>
   GuardK t191 false (fun k w' => Rd Try.prog (WS.at w195) (sBin .neq 4 false t192 t194) fun v => k v w') (fun t196 w197 =>
   Rd Try.prog (WS.at w197) (sPick t191 (.bool true) t196) fun t198 =>
   GuardK t198 false (fun k w' => k t175 w') (fun t199 w200 =>
   GuardK t198 false (fun k w' => k t180 w') (fun t201 w202 =>
   GuardK t198 false (fun k w' => CallK Try.prog 34 [t199, t201] k w') (fun t203 w204 =>
   GuardK t198 false (fun k w' => Rd Try.prog (WS.at w204) (sUn .not t203) fun v => k v w') (fun t205 w206 =>
   Rd Try.prog (WS.at w206) (sPick t198 (.bool true) t205) fun t207 =>
   CondK t207
    (k (.bool false) w206)
    (CondK t159
     (Rd Try.prog (WS.at w206) (sLoad 26 t152) fun t208 =>
     CallK Try.prog 98 [t208, t150] (fun t209 w210 =>
     Rd Try.prog (WS.at w210) (sExtract t209 0) fun t211 =>
     Rd Try.prog (WS.at w210) (sExtract t209 1) fun t212 =>
     CallK Try.prog 100 [t150, t158] (fun t213 w214 =>
     Rd Try.prog (WS.at w214) (sExtract t213 0) fun t215 =>
     Rd Try.prog (WS.at w214) (sExtract t213 1) fun t216 =>
     GuardK t212 true (fun k w' => k t216 w') (fun t217 w218 =>
     Rd Try.prog (WS.at w218) (sPick t212 t217 (.bool false)) fun t219 =>
     GuardK t219 true (fun k w' => k t211 w') (fun t220 w221 =>
     GuardK t219 true (fun k w' => k t215 w') (fun t222 w223 =>
     GuardK t219 true (fun k w' => Rd Try.prog (WS.at w223) (sBin .leq 3 false t220 t222) fun v => k v w') (fun t224 w225 =>
     Rd Try.prog (WS.at w225) (sPick t219 t224 (.bool false)) fun t226 =>
     k t226 w225) w223) w221) w218) w214) w210) w206)
     (k (.bool true) w206))) w204) w202) w200) w197) w195) w193) w190) w188) w186) w184) w179) w174) w171) w170) w166) w162) w157) w154) w153) w148) w59))) w53) w51) w48) w46) w44) w41) w39) w37) w35) w30) w25) w20) w15) w12) w11) w4) w2)) w
theorem body11 : Try.f11.body = some (bodyOf Try.f11) := by kernel_rfl
theorem same11 (v0 v1 : Value) (k : Value → World → Prop) (w : World) : wpF Try.prog pl11 (bodyOf Try.f11) (bodyQ Try.prog Try.f11.results.toList k) (initF [v0, v1]) w = S11 v0 v1 k w := by kernel_rfl
theorem enter11 {v0 v1 : Value} {k : Value → World → Prop} {w : World} (h : S11 v0 v1 k w) : CallK Try.prog 11 [v0, v1] k w :=
  call_of_wpF (pl := pl11) mixed Try.func11 body11 (by kernel_rfl) (of_decide_eq_true (by kernel_rfl)) (by kernel_rfl) (by kernel_rfl) (Eq.mpr (same11 v0 v1 k w) h)

/-! loop.example/g00758/spec.DrawChangeWord -/
def pl95 : Plans := fun i => match i with
  | 8 => ⟨true, [9], .step 0 .held (.step 1 .any (.step 2 .any (.step 3 .any (.step 4 .any (.step 5 .any (.step 6 .any (.step 8 .any (.step 7 .one (.step 9 .last (.step 10 .any (.step 11 .any (.step 12 .any (.step 13 .any (.nil))))))))))))))⟩
  | _ => ⟨false, [], .nil⟩
def S95 (v0 : Value) (k : Value → World → Prop) (w : World) : Prop :=
 Do Try.prog (sAlloc 26) (fun t1 w2 =>
 Rd Try.prog (WS.at w2) (sBuild 114 [(0, v0)]) fun t3 =>
 Do Try.prog (sBox 114 t3) (fun t4 w5 =>
 CallK Try.prog 145 [t4] (fun t6 w7 =>
 Do Try.prog (sAlloc 26) (fun t8 w9 =>
 Do Try.prog (sStore 26 t8 t6) (fun _ w10 =>
 Rd Try.prog (WS.at w10) (sLoad 26 t8) fun t11 =>
 CallK Try.prog 147 [t4, t11] (fun t12 w13 =>
 CallK Try.prog 146 [t4, (.int .i64 4)] (fun t14 w15 =>
 Rd Try.prog (WS.at w15) (sFieldAddr 26 t8 1) fun t16 =>
 Rd Try.prog (WS.at w15) (sLoad 3 t16) fun t17 =>
 CallK Try.prog 159 [(.int .i64 1), t17] (fun t18 w19 =>
 CallK Try.prog 146 [t4, t18] (fun t20 w21 =>
 Join (fun K22 =>
 Rd Try.prog (WS.at w21) (sBin .eql 3 true t14 (.int .i64 0)) fun t25 =>
 CondK t25
  (CallK Try.prog 146 [t4, (.int .i64 12)] (fun t26 w27 =>
  Rd Try.prog (WS.at w27) (sBin .quo 3 true t26 (.int .i64 11)) fun t28 =>
  K22 (F.upd (F.upd (F.upd (F.upd (F.upd (F.upd (F.upd (F.upd (F.upd (F.upd (F.upd (F.upd (F.upd (F.upd (F.upd (F.upd (F.upd (F.upd (F.upd (F.upd (F.upd (F.upd (F.upd (F.upd (F.upd (F.upd (F.upd (F.upd (F.upd (F.upd (F.upd (initF [v0]) 2 t1) 3 (.slice none 0 0)) 4 (.int .i64 0)) 5 (.int .i64 0)) 6 (.int .i64 0)) 12 v0) 13 t3) 14 t4) 7 t4) 15 t4) 16 t6) 8 t8) 17 t4) 18 t11) 19 t12) 9 t12) 20 t4) 21 t14) 10 t14) 22 t4) 23 t16) 24 t17) 25 t18) 26 t20) 11 t20) 27 t14) 28 t25) 29 t4) 30 t26) 31 t28) 11 t28) w27) w21)
  (K22 (F.upd (F.upd (F.upd (F.upd (F.upd (F.upd (F.upd (F.upd (F.upd (F.upd (F.upd (F.upd (F.upd (F.upd (F.upd (F.upd (F.upd (F.upd (F.upd (F.upd (F.upd (F.upd (F.upd (F.upd (F.upd (F.upd (F.upd (initF [v0]) 2 t1) 3 (.slice none 0 0)) 4 (.int .i64 0)) 5 (.int .i64 0)) 6 (.int .i64 0)) 12 v0) 13 t3) 14 t4) 7 t4) 15 t4) 16 t6) 8 t8) 17 t4) 18 t11) 19 t12) 9 t12) 20 t4) 21 t14) 10 t14) 22 t4) 23 t16) 24 t17) 25 t18) 26 t20) 11 t20) 27 t14) 28 t25) w21)) (fun f23 w24 =>
 ∃ S29 : World → Prop, ∃ h30 : S29 w24.drew,
 Rd Try.prog ⟨S29, w24.drew, h30⟩ (sLoad 26 (f23 8)) fun t31 =>
 Rd Try.prog WS.any (sBuiltin .len #[27] 3 [false] [(f23 9)]) fun t32 =>
 Rd Try.prog WS.any (sBin .add 3 true t32 (.int .i64 1)) fun t33 =>
 CallK Try.prog 146 [(f23 7), t33] (fun t34 w35 =>
 S29 w35 ∧ Do Try.prog (sStore 26 (f23 2) t31) (fun _ w36 =>
 Rd Try.prog (WS.at w36) (sLoadVar 26 (f23 2)) fun t37 => k (.tuple #[t37, (f23 9), (f23 10), t34, (f23 11)]) w36) w35) w24.drew)) w19) w15) w13) w10) w9) w7) w5) w2) w
theorem body95 : Try.f95.body = some (bodyOf Try.f95) := by kernel_rfl
theorem same95 (v0 : Value) (k : Value → World → Prop) (w : World) : wpF Try.prog pl95 (bodyOf Try.f95) (bodyQ Try.prog Try.f95.results.toList k) (initF [v0]) w = S95 v0 k w := by kernel_rfl
theorem enter95 {v0 : Value} {k : Value → World → Prop} {w : World} (h : S95 v0 k w) : CallK Try.prog 95 [v0] k w :=
  call_of_wpF (pl := pl95) mixed Try.func95 body95 (by kernel_rfl) (of_decide_eq_true (by kernel_rfl)) (by kernel_rfl) (by kernel_rfl) (Eq.mpr (same95 v0 k w) h)

/-! loop.example/g00758/spec.DrawNearWord -/
def pl101 : Plans := fun i => match i with
  | 3 => ⟨true, [], .step 0 .held (.step 1 .any (.step 2 .held (.step 4 .any (.fork 3 (.step 5 .one (.step 6 .one (.step 7 .one (.step 8 .any (.step 9 .any (.nil)))))) 5 (.step 3 .one (.step 6 .one (.step 7 .one (.step 8 .any (.step 9 .any (.nil))))))))))⟩
  | _ => ⟨false, [], .nil⟩
def S101 (v0 : Value) (k : Value → World → Prop) (w : World) : Prop :=
 Do Try.prog (sAlloc 26) (fun t1 w2 =>
 Rd Try.prog (WS.at w2) (sBuild 114 [(0, v0)]) fun t3 =>
 Do Try.prog (sBox 114 t3) (fun t4 w5 =>
 CallK Try.prog 145 [t4] (fun t6 w7 =>
 Do Try.prog (sAlloc 26) (fun t8 w9 =>
 Do Try.prog (sStore 26 t8 t6) (fun _ w10 =>
 Join (fun K13 =>
 ∃ S11 : World → Prop, ∃ h12 : S11 w10.drew,
 Rd Try.prog ⟨S11, w10.drew, h12⟩ (sLoad 26 t8) fun t16 =>
 Rd Try.prog ⟨S11, w10.drew, h12⟩ (sLoad 26 t8) fun t17 =>
 ((CallK Try.prog 218 [t4, t17, (.int .i64 5)] (fun t18 w19 =>
 S11 w19 ∧ Do Try.prog (sBuildSlice 27 6 [(0, (.int .i64 0)), (1, (.int .i64 1)), (2, (.int .i64 2)), (3, (.int .i64 3)), (4, (.int .i64 3)), (5, (.int .i64 5))]) (fun t20 w21 =>
 S11 w21 ∧ CallK Try.prog 156 [t4, t20] (fun t22 w23 =>
 S11 w23 ∧ Do Try.prog (sStore 26 t1 t16) (fun _ w24 =>
 S11 w24 ∧ K13 (F.upd (F.upd (F.upd (F.upd (F.upd (F.upd (F.upd (F.upd (F.upd (F.upd (F.upd (F.upd (F.upd (F.upd (F.upd (F.upd (F.upd (F.upd (F.upd (initF [v0]) 2 t1) 3 (.slice none 0 0)) 4 (.int .i64 0)) 7 v0) 8 t3) 9 t4) 5 t4) 10 t4) 11 t6) 6 t8) 12 t16) 13 t4) 14 t17) 16 t4) 15 t18) 17 t20) 18 t22) 3 t18) 4 t22) w24) w23) w21) w19) w10.drew) ∧
 (Do Try.prog (sBuildSlice 27 6 [(0, (.int .i64 0)), (1, (.int .i64 1)), (2, (.int .i64 2)), (3, (.int .i64 3)), (4, (.int .i64 3)), (5, (.int .i64 5))]) (fun t25 w26 =>
 S11 w26 ∧ CallK Try.prog 218 [t4, t17, (.int .i64 5)] (fun t27 w28 =>
 S11 w28 ∧ CallK Try.prog 156 [t4, t25] (fun t29 w30 =>
 S11 w30 ∧ Do Try.prog (sStore 26 t1 t16) (fun _ w31 =>
 S11 w31 ∧ K13 (F.upd (F.upd (F.upd (F.upd (F.upd (F.upd (F.upd (F.upd (F.upd (F.upd (F.upd (F.upd (F.upd (F.upd (F.upd (F.upd (F.upd (F.upd (F.upd (initF [v0]) 2 t1) 3 (.slice none 0 0)) 4 (.int .i64 0)) 7 v0) 8 t3) 9 t4) 5 t4) 10 t4) 11 t6) 6 t8) 12 t16) 13 t4) 14 t17) 16 t4) 17 t25) 15 t27) 18 t29) 3 t27) 4 t29) w31) w30) w28) w26) w10.drew))) (fun f14 w15 =>
 Rd Try.prog (WS.at w15) (sLoadVar 26 (f14 2)) fun t32 => k (.tuple #[t32, (f14 3), (f14 4)]) w15)) w9) w7) w5) w2) w
theorem body101 : Try.f101.body = some (bodyOf Try.f101) := by kernel_rfl
theorem same101 (v0 : Value) (k : Value → World → Prop) (w : World) : wpF Try.prog pl101 (bodyOf Try.f101) (bodyQ Try.prog Try.f101.results.toList k) (initF [v0]) w = S101 v0 k w := by kernel_rfl
theorem enter101 {v0 : Value} {k : Value → World → Prop} {w : World} (h : S101 v0 k w) : CallK Try.prog 101 [v0] k w :=
  call_of_wpF (pl := pl101) mixed Try.func101 body101 (by kernel_rfl) (of_decide_eq_true (by kernel_rfl)) (by kernel_rfl) (by kernel_rfl) (Eq.mpr (same101 v0 k w) h)

/-! loop.example/g00758/spec.DrawMendTable -/
def pl104 : Plans := fun _ => ⟨false, [], .nil⟩
def S104 (v0 : Value) (k : Value → World → Prop) (w : World) : Prop :=
 Do Try.prog (sAlloc 26) (fun t1 w2 =>
 CallK Try.prog 43 [v0] (fun t3 w4 =>
 Rd Try.prog (WS.at w4) (sExtract t3 0) fun t5 =>
 Rd Try.prog (WS.at w4) (sExtract t3 1) fun t6 =>
 Do Try.prog (sStore 26 t1 t5) (fun _ w7 =>
 Rd Try.prog (WS.at w7) (sLoadVar 26 t1) fun t8 => k (.tuple #[t8, t6]) w7) w4) w2) w
theorem body104 : Try.f104.body = some (bodyOf Try.f104) := by kernel_rfl
theorem same104 (v0 : Value) (k : Value → World → Prop) (w : World) : wpF Try.prog pl104 (bodyOf Try.f104) (bodyQ Try.prog Try.f104.results.toList k) (initF [v0]) w = S104 v0 k w := by kernel_rfl
theorem enter104 {v0 : Value} {k : Value → World → Prop} {w : World} (h : S104 v0 k w) : CallK Try.prog 104 [v0] k w :=
  call_of_wpF (pl := pl104) mixed Try.func104 body104 (by kernel_rfl) (of_decide_eq_true (by kernel_rfl)) (by kernel_rfl) (by kernel_rfl) (Eq.mpr (same104 v0 k w) h)

/-! loop.example/g00758/impl.Apart -/
def pl100 : Plans := fun _ => ⟨false, [], .nil⟩
def S100 (v0 v1 : Value) (k : Value → World → Prop) (w : World) : Prop :=
 Rd Try.prog (WS.at w) (sBuiltin .len #[27] 3 [false] [v0]) fun t1 =>
 Rd Try.prog (WS.at w) (sBin .gtr 3 true t1 (.int .i64 8)) fun t2 =>
 GuardK t2 false (fun k w' => k v1 w') (fun t3 w4 =>
 GuardK t2 false (fun k w' => Rd Try.prog (WS.at w4) (sBuiltin .len #[27] 3 [false] [t3]) fun v => k v w') (fun t5 w6 =>
 GuardK t2 false (fun k w' => Rd Try.prog (WS.at w6) (sBin .gtr 3 true t5 (.int .i64 8)) fun v => k v w') (fun t7 w8 =>
 Rd Try.prog (WS.at w8) (sPick t2 (.bool true) t7) fun t9 =>
 CondK t9
  (k (.tuple #[(.int .i64 0), (.bool false)]) w8)
  (CallK Try.prog 217 [v0, v1] (fun t10 w11 =>
  k (.tuple #[t10, (.bool true)]) w11) w8)) w6) w4) w
theorem body100 : Try.f100.body = some (bodyOf Try.f100) := by kernel_rfl
theorem same100 (v0 v1 : Value) (k : Value → World → Prop) (w : World) : wpF Try.prog pl100 (bodyOf Try.f100) (bodyQ Try.prog Try.f100.results.toList k) (initF [v0, v1]) w = S100 v0 v1 k w := by kernel_rfl
theorem enter100 {v0 v1 : Value} {k : Value → World → Prop} {w : World} (h : S100 v0 v1 k w) : CallK Try.prog 100 [v0, v1] k w :=
  call_of_wpF (pl := pl100) mixed Try.func100 body100 (by kernel_rfl) (of_decide_eq_true (by kernel_rfl)) (by kernel_rfl) (by kernel_rfl) (Eq.mpr (same100 v0 v1 k w) h)

end Go.Proofs.Ytegcjkhebecgbaa

/- Contracts: DrawChangeWord, DrawNearWord, DrawMendTable; Apart. -/
set_option linter.unusedVariables false
set_option linter.unusedSimpArgs false
set_option maxRecDepth 100000
namespace Go.Sh
open Go
def apartV (a b : List Int) : Int × Bool := if a.length ≤ 8 ∧ b.length ≤ 8 then (edist a b, true) else (0, false)
section
variable {P : Program} {S : WS} {k : Value → Prop} {a b c d e : Value}
theorem ext5_0 : Rd P S (sExtract (.tuple #[a, b, c, d, e]) 0) k = k a := rd_eq fun w _ => rfl
theorem ext5_1 : Rd P S (sExtract (.tuple #[a, b, c, d, e]) 1) k = k b := rd_eq fun w _ => rfl
theorem ext5_2 : Rd P S (sExtract (.tuple #[a, b, c, d, e]) 2) k = k c := rd_eq fun w _ => rfl
theorem ext5_3 : Rd P S (sExtract (.tuple #[a, b, c, d, e]) 3) k = k d := rd_eq fun w _ => rfl
theorem ext5_4 : Rd P S (sExtract (.tuple #[a, b, c, d, e]) 4) k = k e := rd_eq fun w _ => rfl
end
end Go.Sh
namespace Go.Proofs.Ytegcjkhebecgbaa
open Go Go.Sh Go.RowKit
section
variable {w0 w : World} {E : List Thing} {C : Option Addr} {cap : Nat} {bs : List Int} {k : Value → World → Prop}
set_option maxHeartbeats 3200000 in
theorem apartT_c {X Y : Option Addr} {n m c d : Nat} {a b : List Int} (hX : Ints w X a) (hY : Ints w Y b) (hn : n = a.length) (hm : m = b.length) (hk : ∀ w', Gr w w' → k (.tuple #[.int .i64 (apartV a b).1, .bool (apartV a b).2]) w') :
    CallK Try.prog 100 [.slice X n c, .slice Y m d] k w := by
  subst hn hm
  refine enter100 ?_
  unfold S100
  unfold apartV at hk
  simp only [bin_add, bin_sub, bin_mul, bin_eql, bin_neq, bin_lss, bin_leq, bin_gtr, bin_geq, un_not, un_neg, pick_true, pick_false, extract_two_0, extract_two_1, nilCheck_pointer, cond_true', cond_false', guard_tt, guard_ff, guard_tf, guard_ft, guard_undef, seqQ_normal, seqQ_ret, seqQ_exit, blockQ_ret, blockQ_normal, blockQ_exit, bodyQ_ret, bodyQ_normal, resK_nil, resK_tmp, ite_T, ite_F, upd_at, add_plain, add_zero', Nat.reduceEqDiff, fa8_0, fa8_1, fa8_2, fa8_3, fa14_0, fa14_1, fa19_0, len22, len24, fa26_0, fa26_1, fa26_2, len27, fa33_0, fa33_1, len35, fa77_0, fa77_1, fa88_0, fa88_1, fa88_2, fa88_3, fa88_4, fa88_5, fa114_0, fa114_1, fa114_2, fa124_0, fa124_1, len134, len136, len154, fa156_0, fa156_1, fa156_2, fa156_3, fa156_4, fa156_5, fa156_6, fa184_0, fa184_1, fa200_0, fa200_1, fa200_2, fa200_3, fa215_0, fa215_1, fa215_2, fa215_3, fa215_4, len218, len271, fa274_0, fa274_1, fa274_2, fa303_0, fa303_1, fa303_2, fa303_3, fa314_0, fa314_1, fa314_2, fa314_3, fa314_4, fa314_5, fa314_6, fa314_7, fa314_8, fa314_9, fa314_10]
  by_cases h1 : a.length ≤ 8
  case neg =>
    simp only [show (8 : Int) < a.length from by omega, decide_true, bin_add, bin_sub, bin_mul, bin_eql, bin_neq, bin_lss, bin_leq, bin_gtr, bin_geq, un_not, un_neg, pick_true, pick_false, extract_two_0, extract_two_1, nilCheck_pointer, cond_true', cond_false', guard_tt, guard_ff, guard_tf, guard_ft, guard_undef, seqQ_normal, seqQ_ret, seqQ_exit, blockQ_ret, blockQ_normal, blockQ_exit, bodyQ_ret, bodyQ_normal, resK_nil, resK_tmp, ite_T, ite_F, upd_at, add_plain, add_zero', Nat.reduceEqDiff, fa8_0, fa8_1, fa8_2, fa8_3, fa14_0, fa14_1, fa19_0, len22, len24, fa26_0, fa26_1, fa26_2, len27, fa33_0, fa33_1, len35, fa77_0, fa77_1, fa88_0, fa88_1, fa88_2, fa88_3, fa88_4, fa88_5, fa114_0, fa114_1, fa114_2, fa124_0, fa124_1, len134, len136, len154, fa156_0, fa156_1, fa156_2, fa156_3, fa156_4, fa156_5, fa156_6, fa184_0, fa184_1, fa200_0, fa200_1, fa200_2, fa200_3, fa215_0, fa215_1, fa215_2, fa215_3, fa215_4, len218, len271, fa274_0, fa274_1, fa274_2, fa303_0, fa303_1, fa303_2, fa303_3, fa314_0, fa314_1, fa314_2, fa314_3, fa314_4, fa314_5, fa314_6, fa314_7, fa314_8, fa314_9, fa314_10]
    rw [if_neg (fun h => h1 h.1)] at hk
    exact hk w (Gr.refl w)
  by_cases h2 : b.length ≤ 8
  case neg =>
    simp only [show ¬ ((8 : Int) < a.length) from by omega, show (8 : Int) < b.length from by omega, decide_true, decide_false, bin_add, bin_sub, bin_mul, bin_eql, bin_neq, bin_lss, bin_leq, bin_gtr, bin_geq, un_not, un_neg, pick_true, pick_false, extract_two_0, extract_two_1, nilCheck_pointer, cond_true', cond_false', guard_tt, guard_ff, guard_tf, guard_ft, guard_undef, seqQ_normal, seqQ_ret, seqQ_exit, blockQ_ret, blockQ_normal, blockQ_exit, bodyQ_ret, bodyQ_normal, resK_nil, resK_tmp, ite_T, ite_F, upd_at, add_plain, add_zero', Nat.reduceEqDiff, fa8_0, fa8_1, fa8_2, fa8_3, fa14_0, fa14_1, fa19_0, len22, len24, fa26_0, fa26_1, fa26_2, len27, fa33_0, fa33_1, len35, fa77_0, fa77_1, fa88_0, fa88_1, fa88_2, fa88_3, fa88_4, fa88_5, fa114_0, fa114_1, fa114_2, fa124_0, fa124_1, len134, len136, len154, fa156_0, fa156_1, fa156_2, fa156_3, fa156_4, fa156_5, fa156_6, fa184_0, fa184_1, fa200_0, fa200_1, fa200_2, fa200_3, fa215_0, fa215_1, fa215_2, fa215_3, fa215_4, len218, len271, fa274_0, fa274_1, fa274_2, fa303_0, fa303_1, fa303_2, fa303_3, fa314_0, fa314_1, fa314_2, fa314_3, fa314_4, fa314_5, fa314_6, fa314_7, fa314_8, fa314_9, fa314_10]
    rw [if_neg (fun h => h2 h.2)] at hk
    exact hk w (Gr.refl w)
  simp only [show ¬ ((8 : Int) < a.length) from by omega, show ¬ ((8 : Int) < b.length) from by omega, decide_false, bin_add, bin_sub, bin_mul, bin_eql, bin_neq, bin_lss, bin_leq, bin_gtr, bin_geq, un_not, un_neg, pick_true, pick_false, extract_two_0, extract_two_1, nilCheck_pointer, cond_true', cond_false', guard_tt, guard_ff, guard_tf, guard_ft, guard_undef, seqQ_normal, seqQ_ret, seqQ_exit, blockQ_ret, blockQ_normal, blockQ_exit, bodyQ_ret, bodyQ_normal, resK_nil, resK_tmp, ite_T, ite_F, upd_at, add_plain, add_zero', Nat.reduceEqDiff, fa8_0, fa8_1, fa8_2, fa8_3, fa14_0, fa14_1, fa19_0, len22, len24, fa26_0, fa26_1, fa26_2, len27, fa33_0, fa33_1, len35, fa77_0, fa77_1, fa88_0, fa88_1, fa88_2, fa88_3, fa88_4, fa88_5, fa114_0, fa114_1, fa114_2, fa124_0, fa124_1, len134, len136, len154, fa156_0, fa156_1, fa156_2, fa156_3, fa156_4, fa156_5, fa156_6, fa184_0, fa184_1, fa200_0, fa200_1, fa200_2, fa200_3, fa215_0, fa215_1, fa215_2, fa215_3, fa215_4, len218, len271, fa274_0, fa274_1, fa274_2, fa303_0, fa303_1, fa303_2, fa303_3, fa314_0, fa314_1, fa314_2, fa314_3, fa314_4, fa314_5, fa314_6, fa314_7, fa314_8, fa314_9, fa314_10]
  rw [if_pos ⟨h1, h2⟩] at hk
  refine apart_c hX hY (by omega) (by omega) fun w1 g => ?_
  exact hk w1 g
set_option maxHeartbeats 3200000 in
theorem drawChange_c (hC : Byts w C bs) (hk : ∀ w' gm ft Y cy X cx ws kd pt tok, Drawn 101 gm → Apt w w' [ows X cx ws, gth ft Y cy gm.rules] → k (.tuple #[grv gm Y cy, .slice X (List.length ws) cx, .int .i64 kd, .int .i64 pt, .int .i64 tok]) w') :
    CallK Try.prog 95 [.slice C bs.length cap] k w := by
  refine enter95 ?_
  unfold S95
  refine draw0 fun b1 b4 w1 H => ?_
  refine any_c H hC (by omega) fun w2 gm ft Y cy hd H => ?_
  refine allocH H inf26 fun b8 w3 H => ?_
  refine storeH H 3 rfl sz26 rfl rfl rfl fun w4 H => ?_
  simp only [List.cons_append, List.nil_append, List.set_cons_zero, List.set_cons_succ] at H
  have hG := gowK (H.gow 1 rfl)
  have htoks := hd.toks
  rw [ldB_agg agg26 sz26 rfl (H.box 3 rfl)]
  refine wordIn_c H hC (by omega) hG.1 hG.2 hd.toks fun w5 Z d ws hl H => ?_
  refine pick_c H 0 rfl hC (by omega) (by omega) fun w6 a _ ha H => ?_
  simp only [List.set_cons_zero] at H
  simp only [bin_add, bin_sub, bin_mul, bin_eql, bin_neq, bin_lss, bin_leq, bin_gtr, bin_geq, un_not, un_neg, pick_true, pick_false, extract_two_0, extract_two_1, nilCheck_pointer, cond_true', cond_false', guard_tt, guard_ff, guard_tf, guard_ft, guard_undef, seqQ_normal, seqQ_ret, seqQ_exit, blockQ_ret, blockQ_normal, blockQ_exit, bodyQ_ret, bodyQ_normal, resK_nil, resK_tmp, ite_T, ite_F, upd_at, add_plain, add_zero', Nat.reduceEqDiff, fa8_0, fa8_1, fa8_2, fa8_3, fa14_0, fa14_1, fa19_0, len22, len24, fa26_0, fa26_1, fa26_2, len27, fa33_0, fa33_1, len35, fa77_0, fa77_1, fa88_0, fa88_1, fa88_2, fa88_3, fa88_4, fa88_5, fa114_0, fa114_1, fa114_2, fa124_0, fa124_1, len134, len136, len154, fa156_0, fa156_1, fa156_2, fa156_3, fa156_4, fa156_5, fa156_6, fa184_0, fa184_1, fa200_0, fa200_1, fa200_2, fa200_3, fa215_0, fa215_1, fa215_2, fa215_3, fa215_4, len218, len271, fa274_0, fa274_1, fa274_2, fa303_0, fa303_1, fa303_2, fa303_3, fa314_0, fa314_1, fa314_2, fa314_3, fa314_4, fa314_5, fa314_6, fa314_7, fa314_8, fa314_9, fa314_10]
  rw [ldB3 (H.box 4 rfl) rfl]
  refine l1Most_c ?_
  have hm : ∃ m : Int, 0 ≤ m ∧ m ≤ 1000 ∧ (if (1 : Int) < gm.toks then gm.toks else 1) = m := ⟨_, by split <;> omega, by split <;> omega, rfl⟩
  obtain ⟨m, hm0, hm1, hme⟩ := hm
  rw [hme]
  refine pick_c H 0 rfl hC (by omega) (by omega) fun w7 tk _ _ H => ?_
  simp only [List.set_cons_zero] at H
  refine join_as (fun f w' => f 2 = ptrv b1 ∧ f 7 = ptrv b4 ∧ f 8 = ptrv b8 ∧ f 9 = .slice Z ws.length d ∧ f 10 = .int .i64 (a : Int) ∧ ∃ tok : Int, f 11 = .int .i64 tok ∧ Apt w w' [cur b4 (.slice C bs.length cap) 1000, ows Z d ws, gth ft Y cy gm.rules, bx b1 zg 26, bx b8 [.int .i64 gm.nons, .int .i64 gm.toks, .slice Y gm.rules.length cy] 26]) (fun K hK => ?_) ?_
  · by_cases h0 : (a : Int) = 0
    · simp only [h0, decide_true, bin_add, bin_sub, bin_mul, bin_eql, bin_neq, bin_lss, bin_leq, bin_gtr, bin_geq, un_not, un_neg, pick_true, pick_false, extract_two_0, extract_two_1, nilCheck_pointer, cond_true', cond_false', guard_tt, guard_ff, guard_tf, guard_ft, guard_undef, seqQ_normal, seqQ_ret, seqQ_exit, blockQ_ret, blockQ_normal, blockQ_exit, bodyQ_ret, bodyQ_normal, resK_nil, resK_tmp, ite_T, ite_F, upd_at, add_plain, add_zero', Nat.reduceEqDiff, fa8_0, fa8_1, fa8_2, fa8_3, fa14_0, fa14_1, fa19_0, len22, len24, fa26_0, fa26_1, fa26_2, len27, fa33_0, fa33_1, len35, fa77_0, fa77_1, fa88_0, fa88_1, fa88_2, fa88_3, fa88_4, fa88_5, fa114_0, fa114_1, fa114_2, fa124_0, fa124_1, len134, len136, len154, fa156_0, fa156_1, fa156_2, fa156_3, fa156_4, fa156_5, fa156_6, fa184_0, fa184_1, fa200_0, fa200_1, fa200_2, fa200_3, fa215_0, fa215_1, fa215_2, fa215_3, fa215_4, len218, len271, fa274_0, fa274_1, fa274_2, fa303_0, fa303_1, fa303_2, fa303_3, fa314_0, fa314_1, fa314_2, fa314_3, fa314_4, fa314_5, fa314_6, fa314_7, fa314_8, fa314_9, fa314_10]
      refine pick_c H 0 rfl hC (by omega) (by omega) fun w8 x _ _ H => ?_
      simp only [List.set_cons_zero] at H
      rw [bin_quo (by decide)]
      generalize IntKind.i64.wrap _ = tok
      exact hK _ _ ⟨rfl, rfl, rfl, rfl, by rw [← h0]; rfl, tok, rfl, curMore H (by omega)⟩
    · simp only [h0, decide_false, bin_add, bin_sub, bin_mul, bin_eql, bin_neq, bin_lss, bin_leq, bin_gtr, bin_geq, un_not, un_neg, pick_true, pick_false, extract_two_0, extract_two_1, nilCheck_pointer, cond_true', cond_false', guard_tt, guard_ff, guard_tf, guard_ft, guard_undef, seqQ_normal, seqQ_ret, seqQ_exit, blockQ_ret, blockQ_normal, blockQ_exit, bodyQ_ret, bodyQ_normal, resK_nil, resK_tmp, ite_T, ite_F, upd_at, add_plain, add_zero', Nat.reduceEqDiff, fa8_0, fa8_1, fa8_2, fa8_3, fa14_0, fa14_1, fa19_0, len22, len24, fa26_0, fa26_1, fa26_2, len27, fa33_0, fa33_1, len35, fa77_0, fa77_1, fa88_0, fa88_1, fa88_2, fa88_3, fa88_4, fa88_5, fa114_0, fa114_1, fa114_2, fa124_0, fa124_1, len134, len136, len154, fa156_0, fa156_1, fa156_2, fa156_3, fa156_4, fa156_5, fa156_6, fa184_0, fa184_1, fa200_0, fa200_1, fa200_2, fa200_3, fa215_0, fa215_1, fa215_2, fa215_3, fa215_4, len218, len271, fa274_0, fa274_1, fa274_2, fa303_0, fa303_1, fa303_2, fa303_3, fa314_0, fa314_1, fa314_2, fa314_3, fa314_4, fa314_5, fa314_6, fa314_7, fa314_8, fa314_9, fa314_10]
      exact hK _ _ ⟨rfl, rfl, rfl, rfl, rfl, _, rfl, curMore H (by omega)⟩
  clear H
  rintro f w8 ⟨f2, f7, f8, f9, f10, tok, f11, H⟩
  have H := H.drew
  simp only [f2, f7, f8, f9, f10, f11]
  refine ⟨fun w' => Box w' b8 [.int .i64 gm.nons, .int .i64 gm.toks, .slice Y gm.rules.length cy] 26, H.box 4 rfl, ?_⟩
  refine rdi (rdS26 rfl fun w' h => h) ?_
  simp only [bin_add, bin_sub, bin_mul, bin_eql, bin_neq, bin_lss, bin_leq, bin_gtr, bin_geq, un_not, un_neg, pick_true, pick_false, extract_two_0, extract_two_1, nilCheck_pointer, cond_true', cond_false', guard_tt, guard_ff, guard_tf, guard_ft, guard_undef, seqQ_normal, seqQ_ret, seqQ_exit, blockQ_ret, blockQ_normal, blockQ_exit, bodyQ_ret, bodyQ_normal, resK_nil, resK_tmp, ite_T, ite_F, upd_at, add_plain, add_zero', Nat.reduceEqDiff, fa8_0, fa8_1, fa8_2, fa8_3, fa14_0, fa14_1, fa19_0, len22, len24, fa26_0, fa26_1, fa26_2, len27, fa33_0, fa33_1, len35, fa77_0, fa77_1, fa88_0, fa88_1, fa88_2, fa88_3, fa88_4, fa88_5, fa114_0, fa114_1, fa114_2, fa124_0, fa124_1, len134, len136, len154, fa156_0, fa156_1, fa156_2, fa156_3, fa156_4, fa156_5, fa156_6, fa184_0, fa184_1, fa200_0, fa200_1, fa200_2, fa200_3, fa215_0, fa215_1, fa215_2, fa215_3, fa215_4, len218, len271, fa274_0, fa274_1, fa274_2, fa303_0, fa303_1, fa303_2, fa303_3, fa314_0, fa314_1, fa314_2, fa314_3, fa314_4, fa314_5, fa314_6, fa314_7, fa314_8, fa314_9, fa314_10]
  rw [i64_of (by omega) (by omega)]
  refine pick_c H 0 rfl hC (by omega) (by omega) fun w9 pt _ _ H => ?_
  simp only [List.set_cons_zero] at H
  refine ⟨H.box 4 rfl, ?_⟩
  refine storeH H 3 rfl sz26 rfl rfl rfl fun w10 H => ?_
  have H : Apt w w10 [cur b4 (.slice C bs.length cap) (1000 + 2), ows Z d ws, gth ft Y cy gm.rules, bx b1 [.int .i64 gm.nons, .int .i64 gm.toks, .slice Y gm.rules.length cy] 26, bx b8 [.int .i64 gm.nons, .int .i64 gm.toks, .slice Y gm.rules.length cy] 26] := H
  rw [rd_loadVar, ldB_agg agg26 sz26 rfl (H.box 3 rfl)]
  have H := ((H.erase 0).erase 3).erase 2
  simp only [List.eraseIdx_cons_zero, List.eraseIdx_cons_succ] at H
  exact hk w10 gm ft Y cy Z d ws _ _ tok hd H
theorem drawMend_c (hC : Byts w C bs) (hk : ∀ w' gm ft Y cy X cx ws, Drawn 101 gm → Apt w w' [ows X cx ws, gth ft Y cy gm.rules] → k (.tuple #[grv gm Y cy, .slice X (List.length ws) cx]) w') :
    CallK Try.prog 104 [.slice C bs.length cap] k w := by
  refine enter104 ?_
  unfold S104
  have H := Apt.nil w
  refine allocH H inf26 fun b1 w1 H => ?_
  refine drawInLanguage_c (hC.gr H.gr) fun w2 gm ft Y cy X cx ws hd A => ?_
  have H := H.append A
  simp only [bin_add, bin_sub, bin_mul, bin_eql, bin_neq, bin_lss, bin_leq, bin_gtr, bin_geq, un_not, un_neg, pick_true, pick_false, extract_two_0, extract_two_1, nilCheck_pointer, cond_true', cond_false', guard_tt, guard_ff, guard_tf, guard_ft, guard_undef, seqQ_normal, seqQ_ret, seqQ_exit, blockQ_ret, blockQ_normal, blockQ_exit, bodyQ_ret, bodyQ_normal, resK_nil, resK_tmp, ite_T, ite_F, upd_at, add_plain, add_zero', Nat.reduceEqDiff, fa8_0, fa8_1, fa8_2, fa8_3, fa14_0, fa14_1, fa19_0, len22, len24, fa26_0, fa26_1, fa26_2, len27, fa33_0, fa33_1, len35, fa77_0, fa77_1, fa88_0, fa88_1, fa88_2, fa88_3, fa88_4, fa88_5, fa114_0, fa114_1, fa114_2, fa124_0, fa124_1, len134, len136, len154, fa156_0, fa156_1, fa156_2, fa156_3, fa156_4, fa156_5, fa156_6, fa184_0, fa184_1, fa200_0, fa200_1, fa200_2, fa200_3, fa215_0, fa215_1, fa215_2, fa215_3, fa215_4, len218, len271, fa274_0, fa274_1, fa274_2, fa303_0, fa303_1, fa303_2, fa303_3, fa314_0, fa314_1, fa314_2, fa314_3, fa314_4, fa314_5, fa314_6, fa314_7, fa314_8, fa314_9, fa314_10]
  simp only [List.cons_append, List.nil_append] at H
  refine storeH H 0 rfl sz26 rfl rfl rfl fun w3 H => ?_
  simp only [List.cons_append, List.nil_append, List.set_cons_zero, List.set_cons_succ] at H
  rw [rd_loadVar, ldB_agg agg26 sz26 rfl (H.box 0 rfl)]
  have H := H.erase 0
  simp only [List.eraseIdx_cons_zero, List.eraseIdx_cons_succ] at H
  exact hk w3 gm ft Y cy X cx ws hd H
set_option maxHeartbeats 3200000 in
theorem drawNear_c (hC : Byts w C bs) (hk : ∀ w' gm ft Y cy X cx ws most, Drawn 101 gm → Apt w w' [ows X cx ws, gth ft Y cy gm.rules] → k (.tuple #[grv gm Y cy, .slice X (List.length ws) cx, .int .i64 most]) w') :
    CallK Try.prog 101 [.slice C bs.length cap] k w := by
  refine enter101 ?_
  unfold S101
  refine draw0 fun b1 b4 w1 H => ?_
  refine any_c H hC (by omega) fun w2 gm ft Y cy hd H => ?_
  refine allocH H inf26 fun b8 w3 H => ?_
  refine storeH H 3 rfl sz26 rfl rfl rfl fun w4 H => ?_
  simp only [List.cons_append, List.nil_append, List.set_cons_zero, List.set_cons_succ] at H
  have H := H.drew
  refine join_as (fun f w' => f 2 = ptrv b1 ∧ ∃ Z d ws most, f 3 = .slice Z (List.length ws) d ∧ f 4 = .int .i64 most ∧ Apt w w' [ows Z d ws, gth ft Y cy gm.rules, bx b1 [.int .i64 gm.nons, .int .i64 gm.toks, .slice Y gm.rules.length cy] 26]) (fun K hK => ?_) ?_
  · refine ⟨fun w' => Box w' b8 [.int .i64 gm.nons, .int .i64 gm.toks, .slice Y gm.rules.length cy] 26, H.box 3 rfl, ?_⟩
    refine rdi (rdS26 rfl fun w' h => h) (rdi (rdS26 rfl fun w' h => h) ⟨?_, ?_⟩)
    · refine word_c H hC (by omega) (by omega) hd.toks fun w5 Z d ws hl H => ?_
      refine ⟨H.box 4 rfl, ?_⟩
      refine buildH H u27 inf3 (ints [0, 1, 2, 3, 3, 5]) (by decide) (by decide) (by simp [Instr.fill, madeCells, Value.cells, rng6, ints]) rfl fun b9 w6 H => ?_
      simp only [List.cons_append, List.nil_append] at H
      refine ⟨H.box 4 rfl, ?_⟩
      refine among_c (xs := [0, 1, 2, 3, 3, 5]) H 0 rfl hC (by omega) (fun w' H => Apt.ints H 5 (xs := [0, 1, 2, 3, 3, 5]) rfl) rfl (by simp) (by simp) fun w7 j hj H => ?_
      simp only [List.set_cons_zero] at H
      generalize ([0, 1, 2, 3, 3, 5] : List Int).getD j 0 = most
      refine ⟨H.box 4 rfl, ?_⟩
      refine storeH H 3 rfl sz26 rfl rfl rfl fun w8 H => ?_
      simp only [List.cons_append, List.nil_append, List.set_cons_zero, List.set_cons_succ] at H
      refine ⟨H.box 4 rfl, ?_⟩
      have H := ((H.erase 5).erase 4).erase 0
      simp only [List.eraseIdx_cons_zero, List.eraseIdx_cons_succ] at H
      exact hK _ _ ⟨rfl, Z, d, ws, most, rfl, rfl, H⟩
    · refine buildH H u27 inf3 (ints [0, 1, 2, 3, 3, 5]) (by decide) (by decide) (by simp [Instr.fill, madeCells, Value.cells, rng6, ints]) rfl fun b9 w6 H => ?_
      simp only [List.cons_append, List.nil_append] at H
      refine ⟨H.box 3 rfl, ?_⟩
      refine word_c H hC (by omega) (by omega) hd.toks fun w5 Z d ws hl H => ?_
      refine ⟨H.box 4 rfl, ?_⟩
      refine among_c (xs := [0, 1, 2, 3, 3, 5]) H 0 rfl hC (by omega) (fun w' H => Apt.ints H 5 (xs := [0, 1, 2, 3, 3, 5]) rfl) rfl (by simp) (by simp) fun w7 j hj H => ?_
      simp only [List.set_cons_zero] at H
      generalize ([0, 1, 2, 3, 3, 5] : List Int).getD j 0 = most
      refine ⟨H.box 4 rfl, ?_⟩
      refine storeH H 3 rfl sz26 rfl rfl rfl fun w8 H => ?_
      simp only [List.cons_append, List.nil_append, List.set_cons_zero, List.set_cons_succ] at H
      refine ⟨H.box 4 rfl, ?_⟩
      have H := ((H.erase 5).erase 4).erase 0
      simp only [List.eraseIdx_cons_zero, List.eraseIdx_cons_succ] at H
      exact hK _ _ ⟨rfl, Z, d, ws, most, rfl, rfl, H⟩
  clear H
  rintro f w8 ⟨f2, Z, d, ws, most, f3, f4, H⟩
  simp only [f2, f3, f4]
  rw [rd_loadVar, ldB_agg agg26 sz26 rfl (H.box 2 rfl)]
  have H := H.erase 2
  simp only [List.eraseIdx_cons_zero, List.eraseIdx_cons_succ] at H
  exact hk w8 gm ft Y cy Z d ws most hd H
end
end Go.Proofs.Ytegcjkhebecgbaa

/- Plain: one word out of another one by changes, and the edit distance. -/
set_option linter.unusedVariables false
set_option linter.unusedSimpArgs false
set_option maxRecDepth 100000
namespace Go.Sh
open Go
/-- One word out of another one, by changes. -/
inductive Al : List Int → List Int → Nat → Prop
  | nil : Al [] [] 0
  | del {w v : List Int} {n : Nat} {x : Int} : Al w v n → Al (w ++ [x]) v (n + 1)
  | ins {w v : List Int} {n : Nat} {y : Int} : Al w v n → Al w (v ++ [y]) (n + 1)
  | same {w v : List Int} {n : Nat} {x : Int} : Al w v n → Al (w ++ [x]) (v ++ [x]) n
  | sub {w v : List Int} {n : Nat} {x y : Int} : Al w v n → Al (w ++ [x]) (v ++ [y]) (n + 1)
theorem al_append {w v a b : List Int} {n m : Nat} (h : Al w v n) (g : Al a b m) : Al (w ++ a) (v ++ b) (n + m) := by
  induction g with
  | nil => simpa using h
  | del _ ih => rw [← List.append_assoc, ← Nat.add_assoc]; exact .del ih
  | ins _ ih => rw [← List.append_assoc, ← Nat.add_assoc]; exact .ins ih
  | same _ ih => rw [← List.append_assoc, ← List.append_assoc]; exact .same ih
  | sub _ ih => rw [← List.append_assoc, ← List.append_assoc, ← Nat.add_assoc]; exact .sub ih
theorem al_symm {w v : List Int} {n : Nat} (h : Al w v n) : Al v w n := by
  induction h with
  | nil => exact .nil
  | del _ ih => exact .ins ih
  | ins _ ih => exact .del ih
  | same _ ih => exact .same ih
  | sub _ ih => exact .sub ih
theorem al_one {x y : Int} : Al [x] [y] 1 := .sub (w := []) (v := []) .nil
theorem al_del1 {x : Int} : Al [x] [] 1 := .del (w := []) .nil
theorem al_ins1 {y : Int} : Al [] [y] 1 := .ins (v := []) .nil
theorem al_same1 {x : Int} : Al [x] [x] 0 := .same (w := []) (v := []) .nil
theorem al_refl : ∀ w : List Int, Al w w 0
  | [] => .nil
  | x :: w => al_append (w := [x]) (v := [x]) (n := 0) (m := 0) al_same1 (al_refl w)
theorem al_del : ∀ w : List Int, Al w [] w.length
  | [] => .nil
  | x :: w => by
    have := al_append (w := [x]) (v := []) (n := 1) al_del1 (al_del w)
    rw [List.length_cons, Nat.add_comm]
    exact this
theorem al_ins (w : List Int) : Al [] w w.length := al_symm (al_del w)
theorem al_zero {w v : List Int} {n : Nat} (h : Al w v n) : n = 0 → w = v := by
  induction h with
  | nil => exact fun _ => rfl
  | del _ _ => intro h; omega
  | ins _ _ => intro h; omega
  | same _ ih => intro h; rw [ih h]
  | sub _ _ => intro h; omega
theorem al_nil {w v : List Int} {n : Nat} (h : Al w v n) : v = [] → n = w.length := by
  induction h with
  | nil => exact fun _ => rfl
  | del _ ih => intro h; rw [ih h]; simp
  | ins _ _ => intro h; simp at h
  | same _ _ => intro h; simp at h
  | sub _ _ => intro h; simp at h
theorem snoc_inj {a b : List Int} {x y : Int} (h : a ++ [x] = b ++ [y]) : a = b ∧ x = y := by
  have := List.append_inj' h rfl
  exact ⟨this.1, by simpa using this.2⟩
theorem al_split {w v : List Int} {n : Nat} (h : Al w v n) : ∀ v1 v2, v = v1 ++ v2 → ∃ w1 w2 n1 n2, w = w1 ++ w2 ∧ Al w1 v1 n1 ∧ Al w2 v2 n2 ∧ n1 + n2 = n := by
  induction h with
  | nil =>
    intro v1 v2 e
    obtain ⟨rfl, rfl⟩ : v1 = [] ∧ v2 = [] := by simpa using e.symm
    exact ⟨[], [], 0, 0, rfl, .nil, .nil, rfl⟩
  | @del w v n x _ ih =>
    intro v1 v2 e
    obtain ⟨w1, w2, n1, n2, rfl, h1, h2, rfl⟩ := ih v1 v2 e
    exact ⟨w1, w2 ++ [x], n1, n2 + 1, by rw [List.append_assoc], h1, .del h2, by omega⟩
  | @ins w v n y hwv ih =>
    intro v1 v2 e
    rcases List.eq_nil_or_concat v2 with rfl | ⟨v2', y', rfl⟩
    · rw [List.append_nil] at e
      subst e
      exact ⟨w, [], n + 1, 0, by simp, .ins hwv, .nil, rfl⟩
    · rw [List.concat_eq_append, ← List.append_assoc] at e
      obtain ⟨e1, e2⟩ := snoc_inj e
      subst e2
      obtain ⟨w1, w2, n1, n2, rfl, h1, h2, rfl⟩ := ih v1 v2' e1
      exact ⟨w1, w2, n1, n2 + 1, rfl, h1, by rw [List.concat_eq_append]; exact .ins h2, by omega⟩
  | @same w v n x hwv ih =>
    intro v1 v2 e
    rcases List.eq_nil_or_concat v2 with rfl | ⟨v2', y', rfl⟩
    · rw [List.append_nil] at e
      subst e
      exact ⟨w ++ [x], [], n, 0, by simp, .same hwv, .nil, rfl⟩
    · rw [List.concat_eq_append, ← List.append_assoc] at e
      obtain ⟨e1, e2⟩ := snoc_inj e
      subst e2
      obtain ⟨w1, w2, n1, n2, rfl, h1, h2, rfl⟩ := ih v1 v2' e1
      exact ⟨w1, w2 ++ [x], n1, n2, by rw [List.append_assoc], h1, by rw [List.concat_eq_append]; exact .same h2, rfl⟩
  | @sub w v n x y hwv ih =>
    intro v1 v2 e
    rcases List.eq_nil_or_concat v2 with rfl | ⟨v2', y', rfl⟩
    · rw [List.append_nil] at e
      subst e
      exact ⟨w ++ [x], [], n + 1, 0, by simp, .sub hwv, .nil, rfl⟩
    · rw [List.concat_eq_append, ← List.append_assoc] at e
      obtain ⟨e1, e2⟩ := snoc_inj e
      subst e2
      obtain ⟨w1, w2, n1, n2, rfl, h1, h2, rfl⟩ := ih v1 v2' e1
      exact ⟨w1, w2 ++ [x], n1, n2 + 1, by rw [List.append_assoc], h1, by rw [List.concat_eq_append]; exact .sub h2, by omega⟩
theorem al_trans {u w : List Int} {n : Nat} (h : Al u w n) : ∀ {v : List Int} {m : Nat}, Al w v m → ∃ k, k ≤ n + m ∧ Al u v k := by
  induction h with
  | nil =>
    intro v m g
    exact ⟨m, by omega, g⟩
  | @del u w n x _ ih =>
    intro v m g
    obtain ⟨k, hk, h⟩ := ih g
    exact ⟨k + 1, by omega, .del h⟩
  | @ins u w n y _ ih =>
    intro v m g
    obtain ⟨v1, v2, m1, m2, rfl, g1, g2, rfl⟩ := al_split (al_symm g) w [y] rfl
    obtain ⟨k, hk, h⟩ := ih (al_symm g1)
    have h2 : v2.length ≤ m2 + 1 := by
      have key : ∀ {a b : List Int} {n : Nat}, Al a b n → a.length ≤ b.length + n := by
        intro a b n h
        induction h with
        | nil => simp
        | del _ ih => simp; omega
        | ins _ ih => simp; omega
        | same _ ih => simp; omega
        | sub _ ih => simp; omega
      have := key g2
      simp at this
      omega
    refine ⟨k + v2.length, by omega, ?_⟩
    have := al_append h (al_ins v2)
    rwa [List.append_nil] at this
  | @same u w n x _ ih =>
    intro v m g
    obtain ⟨v1, v2, m1, m2, rfl, g1, g2, rfl⟩ := al_split (al_symm g) w [x] rfl
    obtain ⟨k, hk, h⟩ := ih (al_symm g1)
    exact ⟨k + m2, by omega, al_append h (al_symm g2)⟩
  | @sub u w n x y _ ih =>
    intro v m g
    obtain ⟨v1, v2, m1, m2, rfl, g1, g2, rfl⟩ := al_split (al_symm g) w [y] rfl
    obtain ⟨k, hk, h⟩ := ih (al_symm g1)
    -- the last symbol: y comes to be x, or goes
    have last : ∃ j, j ≤ m2 + 1 ∧ Al [x] v2 j := by
      have key : ∀ {a b : List Int} {n : Nat}, Al a b n → b = [y] → ∃ j, j ≤ n + 1 ∧ Al [x] a j := by
        intro a b n h
        induction h with
        | nil => intro e; simp at e
        | @del a b n z _ ih =>
          intro e
          obtain ⟨j, hj, h⟩ := ih e
          exact ⟨j + 1, by omega, .ins h⟩
        | @ins a b n z h0 ih =>
          intro e
          have e1 : b = [] := by
            cases b with
            | nil => rfl
            | cons c b => simp at e
          have := al_nil h0 e1
          subst this
          exact ⟨a.length + 1, by omega, by have := al_append (w := []) (n := a.length) (a := [x]) (b := []) (m := 1) (al_ins a) al_del1; simpa using this⟩
        | @same a b n z h0 ih =>
          intro e
          have e1 : b = [] := by
            cases b with
            | nil => rfl
            | cons c b => simp at e
          have := al_nil h0 e1
          subst this
          refine ⟨a.length + 1, by omega, ?_⟩
          have := al_append (w := []) (n := a.length) (a := [x]) (b := [z]) (m := 1) (al_ins a) al_one
          simpa using this
        | @sub a b n z y' h0 ih =>
          intro e
          have e1 : b = [] := by
            cases b with
            | nil => rfl
            | cons c b => simp at e
          have := al_nil h0 e1
          subst this
          refine ⟨a.length + 1, by omega, ?_⟩
          have := al_append (w := []) (n := a.length) (a := [x]) (b := [z]) (m := 1) (al_ins a) al_one
          simpa using this
      exact key g2 rfl
    obtain ⟨j, hj, hl⟩ := last
    exact ⟨k + j, by omega, al_append h hl⟩
/-- A single symbol out of a word. -/
def tokCost (w : List Int) (t : Int) : Nat := if w.contains t then w.length - 1 else max 1 w.length
theorem al_tok (w : List Int) (t : Int) : Al w [t] (tokCost w t) := by
  unfold tokCost
  split
  · rename_i h
    have h : t ∈ w := by simpa using h
    obtain ⟨a, b, rfl⟩ := List.append_of_mem h
    have := al_append (al_append (al_del a) (al_same1 (x := t))) (al_del b)
    simp at this ⊢
    exact this
  · cases w with
    | nil => exact al_ins1
    | cons x w =>
      have := al_append (al_one (x := x) (y := t)) (al_del w)
      have e : max 1 (x :: w).length = 1 + w.length := by simp; omega
      rw [e]
      simpa using this
theorem al_tok_le {w v : List Int} {n : Nat} (h : Al w v n) : ∀ t, v = [t] → tokCost w t ≤ n := by
  induction h with
  | nil => intro t e; simp at e
  | @del w v n x _ ih =>
    intro t e
    have := ih t e
    unfold tokCost at this ⊢
    by_cases h1 : w.contains t
    · rw [if_pos h1] at this
      have : (w ++ [x]).contains t = true := by simp at h1 ⊢; exact .inl h1
      rw [if_pos this]
      simp
      omega
    · rw [if_neg h1] at this
      split <;> simp <;> omega
  | @ins w v n y h0 ih =>
    intro t e
    have e1 : v = [] := by
      cases v with
      | nil => rfl
      | cons c v => simp at e
    have := al_nil h0 e1
    subst this
    unfold tokCost
    split <;> omega
  | @same w v n x h0 ih =>
    intro t e
    have e1 : v = [] := by
      cases v with
      | nil => rfl
      | cons c v => simp at e
    have := al_nil h0 e1
    subst this
    subst e1
    simp at e
    subst e
    unfold tokCost
    rw [if_pos (by simp)]
    simp
  | @sub w v n x y h0 ih =>
    intro t e
    have e1 : v = [] := by
      cases v with
      | nil => rfl
      | cons c v => simp at e
    have := al_nil h0 e1
    subst this
    unfold tokCost
    split <;> simp <;> omega
theorem leastI_min (x y : Int) : leastI x y ≤ x ∧ leastI x y ≤ y ∧ (leastI x y = x ∨ leastI x y = y) := by
  unfold leastI
  split <;> omega
theorem edNext_at {x : Int} {b row : List Int} {h : Int} : ∀ {m j : Nat}, j ≤ m → (edNext x b row h m).getD j 0 = (edNext x b row h j).getD j 0 := by
  intro m
  induction m with
  | zero =>
    intro j hj
    have e : j = 0 := Nat.le_zero.1 hj
    rw [e]
  | succ m ih =>
    intro j hj
    by_cases e : j = m + 1
    · subst e; rfl
    · rw [edNext, getD_snoc_lt (by rw [edNext_len]; omega)]
      exact ih (by omega)
theorem edRows_zero {a b : List Int} {j : Nat} (hj : j ≤ b.length) : (edRows a b 0).getD j 0 = (j : Int) := ri_get (by omega)
theorem edRows_col {a b : List Int} {i : Nat} : (edRows a b (i + 1)).getD 0 0 = (i : Int) + 1 := by
  rw [edRows, edNext_at (Nat.zero_le _)]
  rfl
theorem edRows_cell {a b : List Int} {i j : Nat} (hj : j < b.length) : (edRows a b (i + 1)).getD (j + 1) 0 = edCell (a.getD i 0) (b.getD j 0) ((edRows a b i).getD j 0) ((edRows a b i).getD (j + 1) 0) ((edRows a b (i + 1)).getD j 0) := by
  rw [edRows, edNext_at (show j + 1 ≤ b.length by omega), edNext_at (show j ≤ b.length by omega), edNext, getD_snoc_eq (by rw [edNext_len])]
theorem al_len0 {w v : List Int} {n : Nat} (h : Al w v n) : w = [] → n = v.length := fun e => al_nil (al_symm h) e
theorem ed_spec (a b : List Int) : ∀ i, i ≤ a.length → ∀ j, j ≤ b.length → (∃ k : Nat, Al (a.take i) (b.take j) k ∧ (edRows a b i).getD j 0 = k) ∧ ∀ k : Nat, Al (a.take i) (b.take j) k → (edRows a b i).getD j 0 ≤ k := by
  intro i
  induction i with
  | zero =>
    intro _ j hj
    rw [edRows_zero hj]
    refine ⟨⟨j, ?_, rfl⟩, fun k hk => ?_⟩
    · have := al_ins (b.take j)
      rw [List.length_take, Nat.min_eq_left hj] at this
      simpa using this
    · have := al_len0 hk rfl
      rw [List.length_take, Nat.min_eq_left hj] at this
      omega
  | succ i ih =>
    intro hi j
    induction j with
    | zero =>
      intro _
      rw [edRows_col]
      refine ⟨⟨i + 1, ?_, by omega⟩, fun k hk => ?_⟩
      · have := al_del (a.take (i + 1))
        rw [List.length_take, Nat.min_eq_left hi] at this
        simpa using this
      · have := al_nil hk rfl
        rw [List.length_take, Nat.min_eq_left hi] at this
        omega
    | succ j ihj =>
      intro hj
      rw [edRows_cell (by omega)]
      obtain ⟨⟨k1, p1, e1⟩, l1⟩ := ih (by omega) j (by omega)
      obtain ⟨⟨k2, p2, e2⟩, l2⟩ := ih (by omega) (j + 1) hj
      obtain ⟨⟨k3, p3, e3⟩, l3⟩ := ihj (by omega)
      have ta := take_snoc (xs := a) (i := i) (by omega)
      have tb := take_snoc (xs := b) (i := j) (by omega)
      generalize (edRows a b i).getD j 0 = d at *
      generalize (edRows a b i).getD (j + 1) 0 = u at *
      generalize (edRows a b (i + 1)).getD j 0 = l at *
      generalize a.getD i 0 = x at *
      generalize b.getD j 0 = y at *
      unfold edCell
      have m1 := leastI_min u l
      have m2 := leastI_min (if x = y then d else d + 1) (leastI u l + 1)
      refine ⟨?_, fun k hk => ?_⟩
      · rcases m2.2.2 with h | h
        · rw [h]
          by_cases hxy : x = y
          · rw [if_pos hxy]
            exact ⟨k1, by rw [ta, tb, hxy]; exact .same p1, e1⟩
          · rw [if_neg hxy]
            exact ⟨k1 + 1, by rw [ta, tb]; exact .sub p1, by omega⟩
        · rw [h]
          rcases m1.2.2 with h' | h'
          · rw [h']
            exact ⟨k2 + 1, by rw [ta]; exact .del p2, by omega⟩
          · rw [h']
            exact ⟨k3 + 1, by rw [tb]; exact .ins p3, by omega⟩
      · rw [ta, tb] at hk
        have inv : ∀ {w v : List Int} {n : Nat}, Al w v n → w = a.take i ++ [x] → v = b.take j ++ [y] → (∃ m, n = m + 1 ∧ Al (a.take i) v m) ∨ (∃ m, n = m + 1 ∧ Al w (b.take j) m) ∨ (x = y ∧ Al (a.take i) (b.take j) n) ∨ (∃ m, n = m + 1 ∧ Al (a.take i) (b.take j) m) := by
          intro w v n h
          cases h with
          | nil => intro e; simp at e
          | del h =>
            intro e _
            obtain ⟨rfl, rfl⟩ := snoc_inj e
            exact .inl ⟨_, rfl, h⟩
          | ins h =>
            intro _ e
            obtain ⟨rfl, rfl⟩ := snoc_inj e
            exact .inr (.inl ⟨_, rfl, h⟩)
          | same h =>
            intro e e'
            obtain ⟨rfl, rfl⟩ := snoc_inj e
            obtain ⟨rfl, rfl⟩ := snoc_inj e'
            exact .inr (.inr (.inl ⟨rfl, h⟩))
          | sub h =>
            intro e e'
            obtain ⟨rfl, rfl⟩ := snoc_inj e
            obtain ⟨rfl, rfl⟩ := snoc_inj e'
            exact .inr (.inr (.inr ⟨_, rfl, h⟩))
        rcases inv hk rfl rfl with ⟨m, rfl, h⟩ | ⟨m, rfl, h⟩ | ⟨hxy, h⟩ | ⟨m, rfl, h⟩
        · rw [← tb] at h
          have := l2 m h
          omega
        · rw [← ta] at h
          have := l3 m h
          omega
        · have := l1 k h
          rw [if_pos hxy] at m2 ⊢
          omega
        · have := l1 m h
          split at m2 <;> split <;> omega
theorem edist_al (a b : List Int) : ∃ k : Nat, Al a b k ∧ edist a b = k := by
  obtain ⟨⟨k, h, e⟩, _⟩ := ed_spec a b a.length (Nat.le_refl _) b.length (Nat.le_refl _)
  rw [List.take_length, List.take_length] at h
  exact ⟨k, h, e⟩
theorem edist_le {a b : List Int} {k : Nat} (h : Al a b k) : edist a b ≤ k := by
  have := (ed_spec a b a.length (Nat.le_refl _) b.length (Nat.le_refl _)).2 k (by rw [List.take_length, List.take_length]; exact h)
  exact this
end Go.Sh

/- Contracts: equal lists (the program's library), SameUpTo of the reference and of the program. -/
set_option linter.unusedVariables false
set_option linter.unusedSimpArgs false
set_option maxRecDepth 100000
namespace Go.Sh
open Go
theorem shortV_mem {gm : Gram} {most : Int} {x : List Int} (h : x ∈ (shortV gm most).1) : x.length ≤ 1000 := by
  unfold shortV at h
  by_cases hh : (goodG gm && inB most 0 4) = true
  · rw [if_pos hh] at h
    have := (shortW_mem h).1
    simp only [inB, Bool.and_eq_true, decide_eq_true_eq] at hh
    omega
  · rw [if_neg hh] at h
    simp at h
theorem shortV_good {gm : Gram} {most : Int} (h : (shortV gm most).2 = true) : goodG gm = true := by
  unfold shortV at h
  by_cases hh : (goodG gm && inB most 0 4) = true
  · simp only [Bool.and_eq_true] at hh
    exact hh.1
  · rw [if_neg hh] at h
    cases h
end Go.Sh
namespace Go.Proofs.Ytegcjkhebecgbaa
open Go Go.Sh Go.RowKit
end Go.Proofs.Ytegcjkhebecgbaa

/- Contracts: words compared (the program's library), FirstUnlike of the reference and of the program. -/
set_option linter.unusedVariables false
set_option linter.unusedSimpArgs false
set_option maxRecDepth 100000
namespace Go.Sh
open Go
def cmpI (x y : Int) : Int := if x < y then -1 else if y < x then 1 else 0
def cmpL : List Int → List Int → Int
  | x :: xs, y :: ys => if cmpI x y ≠ 0 then cmpI x y else cmpL xs ys
  | [], [] => 0
  | [], _ :: _ => -1
  | _ :: _, [] => 1
theorem cmpI_lt {x y : Int} : cmpI x y < 0 ↔ x < y := by
  unfold cmpI
  split
  · omega
  · split <;> omega
theorem cmpI_eq {x y : Int} : cmpI x y = 0 ↔ x = y := by
  unfold cmpI
  split
  · omega
  · split <;> omega
/-- The rest of a list of slices, from place i on. -/
structure AtS (w : World) (X : Option Addr) (n c : Nat) (ls : List (List Int)) (ps : Nat → Option Addr × Nat) (i : Nat) : Prop where
  len : n = ls.length - i
  le : n ≤ c
  ptr : 0 < n → X = some (ad X)
  cell : ∀ j, j < n → w.cell? ((ad X).add j) = some (.slice (ps (i + j)).1 (rgt ls (i + j)).length (ps (i + j)).2)
theorem AtS.gr {w w' : World} {X : Option Addr} {n c i : Nat} {ls : List (List Int)} {ps : Nat → Option Addr × Nat} (h : AtS w X n c ls ps i) (g : Gr w w') : AtS w' X n c ls ps i := ⟨h.len, h.le, h.ptr, fun j hj => g.cell (h.cell j hj)⟩
theorem AtS.first {w : World} {X : Option Addr} {n c i : Nat} {ls : List (List Int)} {ps : Nat → Option Addr × Nat} (h : AtS w X n c ls ps i) (h0 : 0 < n) : w.cell? ((ad X).add 0) = some (.slice (ps i).1 (rgt ls i).length (ps i).2) := h.cell 0 h0
theorem AtS.next {w : World} {X : Option Addr} {n c i : Nat} {ls : List (List Int)} {ps : Nat → Option Addr × Nat} (h : AtS w X n c ls ps i) (h0 : 0 < n) : AtS w (sub X 1 c 1) (n - 1) (c - 1) ls ps (i + 1) := by
  have hl := h.len
  have hle := h.le
  have hX := h.ptr h0
  refine ⟨by omega, by omega, fun h1 => ?_, fun j hj => ?_⟩
  · unfold Sh.sub
    rw [if_neg (by omega), hX]
    rfl
  · have := h.cell (j + 1) (by omega)
    unfold Sh.sub
    rw [if_neg (by omega), hX]
    show w.cell? (((ad X).add (1 * 1)).add j) = _
    rw [add_add, show 1 * 1 + j = j + 1 from by omega, this, show i + (j + 1) = i + 1 + j from by omega]
theorem AtS.of {w : World} {e1 e2 B c : Nat} {X : Option Addr} {ls : List (List Int)} {ps : Nat → Option Addr × Nat} (o : OwnSS e1 e2 w B X c ls ps) : AtS w X ls.length c ls ps 0 := by
  refine ⟨by omega, ?_, fun h => o.ptr h, fun j hj => ?_⟩
  · obtain ⟨⟨cells, hr, hc⟩, _⟩ := o
    exact hr.cap.1
  · rw [Nat.zero_add]
    exact o.cell hj
end Go.Sh
namespace Go.Proofs.Ytegcjkhebecgbaa
open Go Go.Sh Go.RowKit
end Go.Proofs.Ytegcjkhebecgbaa

/- The first of rising lists: the plain law. -/
set_option linter.unusedVariables false
set_option linter.unusedSimpArgs false
set_option maxRecDepth 100000
namespace Go.Sh
open Go
def ltL (a b : List Int) : Prop := cmpL a b < 0
theorem cmpI_anti (x y : Int) : cmpI y x = - cmpI x y := by
  unfold cmpI
  by_cases h1 : x < y
  · rw [if_pos h1, if_neg (by omega), if_pos h1]
    rfl
  · by_cases h2 : y < x
    · rw [if_pos h2, if_neg h1, if_pos h2]
    · rw [if_neg h2, if_neg h1, if_neg h1, if_neg h2]
      rfl
theorem cmpL_anti : ∀ a b : List Int, cmpL b a = - cmpL a b := by
  intro a
  induction a with
  | nil => intro b; cases b <;> rfl
  | cons x a ih =>
    intro b
    cases b with
    | nil => rfl
    | cons y b =>
      rw [cmpL, cmpL, cmpI_anti x y]
      by_cases h : cmpI x y = 0
      · rw [if_neg (fun e => e (by omega)), if_neg (fun e => e h)]
        exact ih b
      · rw [if_pos h, if_pos (by omega)]
theorem cmpL_zero : ∀ {a b : List Int}, cmpL a b = 0 → a = b := by
  intro a
  induction a with
  | nil => intro b h; cases b with
    | nil => rfl
    | cons y b => cases h
  | cons x a ih =>
    intro b h
    cases b with
    | nil => cases h
    | cons y b =>
      rw [cmpL] at h
      by_cases e : cmpI x y = 0
      · rw [if_neg (fun h => h e)] at h
        rw [cmpI_eq.1 e, ih h]
      · rw [if_pos e] at h
        exact absurd h e
theorem ltL_irrefl (a : List Int) : ¬ ltL a a := by
  intro h
  have := cmpL_anti a a
  unfold ltL at h
  omega
theorem ltL_tri (a b : List Int) : ltL a b ∨ a = b ∨ ltL b a := by
  unfold ltL
  have := cmpL_anti a b
  by_cases h : cmpL a b = 0
  · exact .inr (.inl (cmpL_zero h))
  · omega
theorem ltL_cons {x y : Int} {a b : List Int} : ltL (x :: a) (y :: b) ↔ x < y ∨ (x = y ∧ ltL a b) := by
  unfold ltL
  rw [cmpL]
  by_cases e : cmpI x y = 0
  · rw [if_neg (fun h => h e)]
    have := cmpI_eq.1 e
    omega
  · rw [if_pos e, cmpI_lt]
    have : ¬ x = y := fun h => e (cmpI_eq.2 h)
    omega
theorem ltL_trans : ∀ {a b c : List Int}, ltL a b → ltL b c → ltL a c := by
  intro a
  induction a with
  | nil =>
    intro b c h1 h2
    cases c with
    | nil =>
      cases b with
      | nil => exact h2
      | cons y b => exact absurd h2 (by unfold ltL; show ¬ ((1 : Int) < 0); omega)
    | cons z c => show (-1 : Int) < 0; omega
  | cons x a ih =>
    intro b c h1 h2
    cases b with
    | nil => exact absurd h1 (by unfold ltL; show ¬ ((1 : Int) < 0); omega)
    | cons y b =>
      cases c with
      | nil => exact absurd h2 (by unfold ltL; show ¬ ((1 : Int) < 0); omega)
      | cons z c =>
        rw [ltL_cons] at h1 h2 ⊢
        rcases h1 with h1 | ⟨h1, h1'⟩
        · rcases h2 with h2 | ⟨h2, h2'⟩
          · exact .inl (by omega)
          · exact .inl (by omega)
        · rcases h2 with h2 | ⟨h2, h2'⟩
          · exact .inl (by omega)
          · exact .inr ⟨by omega, ih h1' h2'⟩
/-- Rising. -/
abbrev Rise (l : List (List Int)) : Prop := l.Pairwise ltL
theorem rise_sub : ∀ {l' l : List (List Int)}, Rise l → Rise l' → (∀ x ∈ l, x ∈ l') → l.Sublist l' := by
  intro l'
  induction l' with
  | nil =>
    intro l _ _ h
    cases l with
    | nil => exact List.Sublist.slnil
    | cons a l => exact absurd (h a (List.mem_cons_self ..)) (by simp)
  | cons b s ih =>
    intro l hl hl' h
    cases l with
    | nil => exact List.nil_sublist _
    | cons a t =>
      have hl1 := List.pairwise_cons.1 hl
      have hl2 := List.pairwise_cons.1 hl'
      rcases List.mem_cons.1 (h a (List.mem_cons_self ..)) with e | e
      · subst e
        refine List.Sublist.cons_cons _ (ih hl1.2 hl2.2 fun x hx => ?_)
        rcases List.mem_cons.1 (h x (List.mem_cons_of_mem _ hx)) with e | e
        · subst e
          exact absurd (hl1.1 _ hx) (ltL_irrefl _)
        · exact e
      · refine List.Sublist.cons _ (ih hl hl2.2 fun x hx => ?_)
        rcases List.mem_cons.1 (h x hx) with e' | e'
        · subst e'
          rcases List.mem_cons.1 hx with e2 | e2
          · subst e2
            exact e
          · exact absurd (ltL_trans (hl1.1 _ e2) (hl2.1 _ e)) (ltL_irrefl _)
        · exact e'
/-- The first M lists of a set, rising. -/
structure Firsts (M : Nat) (S : List Int → Prop) (l : List (List Int)) : Prop where
  rise : Rise l
  mem : ∀ x ∈ l, S x
  len : l.length ≤ M
  all : ∀ x, S x → x ∈ l ∨ (l.length = M ∧ ∀ y ∈ l, ltL y x)
theorem Firsts.sub {M : Nat} {S : List Int → Prop} {l l' : List (List Int)} (h : Firsts M S l) (h' : Firsts M S l') : ∀ x ∈ l, x ∈ l' := by
  intro x hx
  rcases h'.all x (h.mem x hx) with e | ⟨e1, e2⟩
  · exact e
  · exfalso
    have hs : l'.Sublist l := rise_sub h'.rise h.rise fun y hy => by
      rcases h.all y (h'.mem y hy) with e | ⟨_, e3⟩
      · exact e
      · exact absurd (ltL_trans (e2 y hy) (e3 x hx)) (ltL_irrefl _)
    have := hs.eq_of_length_le (by rw [e1]; exact h.len)
    subst this
    exact ltL_irrefl _ (e2 x hx)
theorem Firsts.nil (M : Nat) {S : List Int → Prop} (h : ∀ x, ¬ S x) : Firsts M S [] := ⟨List.Pairwise.nil, fun x hx => by simp at hx, Nat.zero_le _, fun x hx => absurd hx (h x)⟩
theorem Firsts.zero (S : List Int → Prop) : Firsts 0 S [] := ⟨List.Pairwise.nil, fun x hx => by simp at hx, Nat.zero_le _, fun x hx => .inr ⟨rfl, fun y hy => by simp at hy⟩⟩
theorem Firsts.congr {M : Nat} {S S' : List Int → Prop} {l : List (List Int)} (h : Firsts M S l) (e : ∀ x, S' x ↔ S x) : Firsts M S' l := ⟨h.rise, fun x hx => (e x).2 (h.mem x hx), h.len, fun x hx => h.all x ((e x).1 hx)⟩
/-- M of S that are less than x. -/
def Under (M : Nat) (S : List Int → Prop) (x : List Int) : Prop := ∃ ys, Rise ys ∧ ys.length = M ∧ ∀ y ∈ ys, S y ∧ ltL y x
theorem Firsts.more {M : Nat} {S S' : List Int → Prop} {l : List (List Int)} (h : Firsts M S l) (h1 : ∀ x, S x → S' x) (h2 : ∀ x, S' x → S x ∨ Under M S x) : Firsts M S' l := by
  refine ⟨h.rise, fun x hx => h1 x (h.mem x hx), h.len, fun x hx => ?_⟩
  rcases h2 x hx with e | ⟨ys, hy1, hy2, hy3⟩
  · exact h.all x e
  by_cases hxl : x ∈ l
  · exact .inl hxl
  have key : ∀ z ∈ l, ltL z x := fun z hz => by
    rcases ltL_tri z x with e | e | e
    · exact e
    · subst e
      exact absurd hz hxl
    · exfalso
      have hs : ys.Sublist l := rise_sub hy1 h.rise fun y hy => by
        rcases h.all y (hy3 y hy).1 with e1 | ⟨_, e1⟩
        · exact e1
        · exact absurd (ltL_trans (e1 z hz) (ltL_trans (hy3 y hy).2 e)) (ltL_irrefl _)
      have := hs.eq_of_length_le (by rw [hy2]; exact h.len)
      subst this
      exact absurd (ltL_trans (hy3 z hz).2 e) (ltL_irrefl _)
  refine .inr ⟨?_, key⟩
  by_cases hlt : l.length = M
  · exact hlt
  · exfalso
    have hs : ys.Sublist l := rise_sub hy1 h.rise fun y hy => by
      rcases h.all y (hy3 y hy).1 with e1 | ⟨e1, _⟩
      · exact e1
      · exact absurd e1 hlt
    have := hs.length_le
    have := h.len
    omega
theorem Firsts.of_rise (M : Nat) {l : List (List Int)} (h : Rise l) : Firsts M (fun x => x ∈ l) (l.take M) := by
  refine ⟨h.sublist (List.take_sublist _ _), fun x hx => (List.take_sublist _ _).subset hx, by rw [List.length_take]; omega, fun x hx => ?_⟩
  rw [← List.take_append_drop M l] at hx
  rcases List.mem_append.1 hx with e | e
  · exact .inl e
  · refine .inr ⟨?_, fun y hy => ?_⟩
    · rw [List.length_take]
      have : 0 < (l.drop M).length := List.length_pos_of_mem e
      rw [List.length_drop] at this
      omega
    · have h' := h
      rw [← List.take_append_drop M l] at h'
      exact (List.pairwise_append.1 h').2.2 y hy x e
theorem Firsts.take {M m : Nat} {S : List Int → Prop} {l : List (List Int)} (h : Firsts M S l) (hm : m ≤ M) : Firsts m S (l.take m) := by
  refine (Firsts.of_rise m h.rise).more h.mem fun x hx => ?_
  rcases h.all x hx with e | ⟨e1, e2⟩
  · exact .inl e
  · refine .inr ⟨l.take m, h.rise.sublist (List.take_sublist _ _), by rw [List.length_take]; omega, fun y hy => ?_⟩
    have := (List.take_sublist _ _).subset hy
    exact ⟨this, e2 y this⟩
/-- One more comes. -/
theorem Firsts.add {M : Nat} {S : List Int → Prop} {pre post : List (List Int)} {x : List Int} (h : Firsts M S (pre ++ post)) (h1 : ∀ y ∈ pre, ltL y x) (h2 : ∀ y ∈ post, ltL x y) : Firsts M (fun z => S z ∨ z = x) (if M ≤ pre.length then pre ++ post else (pre ++ x :: post).take M) := by
  have hr : Rise (pre ++ x :: post) := by
    have := List.pairwise_append.1 h.rise
    refine List.pairwise_append.2 ⟨this.1, List.pairwise_cons.2 ⟨h2, this.2.1⟩, fun a ha b hb => ?_⟩
    rcases List.mem_cons.1 hb with e | e
    · subst e
      exact h1 a ha
    · exact this.2.2 a ha b e
  have hlen := h.len
  rw [List.length_append] at hlen
  have hf := Firsts.of_rise M hr
  have he : (pre ++ x :: post).take M = if M ≤ pre.length then pre ++ post else (pre ++ x :: post).take M := by
    split
    · rw [List.take_append_of_le_length (by omega), List.take_of_length_le (by omega)]
      have : post = [] := List.eq_nil_of_length_eq_zero (by omega)
      rw [this, List.append_nil]
    · rfl
  rw [← he]
  refine hf.more (fun z hz => ?_) fun z hz => ?_
  · rcases List.mem_append.1 hz with e | e
    · exact .inl (h.mem z (List.mem_append_left _ e))
    · rcases List.mem_cons.1 e with e | e
      · exact .inr e
      · exact .inl (h.mem z (List.mem_append_right _ e))
  · have hsub : ∀ y ∈ pre ++ post, y ∈ pre ++ x :: post := fun y hy => by
      rcases List.mem_append.1 hy with e | e
      · exact List.mem_append_left _ e
      · exact List.mem_append_right _ (List.mem_cons_of_mem _ e)
    rcases hz with hz | hz
    · rcases h.all z hz with e | ⟨e1, e2⟩
      · exact .inl (hsub z e)
      · exact .inr ⟨pre ++ post, h.rise, e1, fun y hy => ⟨hsub y hy, e2 y hy⟩⟩
    · subst hz
      exact .inl (List.mem_append_right _ (List.mem_cons_self ..))
/-- Others come behind. -/
theorem Firsts.append {M : Nat} {S S' : List Int → Prop} {l l' : List (List Int)} (h : Firsts M S l) (h' : Firsts (M - l.length) S' l') (hl : ∀ x y, S x → S' y → ltL x y) : Firsts M (fun z => S z ∨ S' z) (l ++ l') := by
  have h1 := h.len
  have h2 := h'.len
  refine ⟨List.pairwise_append.2 ⟨h.rise, h'.rise, fun a ha b hb => hl a b (h.mem a ha) (h'.mem b hb)⟩, fun x hx => ?_, by rw [List.length_append]; omega, fun x hx => ?_⟩
  · rcases List.mem_append.1 hx with e | e
    · exact .inl (h.mem x e)
    · exact .inr (h'.mem x e)
  · rcases hx with hx | hx
    · rcases h.all x hx with e | ⟨e1, e2⟩
      · exact .inl (List.mem_append_left _ e)
      · have : l' = [] := List.eq_nil_of_length_eq_zero (by omega)
        subst this
        rw [List.append_nil]
        exact .inr ⟨e1, e2⟩
    · rcases h'.all x hx with e | ⟨e1, e2⟩
      · exact .inl (List.mem_append_right _ e)
      · refine .inr ⟨by rw [List.length_append]; omega, fun y hy => ?_⟩
        rcases List.mem_append.1 hy with e | e
        · exact hl y x (h.mem y e) hx
        · exact e2 y e
theorem Firsts.map {M : Nat} {S : List Int → Prop} {l : List (List Int)} (h : Firsts M S l) (q : Int) : Firsts M (fun t => ∃ r, S r ∧ t = q :: r) (l.map (q :: ·)) := by
  refine ⟨List.pairwise_map.2 (h.rise.imp fun e => ltL_cons.2 (.inr ⟨rfl, e⟩)), fun x hx => ?_, by rw [List.length_map]; exact h.len, fun x hx => ?_⟩
  · obtain ⟨r, hr, rfl⟩ := List.mem_map.1 hx
    exact ⟨r, h.mem r hr, rfl⟩
  · obtain ⟨r, hr, rfl⟩ := hx
    rcases h.all r hr with e | ⟨e1, e2⟩
    · exact .inl (List.mem_map.2 ⟨r, e, rfl⟩)
    · refine .inr ⟨by rw [List.length_map]; exact e1, fun y hy => ?_⟩
      obtain ⟨y', hy', rfl⟩ := List.mem_map.1 hy
      exact ltL_cons.2 (.inr ⟨rfl, e2 y' hy'⟩)
/-! What two sets have together. -/
end Go.Sh

/- Numbers of trees by size: the plain law. -/
set_option linter.unusedVariables false
set_option linter.unusedSimpArgs false
set_option maxRecDepth 100000
namespace Go.Sh
open Go
def sumN (f : Nat → Nat) : Nat → Nat
  | 0 => 0
  | n + 1 => sumN f n + f n
/-- In how many ways symbols have trees of size s in all between i and j; c tells the nonterminals' numbers. -/
def cntR (c : Nat → Nat → Nat → Nat → Nat) (ws : List Int) : List Int → Nat → Nat → Nat → Nat
  | [], i, j, s => if i = j ∧ s = 0 then 1 else 0
  | x :: xs, i, j, s => if x < 0 then (if i < j ∧ ws.getD i 0 = -1 - x then cntR c ws xs (i + 1) j s else 0)
      else sumN (fun m => sumN (fun k => c x.toNat i (i + m) (k + 1) * cntR c ws xs (i + m) j (s - (k + 1))) s) (j + 1 - i)
def sumR (rs : List RuleL) (p : RuleL → Nat) : Nat := rs.foldl (fun a r => a + p r) 0
def cntT (rs : List RuleL) (ws : List Int) : Nat → Nat → Nat → Nat → Nat → Nat
  | 0, _, _, _, _ => 0
  | f + 1, A, i, j, s => if s = 0 then 0 else sumR rs fun r => if r.1 = (A : Int) then cntR (cntT rs ws f) ws r.2 i j (s - 1) else 0
/-- How many trees of size s. -/
def cntC (rs : List RuleL) (ws : List Int) (A i j s : Nat) : Nat := cntT rs ws s A i j s
theorem sumN_congr {f g : Nat → Nat} : ∀ {n : Nat}, (∀ k, k < n → f k = g k) → sumN f n = sumN g n := by
  intro n
  induction n with
  | zero => intro _; rfl
  | succ n ih =>
    intro h
    rw [sumN, sumN, ih fun k hk => h k (by omega), h n (by omega)]
theorem cntR_congr {c c' : Nat → Nat → Nat → Nat → Nat} {ws : List Int} : ∀ {xs : List Int} {i j s : Nat}, (∀ A i j k, k ≤ s → c A i j k = c' A i j k) → cntR c ws xs i j s = cntR c' ws xs i j s := by
  intro xs
  induction xs with
  | nil => intro i j s _; rfl
  | cons x xs ih =>
    intro i j s h
    rw [cntR, cntR]
    split
    · split
      · exact ih h
      · rfl
    · refine sumN_congr fun m _ => sumN_congr fun k hk => ?_
      rw [h _ _ _ _ (by omega), ih fun A i j k' hk' => h A i j k' (by omega)]
theorem sumR_congr {rs : List RuleL} {p q : RuleL → Nat} (h : ∀ r, p r = q r) : sumR rs p = sumR rs q := by
  rw [show p = q from funext h]
theorem cntT_more {rs : List RuleL} {ws : List Int} : ∀ {f g A i j s : Nat}, s ≤ f → s ≤ g → cntT rs ws f A i j s = cntT rs ws g A i j s := by
  intro f
  induction f with
  | zero =>
    intro g A i j s h1 h2
    obtain rfl : s = 0 := by omega
    cases g with
    | zero => rfl
    | succ g => rw [cntT, cntT, if_pos rfl]
  | succ f ih =>
    intro g A i j s h1 h2
    cases g with
    | zero =>
      obtain rfl : s = 0 := by omega
      rw [cntT, cntT, if_pos rfl]
    | succ g =>
      rw [cntT, cntT]
      split
      · rfl
      · refine sumR_congr fun r => ?_
        split
        · exact cntR_congr fun A i j k hk => ih (by omega) (by omega)
        · rfl
theorem cntC_zero (rs : List RuleL) (ws : List Int) (A i j : Nat) : cntC rs ws A i j 0 = 0 := rfl
theorem cntC_succ (rs : List RuleL) (ws : List Int) (A i j s : Nat) : cntC rs ws A i j (s + 1) = sumR rs fun r => if r.1 = (A : Int) then cntR (cntC rs ws) ws r.2 i j s else 0 := by
  unfold cntC
  rw [cntT, if_neg (by omega)]
  refine sumR_congr fun r => ?_
  split
  · exact cntR_congr fun A i j k hk => cntT_more (by omega) (Nat.le_refl _)
  · rfl
end Go.Sh

/- Where there are trees there is a span; what the reference and the program reckon with, kept at most M. -/
set_option linter.unusedVariables false
set_option linter.unusedSimpArgs false
set_option maxRecDepth 100000
namespace Go.Sh
open Go
theorem Inc.still {α : Type} {f : TS → α → TS} : ∀ {l : List α} {s : TS}, (∀ a ∈ l, ∀ s, Inc s (f s a)) → s.2 = false → (l.foldl f s).2 = false → ∀ a ∈ l, f s a = s := by
  intro l
  induction l with
  | nil => intro s _ _ _ a ha; simp at ha
  | cons b l ih =>
    intro s h hs he a ha
    rw [List.foldl_cons] at he
    have hb : f s b = s := by
      rcases h b (List.mem_cons_self ..) s with e | ⟨e, _⟩
      · exact e
      · exfalso
        rcases Inc.fold (fun c hc => h c (List.mem_cons_of_mem _ hc)) (f s b) with e' | ⟨e', _⟩
        · rw [e', e] at he
          cases he
        · rw [e'] at he
          cases he
    rcases List.mem_cons.1 ha with rfl | ha
    · exact hb
    · rw [hb] at he
      exact ih (fun c hc => h c (List.mem_cons_of_mem _ hc)) hs he a ha
theorem pass_closed {rs : List (Int × List Int)} {w : List Int} {T : Tab} (hr : ∀ r ∈ rs, r.1.toNat < 6) (hw : w.length ≤ 10) (h : (passT rs w (T, false)).2 = false) {r : Int × List Int} (hm : r ∈ rs) {i j : Nat} (hij : i ≤ j) (hj : j ≤ w.length) (hf : fitsT T w r.2 i j = true) : T r.1.toNat i j = true := by
  have h1 := Inc.still (f := ruleT w) (fun r h s => ruleT_inc (hr r h) hw s) rfl h r hm
  have h2 := Inc.still (f := rowT w r) (l := List.range (w.length + 1)) (s := (T, false)) (fun i hi s => rowT_inc (hr r hm) hw (by have := List.mem_range.1 hi; omega) s) rfl (by
    show (ruleT w (T, false) r).2 = false
    rw [h1]) i (List.mem_range.2 (by omega))
  have h3 := Inc.still (f := stepT w r i) (l := List.range' i (w.length + 1 - i)) (s := (T, false)) (fun j hj s => by
    rw [List.mem_range'_1] at hj
    exact stepT_inc (hr r hm) (by omega) (by omega)) rfl (by
    show (rowT w r (T, false) i).2 = false
    rw [h2]) j (List.mem_range'_1.2 ⟨hij, by omega⟩)
  unfold stepT at h3
  cases hT : T r.1.toNat i j
  · rw [if_pos (by simp [hT, hf])] at h3
    have := congrArg Prod.snd h3
    cases this
  · rfl
theorem pass_same {rs : List (Int × List Int)} {w : List Int} {T : Tab} (hr : ∀ r ∈ rs, r.1.toNat < 6) (hw : w.length ≤ 10) (h : (passT rs w (T, false)).2 = false) : (passT rs w (T, false)).1 = T := by
  rcases passT_inc hr hw (T, false) with e | ⟨e, _⟩
  · rw [e]
  · rw [e] at h
    cases h
theorem span_closed {rs : List (Int × List Int)} {w : List Int} (hr : ∀ r ∈ rs, r.1.toNat < 6) (hw : w.length ≤ 10) {r : Int × List Int} (hm : r ∈ rs) {i j : Nat} (hij : i ≤ j) (hj : j ≤ w.length) (hf : fitsT (spanT rs w) w r.2 i j = true) : spanT rs w r.1.toNat i j = true := by
  obtain ⟨U, hU⟩ := Span.ex hr hw 726 noTab (by unfold openT; exact Nat.le_trans List.countP_le_length (by simp))
  rw [← hU.eq] at hf ⊢
  have key : ∀ {T U : Tab}, Span rs w T U → fitsT U w r.2 i j = true → U r.1.toNat i j = true := by
    intro T U h
    induction h with
    | done h1 =>
      intro hf
      rw [pass_same hr hw h1] at hf ⊢
      exact pass_closed hr hw h1 hm hij hj hf
    | more _ _ ih => exact ih
  exact key hU hf
theorem sumN_pos {f : Nat → Nat} : ∀ {n : Nat}, 0 < sumN f n → ∃ k, k < n ∧ 0 < f k := by
  intro n
  induction n with
  | zero => intro h; simp [sumN] at h
  | succ n ih =>
    intro h
    rw [sumN] at h
    by_cases h0 : 0 < f n
    · exact ⟨n, by omega, h0⟩
    · obtain ⟨k, hk, h1⟩ := ih (by omega)
      exact ⟨k, by omega, h1⟩
theorem sumR_pos {p : RuleL → Nat} : ∀ {rs : List RuleL} , 0 < sumR rs p → ∃ r ∈ rs, 0 < p r := by
  have key : ∀ (rs : List RuleL) (a : Nat), 0 < rs.foldl (fun a r => a + p r) a → 0 < a ∨ ∃ r ∈ rs, 0 < p r := by
    intro rs
    induction rs with
    | nil => intro a h; exact .inl h
    | cons r rs ih =>
      intro a h
      rw [List.foldl_cons] at h
      rcases ih _ h with h1 | ⟨q, hq, h1⟩
      · by_cases h0 : 0 < p r
        · exact .inr ⟨r, List.mem_cons_self .., h0⟩
        · exact .inl (by omega)
      · exact .inr ⟨q, List.mem_cons_of_mem _ hq, h1⟩
  intro rs h
  rcases key rs 0 h with h | h
  · omega
  · exact h
/-- Symbols that have trees fit. -/
theorem cntR_fits {c : Nat → Nat → Nat → Nat → Nat} {T : Tab} {ws : List Int} : ∀ {xs : List Int} {i j s : Nat}, j ≤ ws.length → (∀ A i j k, i ≤ j → j ≤ ws.length → k ≤ s → 0 < c A i j k → T A i j = true) → 0 < cntR c ws xs i j s → fitsT T ws xs i j = true := by
  intro xs
  induction xs with
  | nil =>
    intro i j s hj hc h
    rw [cntR] at h
    split at h
    · rename_i h1
      exact decide_eq_true h1.1
    · omega
  | cons x xs ih =>
    intro i j s hj hc h
    rw [cntR] at h
    by_cases hx : x < 0
    · rw [if_pos hx] at h
      split at h
      · rename_i h1
        rw [fits_tok hx, decide_eq_true h1.1, decide_eq_true h1.2, ih hj hc h]
        rfl
      · omega
    · rw [if_neg hx] at h
      obtain ⟨m, hm, h1⟩ := sumN_pos h
      obtain ⟨k, hk, h2⟩ := sumN_pos h1
      have h3 : 0 < c x.toNat i (i + m) (k + 1) := Nat.pos_of_ne_zero fun e => by rw [e, Nat.zero_mul] at h2; omega
      have h4 : 0 < cntR c ws xs (i + m) j (s - (k + 1)) := Nat.pos_of_ne_zero fun e => by rw [e, Nat.mul_zero] at h2; omega
      rw [fits_non hx]
      refine any_at (m := i + m) (by omega) (by omega) ?_
      rw [hc _ _ _ _ (by omega) (by omega) (by omega) h3, ih hj (fun A i j k' a b d e => hc A i j k' a b (by omega) e) h4]
      rfl
theorem cntC_span {rs : List RuleL} {ws : List Int} (hr : ∀ r ∈ rs, r.1.toNat < 6) (hw : ws.length ≤ 10) : ∀ {s A i j : Nat}, i ≤ j → j ≤ ws.length → 0 < cntC rs ws A i j s → spanT rs ws A i j = true := by
  intro s
  induction s using Nat.strongRecOn with
  | _ s ih =>
    intro A i j hij hj h
    cases s with
    | zero => rw [cntC_zero] at h; omega
    | succ s =>
      rw [cntC_succ] at h
      obtain ⟨r, hm, h1⟩ := sumR_pos h
      split at h1
      · rename_i h2
        have hf := cntR_fits (T := spanT rs ws) hj (fun A i j k a b d e => ih k (by omega) a b e) h1
        have := span_closed hr hw hm hij hj hf
        rwa [h2, Int.toNat_natCast] at this
      · omega
end Go.Sh

/- Trees of a size as lists of rules: each is read in one way alone, and they are counted. -/
set_option linter.unusedVariables false
set_option linter.unusedSimpArgs false
set_option maxRecDepth 100000
namespace Go.Sh
open Go
/-- Lists of rules: of a nonterminal (inl), of symbols (inr); between two places, of a size in all. -/
inductive Der (rs : List RuleL) (ws : List Int) : Nat ⊕ List Int → Nat → Nat → Nat → List Int → Prop
  | tree {A q i j s : Nat} {r : List Int} : q < rs.length → (rul rs q).1 = (A : Int) → Der rs ws (.inr (rul rs q).2) i j s r → Der rs ws (.inl A) i j (s + 1) ((q : Int) :: r)
  | nil {i : Nat} : Der rs ws (.inr []) i i 0 []
  | tok {x : Int} {xs : List Int} {i j s : Nat} {r : List Int} : x < 0 → i < j → ws.getD i 0 = -1 - x → Der rs ws (.inr xs) (i + 1) j s r → Der rs ws (.inr (x :: xs)) i j s r
  | non {x : Int} {xs : List Int} {i m j k s : Nat} {a b : List Int} : ¬ x < 0 → i ≤ m → m ≤ j → Der rs ws (.inl x.toNat) i m k a → Der rs ws (.inr xs) m j s b → Der rs ws (.inr (x :: xs)) i j (k + s) (a ++ b)
section
variable {rs : List RuleL} {ws : List Int}
theorem der_tree {A i j s : Nat} {t : List Int} : Der rs ws (.inl A) i j s t ↔ ∃ (q : Nat) (r : List Int) (s' : Nat), s = s' + 1 ∧ t = (q : Int) :: r ∧ q < rs.length ∧ (rul rs q).1 = (A : Int) ∧ Der rs ws (.inr (rul rs q).2) i j s' r := by
  constructor
  · intro h
    cases h with
    | tree h1 h2 h3 => exact ⟨_, _, _, rfl, rfl, h1, h2, h3⟩
  · rintro ⟨q, r, s', rfl, rfl, h1, h2, h3⟩
    exact .tree h1 h2 h3
theorem der_le {c : Nat ⊕ List Int} {i j s : Nat} {t : List Int} (h : Der rs ws c i j s t) : i ≤ j := by
  induction h with
  | tree _ _ _ ih => exact ih
  | nil => exact Nat.le_refl _
  | tok _ h2 _ _ ih => omega
  | non _ h2 h3 _ _ _ _ => omega
theorem sumN_at {f : Nat → Nat} : ∀ {n k : Nat}, k < n → 0 < f k → 0 < sumN f n := by
  intro n
  induction n with
  | zero => intro k h; omega
  | succ n ih =>
    intro k h h1
    rw [sumN]
    by_cases e : k = n
    · subst e
      omega
    · have := ih (k := k) (by omega) h1
      omega
theorem sumR_at {p : RuleL → Nat} {rs : List RuleL} {r : RuleL} (hr : r ∈ rs) (h : 0 < p r) : 0 < sumR rs p := by
  have mono : ∀ (l : List RuleL) (a : Nat), a ≤ l.foldl (fun a r => a + p r) a := by
    intro l
    induction l with
    | nil => intro a; exact Nat.le_refl _
    | cons b l ih => intro a; exact Nat.le_trans (Nat.le_add_right a (p b)) (ih (a + p b))
  have key : ∀ (l : List RuleL) (a : Nat), r ∈ l → 0 < l.foldl (fun a r => a + p r) a := by
    intro l
    induction l with
    | nil => intro a h; simp at h
    | cons b l ih =>
      intro a hm
      rcases List.mem_cons.1 hm with e | e
      · subst e
        exact Nat.lt_of_lt_of_le (by omega) (mono l (a + p r))
      · exact ih (a + p b) e
  exact key rs 0 hr
def posD (rs : List RuleL) (ws : List Int) : Nat ⊕ List Int → Nat → Nat → Nat → Prop
  | .inl A, i, j, s => 0 < cntC rs ws A i j s
  | .inr xs, i, j, s => 0 < cntR (cntC rs ws) ws xs i j s
theorem der_posD {c : Nat ⊕ List Int} {i j s : Nat} {t : List Int} (h : Der rs ws c i j s t) : posD rs ws c i j s := by
  induction h with
  | tree h1 h2 h3 ih =>
    show 0 < cntC rs ws _ _ _ _
    rw [cntC_succ]
    refine sumR_at (r := rul rs _) (by rw [rul_eq h1]; exact List.getElem_mem h1) ?_
    rw [if_pos h2]
    exact ih
  | nil =>
    show 0 < cntR _ _ [] _ _ _
    rw [cntR, if_pos ⟨rfl, rfl⟩]
    omega
  | tok h1 h2 h3 h4 ih =>
    show 0 < cntR _ _ (_ :: _) _ _ _
    rw [cntR, if_pos h1, if_pos ⟨h2, h3⟩]
    exact ih
  | non h1 h2 h3 h4 h5 ih1 ih2 =>
    rename_i x xs i m j k s a b
    show 0 < cntR _ _ (x :: xs) _ _ _
    rw [cntR, if_neg h1]
    have hk : 0 < k := by
      obtain ⟨_, _, s', rfl, _⟩ := der_tree.1 h4
      omega
    refine sumN_at (k := m - i) (by omega) (sumN_at (k := k - 1) (by omega) ?_)
    rw [show i + (m - i) = m from by omega, show k - 1 + 1 = k from by omega, show k + s - k = s from by omega]
    exact Nat.mul_pos ih1 ih2
theorem der_posC {A i j s : Nat} {t : List Int} (h : Der rs ws (.inl A) i j s t) : 0 < cntC rs ws A i j s := der_posD h
theorem der_span (hr : ∀ r ∈ rs, r.1.toNat < 6) (hw : ws.length ≤ 10) {A i j s : Nat} {t : List Int} (hj : j ≤ ws.length) (h : Der rs ws (.inl A) i j s t) : spanT rs ws A i j = true := cntC_span hr hw (der_le h) hj (der_posC h)
/-! The parts of a row: at m and k. -/
end
end Go.Sh

/- What is derived and what the tables say: the same. -/
set_option linter.unusedVariables false
set_option linter.unusedSimpArgs false
set_option maxRecDepth 100000
namespace Go.Sh
open Go
section
variable {rs : List RuleL} {ws : List Int}
/-- Every entry of a table has a derivation. -/
def SoundT (rs : List RuleL) (ws : List Int) (T : Tab) : Prop := ∀ A i j, T A i j = true → i ≤ j ∧ ∃ s t, Der rs ws (.inl A) i j s t
theorem fits_sound {T : Tab} (h : SoundT rs ws T) : ∀ {xs : List Int} {i j : Nat}, fitsT T ws xs i j = true → i ≤ j ∧ ∃ s t, Der rs ws (.inr xs) i j s t := by
  intro xs
  induction xs with
  | nil =>
    intro i j hf
    obtain rfl : i = j := of_decide_eq_true hf
    exact ⟨Nat.le_refl _, 0, [], .nil⟩
  | cons x xs ih =>
    intro i j hf
    by_cases hx : x < 0
    · rw [fits_tok hx] at hf
      simp only [Bool.and_eq_true, decide_eq_true_eq] at hf
      obtain ⟨h1, h2, h3⟩ := hf
      obtain ⟨h4, s, t, h5⟩ := ih h3
      exact ⟨by omega, s, t, .tok hx h1 h2 h5⟩
    · rw [fits_non hx, List.any_eq_true] at hf
      obtain ⟨m, hm, hf⟩ := hf
      rw [List.mem_range'_1] at hm
      simp only [Bool.and_eq_true] at hf
      obtain ⟨h1, k, a, h2⟩ := h _ _ _ hf.1
      obtain ⟨h3, s, t, h4⟩ := ih hf.2
      exact ⟨by omega, k + s, a ++ t, .non hx h1 h3 h2 h4⟩
theorem rule_at {r : RuleL} (h : r ∈ rs) : ∃ q, q < rs.length ∧ rul rs q = r := by
  obtain ⟨q, hq, e⟩ := List.getElem_of_mem h
  exact ⟨q, hq, by rw [rul_eq hq, e]⟩
theorem fold_inv {α σ : Type} {I : σ → Prop} {f : σ → α → σ} : ∀ {l : List α} {s : σ}, I s → (∀ a ∈ l, ∀ s, I s → I (f s a)) → I (l.foldl f s) := by
  intro l
  induction l with
  | nil => intro s h _; exact h
  | cons a l ih =>
    intro s h h1
    exact ih (h1 a (List.mem_cons_self ..) s h) fun b hb => h1 b (List.mem_cons_of_mem _ hb)
theorem pass_sound (h0 : ∀ r ∈ rs, 0 ≤ r.1) {s : TS} (h : SoundT rs ws s.1) : SoundT rs ws (passT rs ws s).1 := by
  refine fold_inv (I := fun s : TS => SoundT rs ws s.1) h fun r hr s hs => ?_
  refine fold_inv (I := fun s : TS => SoundT rs ws s.1) hs fun i hi s hs => ?_
  refine fold_inv (I := fun s : TS => SoundT rs ws s.1) hs fun j hj s hs => ?_
  unfold stepT
  split
  · rename_i hc
    simp only [Bool.and_eq_true] at hc
    intro A a b hab
    simp only [Tab.put] at hab
    split at hab
    · rename_i e
      obtain ⟨rfl, rfl, rfl⟩ := e
      obtain ⟨h1, s', t, h2⟩ := fits_sound hs hc.2
      obtain ⟨q, hq, e⟩ := rule_at hr
      refine ⟨h1, s' + 1, (q : Int) :: t, .tree hq ?_ (by rw [e]; exact h2)⟩
      rw [e]
      have := h0 r hr
      omega
    · exact hs A a b hab
  · exact hs
theorem span_sound (h0 : ∀ r ∈ rs, 0 ≤ r.1) : SoundT rs ws (spanT rs ws) := by
  intro A i j h
  unfold spanT at h
  split at h
  · rename_i hx
    have key : ∀ {T U : Tab}, Span rs ws T U → SoundT rs ws T → SoundT rs ws U := by
      intro T U h
      induction h with
      | done _ => exact fun h => pass_sound h0 h
      | more _ _ ih => exact fun h => ih (pass_sound h0 h)
    exact key (Classical.choose_spec hx) (fun A i j h => by cases h) A i j h
  · cases h
theorem span_iff (h0 : ∀ r ∈ rs, 0 ≤ r.1) (hr : ∀ r ∈ rs, r.1.toNat < 6) (hw : ws.length ≤ 10) {A i j : Nat} (hj : j ≤ ws.length) : spanT rs ws A i j = true ↔ ∃ s t, Der rs ws (.inl A) i j s t :=
  ⟨fun h => (span_sound h0 A i j h).2, fun ⟨_, _, h⟩ => der_span hr hw hj h⟩
end
end Go.Sh

/- Plain: what derives a word; other names, turned round; what derives something, what is reached, useful rules. -/
set_option linter.unusedVariables false
set_option linter.unusedSimpArgs false
set_option maxRecDepth 100000
namespace Go.Sh
open Go
/-- What derives a word. -/
inductive Yi (rs : List RuleL) : Nat ⊕ List Int → List Int → Prop
  | rule {A : Nat} {r : RuleL} {u : List Int} : r ∈ rs → r.1 = (A : Int) → Yi rs (.inr r.2) u → Yi rs (.inl A) u
  | nil : Yi rs (.inr []) []
  | tok {x : Int} {xs u : List Int} : x < 0 → Yi rs (.inr xs) u → Yi rs (.inr (x :: xs)) ((-1 - x) :: u)
  | non {x : Int} {xs u v : List Int} : ¬ x < 0 → Yi rs (.inl x.toNat) u → Yi rs (.inr xs) v → Yi rs (.inr (x :: xs)) (u ++ v)
def cut (ws : List Int) (i j : Nat) : List Int := (ws.drop i).take (j - i)
theorem cut_nil (ws : List Int) (i : Nat) : cut ws i i = [] := by simp [cut]
theorem cut_cons {ws : List Int} {i j : Nat} (h : i < j) (hj : j ≤ ws.length) : cut ws i j = ws.getD i 0 :: cut ws (i + 1) j := by
  unfold cut
  rw [List.drop_eq_getElem_cons (by omega), show j - i = (j - (i + 1)) + 1 from by omega, List.take_succ_cons]
  simp [List.getD_eq_getElem?_getD, show i < ws.length from by omega]
theorem cut_append {ws : List Int} {i m j : Nat} (h1 : i ≤ m) (h2 : m ≤ j) (hj : j ≤ ws.length) : cut ws i j = cut ws i m ++ cut ws m j := by
  unfold cut
  rw [show j - i = (m - i) + (j - m) from by omega, List.take_add, List.drop_drop, show i + (m - i) = m from by omega]
theorem cut_all (ws : List Int) : cut ws 0 ws.length = ws := by simp [cut]
theorem cut_length {ws : List Int} {i j : Nat} (h : i ≤ j) (hj : j ≤ ws.length) : (cut ws i j).length = j - i := by
  simp [cut]; omega
section
variable {rs : List RuleL}
theorem yi_of_der {ws : List Int} {c : Nat ⊕ List Int} {i j s : Nat} {t : List Int} (h : Der rs ws c i j s t) : j ≤ ws.length → Yi rs c (cut ws i j) := by
  induction h with
  | tree h1 h2 _ ih =>
    intro hj
    refine .rule (r := rul rs _) ?_ h2 (ih hj)
    rw [rul_eq h1]
    exact List.getElem_mem h1
  | nil =>
    intro _
    rw [cut_nil]
    exact .nil
  | tok h1 h2 h3 _ ih =>
    intro hj
    rw [cut_cons h2 hj, h3]
    exact .tok h1 (ih hj)
  | non h1 h2 h3 _ _ ih1 ih2 =>
    intro hj
    rw [cut_append h2 h3 hj]
    exact .non h1 (ih1 (by omega)) (ih2 hj)
theorem der_of_yi' {c : Nat ⊕ List Int} {u : List Int} (h : Yi rs c u) : ∀ (a b : List Int), ∃ s t, Der rs (a ++ u ++ b) c a.length (a.length + u.length) s t := by
  induction h with
  | rule h1 h2 _ ih =>
    intro a b
    obtain ⟨s, t, hd⟩ := ih a b
    obtain ⟨q, hq, e⟩ := List.getElem_of_mem h1
    have e' : rul rs q = _ := (rul_eq hq).trans e
    exact ⟨_, _, .tree hq (by rw [e']; exact h2) (by rw [e']; exact hd)⟩
  | nil =>
    intro a b
    exact ⟨_, _, .nil⟩
  | @tok x xs u hx _ ih =>
    intro a b
    obtain ⟨s, t, hd⟩ := ih (a ++ [-1 - x]) b
    refine ⟨s, t, .tok hx (by simp) ?_ ?_⟩
    · simp [List.getD_eq_getElem?_getD]
    · have e : a ++ (-1 - x) :: u ++ b = a ++ [-1 - x] ++ u ++ b := by simp
      rw [e]
      have e2 : a.length + ((-1 - x) :: u).length = (a ++ [-1 - x]).length + u.length := by simp; omega
      rw [e2]
      have e3 : a.length + 1 = (a ++ [-1 - x]).length := by simp
      rw [e3]
      exact hd
  | @non x xs u v hx _ _ ih1 ih2 =>
    intro a b
    obtain ⟨s1, t1, h1⟩ := ih1 a (v ++ b)
    obtain ⟨s2, t2, h2⟩ := ih2 (a ++ u) b
    have e1 : a ++ u ++ (v ++ b) = a ++ (u ++ v) ++ b := by simp
    have e2 : a ++ u ++ v ++ b = a ++ (u ++ v) ++ b := by simp
    rw [e1] at h1
    rw [e2] at h2
    have e3 : (a ++ u).length = a.length + u.length := by simp
    have e4 : (a ++ u).length + v.length = a.length + (u ++ v).length := by simp; omega
    rw [e4, e3] at h2
    exact ⟨_, _, .non hx (by omega) (by simp) h1 h2⟩
theorem cut_parts {ws : List Int} {i j : Nat} (h : i ≤ j) (hj : j ≤ ws.length) : ws = ws.take i ++ cut ws i j ++ ws.drop j := by
  unfold cut
  conv => lhs; rw [← List.take_append_drop i ws, ← List.take_append_drop (j - i) (ws.drop i)]
  rw [List.drop_drop, show i + (j - i) = j from by omega, List.append_assoc]
theorem der_of_yi {ws : List Int} {c : Nat ⊕ List Int} {i j : Nat} (hi : i ≤ j) (hj : j ≤ ws.length) (h : Yi rs c (cut ws i j)) : ∃ s t, Der rs ws c i j s t := by
  obtain ⟨s, t, hd⟩ := der_of_yi' h (ws.take i) (ws.drop j)
  rw [← cut_parts hi hj] at hd
  have e1 : (ws.take i).length = i := by simp; omega
  have e2 : i + (cut ws i j).length = j := by rw [cut_length hi hj]; omega
  rw [e1, e2] at hd
  exact ⟨s, t, hd⟩
theorem der_yi {ws : List Int} {c : Nat ⊕ List Int} {i j : Nat} (hi : i ≤ j) (hj : j ≤ ws.length) : (∃ s t, Der rs ws c i j s t) ↔ Yi rs c (cut ws i j) :=
  ⟨fun ⟨_, _, h⟩ => yi_of_der h hj, der_of_yi hi hj⟩
/-! Parts. -/
end
/-! Other names of nonterminals; turned round. -/
/-! What derives something, what is reached. -/
inductive Clo (rs : List RuleL) (tok : Bool) : Nat → Prop
  | mk {A : Nat} {r : RuleL} : r ∈ rs → r.1 = (A : Int) → (∀ x ∈ r.2, x < 0 → tok = true) → (∀ x ∈ r.2, ¬ x < 0 → Clo rs tok x.toNat) → Clo rs tok A
/-- Reached from the first nonterminal. -/
inductive Rch (rs : List RuleL) : Nat → Prop
  | zero : Rch rs 0
  | step {A : Nat} {r : RuleL} {x : Int} : r ∈ rs → r.1 = (A : Int) → Rch rs A → x ∈ r.2 → ¬ x < 0 → Rch rs x.toNat
open Classical in
noncomputable def madeR (rs : List RuleL) : List RuleL := rs.filter fun r => decide (∀ x ∈ r.2, ¬ x < 0 → Clo rs true x.toNat)
open Classical in
noncomputable def rchR (rs : List RuleL) : List RuleL := rs.filter fun r => decide (Rch rs r.1.toNat)
noncomputable def usefulR (rs : List RuleL) : List RuleL := rchR (madeR rs)
end Go.Sh

/- Contracts: SpansOf. -/
set_option linter.unusedVariables false
set_option linter.unusedSimpArgs false
set_option maxRecDepth 100000
namespace Go.Sh
open Go
end Go.Sh
namespace Go.Proofs.Ytegcjkhebecgbaa
open Go Go.Sh Go.RowKit
section
variable {w : World} {X Z Y : Option Addr} {cx cz cy : Nat} {gm : Gram} {ws xs : List Int} {k : Value → World → Prop}
end
end Go.Proofs.Ytegcjkhebecgbaa

/- Plain: short words are words of the language, in order; rules and spans. -/
set_option linter.unusedVariables false
set_option linter.unusedSimpArgs false
set_option maxRecDepth 100000
namespace Go.Sh
open Go
theorem good_lefts {gm : Gram} (hg : goodG gm = true) : ∀ r ∈ gm.rules, 0 ≤ r.1 := fun r hr => by
  obtain ⟨i, hi, rfl⟩ := List.getElem_of_mem hr
  have := (good_left hg hi).1
  rwa [rul_eq hi] at this
theorem shortV_mem4 {gm : Gram} {most : Int} {x : List Int} (h : x ∈ (shortV gm most).1) : goodG gm = true ∧ x.length ≤ 4 ∧ wordB gm.toks x = true ∧ inL gm.rules x = true := by
  unfold shortV at h
  split at h
  · rename_i hg
    simp only [Bool.and_eq_true, inB, decide_eq_true_eq] at hg
    have hm := shortW_mem h
    have ht := good_toks hg.1
    have h4 : x.length ≤ 4 := by have := hm.1; omega
    refine ⟨hg.1, h4, ?_, ?_⟩
    · simp only [wordB, allB, inB, Bool.and_eq_true, decide_eq_true_eq, List.all_eq_true]
      exact ⟨by omega, fun t htx => by have := hm.2 t htx; omega⟩
    · unfold shortW at h
      obtain ⟨m, _, hx⟩ := List.mem_flatMap.1 h
      exact (List.mem_filter.1 hx).2
  · simp at h
where
  any_congr' {l : List RuleL} {p q : RuleL → Bool} (h : ∀ r ∈ l, p r = q r) : l.any p = l.any q := by
    rw [Bool.eq_iff_iff, List.any_eq_true, List.any_eq_true]
    constructor
    · rintro ⟨r, hr, h1⟩
      exact ⟨r, hr, by rw [← h r hr]; exact h1⟩
    · rintro ⟨r, hr, h1⟩
      exact ⟨r, hr, by rw [h r hr]; exact h1⟩
end Go.Sh

/- Least costs: tables, rows, passes; they end, and costs stay small. -/
set_option linter.unusedVariables false
set_option linter.unusedSimpArgs false
set_option maxRecDepth 100000
namespace Go.Sh
/-! A table of costs: nonterminal, from, to. -/
abbrev CT := Nat → Nat → Nat → Option Nat
def noCT : CT := fun _ _ _ => none
def CT.put (T : CT) (A i j n : Nat) : CT := fun A' i' j' => if A' = A ∧ i' = i ∧ j' = j then some n else T A' i' j'
def addO : Option Nat → Option Nat → Option Nat
  | some a, some b => some (a + b)
  | _, _ => none
theorem addO_some {a b : Option Nat} {n : Nat} (h : addO a b = some n) : ∃ x y, a = some x ∧ b = some y ∧ n = x + y := by
  cases a with
  | none => cases h
  | some x =>
    cases b with
    | none => cases h
    | some y => exact ⟨x, y, rfl, rfl, (Option.some.inj h).symm⟩
/-- Whether a cost is better than an old one. -/
def better (n : Nat) : Option Nat → Bool
  | none => true
  | some o => decide (n < o)
def minO (a : Option Nat) : Option Nat → Option Nat
  | none => a
  | some n => if better n a then some n else a
def minF (f : Nat → Option Nat) : Nat → Option Nat
  | 0 => none
  | n + 1 => minO (minF f n) (f n)
theorem minO_some {a b : Option Nat} {n : Nat} (h : minO a b = some n) : a = some n ∨ b = some n := by
  cases b with
  | none => exact .inl h
  | some m =>
    unfold minO at h
    dsimp only at h
    split at h
    · exact .inr h
    · exact .inl h
theorem minO_le {a b : Option Nat} {x : Nat} (h : a = some x ∨ b = some x) : ∃ n, minO a b = some n ∧ n ≤ x := by
  cases b with
  | none =>
    rcases h with h | h
    · exact ⟨x, h, Nat.le_refl _⟩
    · cases h
  | some m =>
    unfold minO
    dsimp only
    cases a with
    | none =>
      rcases h with h | h
      · cases h
      · exact ⟨m, rfl, by cases h; exact Nat.le_refl _⟩
    | some o =>
      unfold better
      dsimp only
      by_cases hm : m < o
      · rw [if_pos (decide_eq_true hm)]
        rcases h with h | h
        · exact ⟨m, rfl, by cases h; omega⟩
        · exact ⟨m, rfl, by cases h; omega⟩
      · rw [if_neg (by simpa using hm)]
        rcases h with h | h
        · exact ⟨o, rfl, by cases h; omega⟩
        · exact ⟨o, rfl, by cases h; omega⟩
theorem minF_some {f : Nat → Option Nat} : ∀ {k n : Nat}, minF f k = some n → ∃ m, m < k ∧ f m = some n := by
  intro k
  induction k with
  | zero => intro n h; cases h
  | succ k ih =>
    intro n h
    rcases minO_some h with h | h
    · obtain ⟨m, hm, h1⟩ := ih h
      exact ⟨m, by omega, h1⟩
    · exact ⟨k, by omega, h⟩
theorem minF_le {f : Nat → Option Nat} : ∀ {k m x : Nat}, m < k → f m = some x → ∃ n, minF f k = some n ∧ n ≤ x := by
  intro k
  induction k with
  | zero => intro m x h; omega
  | succ k ih =>
    intro m x h h1
    by_cases hm : m = k
    · subst hm
      exact minO_le (.inr h1)
    · obtain ⟨n, h2, h3⟩ := ih (by omega) h1
      obtain ⟨n', h4, h5⟩ := minO_le (a := minF f k) (b := f k) (.inl h2)
      exact ⟨n', h4, by omega⟩
/-- One symbol; a row of symbols. -/
def oneG (tok : Int → Nat → Nat → Option Nat) (T : CT) (x : Int) (i j : Nat) : Option Nat := if x < 0 then tok x i j else T x.toNat i j
def restG (tok : Int → Nat → Nat → Option Nat) (nl : Nat → Nat → Option Nat) (T : CT) : List Int → Nat → Nat → Option Nat
  | [], i, j => nl i j
  | x :: xs, i, j => minF (fun m => addO (oneG tok T x i (i + m)) (restG tok nl T xs (i + m) j)) (j + 1 - i)
/-! Passes. -/
abbrev GS := CT × Bool
/-- What a rule offers between two places. -/
abbrev CandG := CT → Nat → Nat → Nat → Option Nat
def stepG (c : CandG) (rs : List RuleL) (q i : Nat) (s : GS) (j : Nat) : GS :=
  match c s.1 q i j with
  | none => s
  | some n => if better n (s.1 (rul rs q).1.toNat i j) then (s.1.put (rul rs q).1.toNat i j n, true) else s
def rowG (c : CandG) (rs : List RuleL) (n q : Nat) (s : GS) (i : Nat) : GS := (List.range' i (n - i)).foldl (stepG c rs q i) s
def ruleG (c : CandG) (rs : List RuleL) (n : Nat) (s : GS) (q : Nat) : GS := (List.range n).foldl (rowG c rs n q) s
def passG (c : CandG) (rs : List RuleL) (n : Nat) (s : GS) : GS := (List.range rs.length).foldl (ruleG c rs n) s
/-- Passes until nothing changes. -/
inductive FixG (c : CandG) (rs : List RuleL) (n : Nat) : CT → CT → Prop
  | done {T : CT} : (passG c rs n (T, false)).2 = false → FixG c rs n T (passG c rs n (T, false)).1
  | more {T U : CT} : (passG c rs n (T, false)).2 = true → FixG c rs n (passG c rs n (T, false)).1 U → FixG c rs n T U
theorem FixG.det {c : CandG} {rs : List RuleL} {n : Nat} {T U V : CT} (h : FixG c rs n T U) (g : FixG c rs n T V) : U = V := by
  induction h with
  | done h1 =>
    cases g with
    | done g1 => rfl
    | more g1 g2 => rw [h1] at g1; cases g1
  | more h1 h2 ih =>
    cases g with
    | done g1 => rw [h1] at g1; cases g1
    | more g1 g2 => exact ih g2
/-- Something true of the start that no step loses is true of the end. -/
theorem foldG {α : Type} {I : CT → Prop} {f : GS → α → GS} : ∀ {l : List α} {s : GS}, (∀ a ∈ l, ∀ s, I s.1 → I (f s a).1) → I s.1 → I (l.foldl f s).1 := by
  intro l
  induction l with
  | nil => intro s _ h; exact h
  | cons a l ih => intro s hs h; exact ih (fun b hb => hs b (List.mem_cons_of_mem _ hb)) (hs a (List.mem_cons_self ..) s h)
theorem passG_keep {I : CT → Prop} {c : CandG} {rs : List RuleL} {n : Nat} (hI : ∀ (T : CT) (q i j m : Nat), q < rs.length → i ≤ j → j < n → I T → c T q i j = some m → better m (T (rul rs q).1.toNat i j) = true → I (T.put (rul rs q).1.toNat i j m)) {s : GS} (h : I s.1) : I (passG c rs n s).1 :=
  foldG (fun q hq s hs => foldG (f := rowG c rs n q) (fun i hi s hs => foldG (f := stepG c rs q i) (fun j hj s hs => by
    rw [List.mem_range'_1] at hj
    unfold stepG
    split
    · exact hs
    · rename_i m hm
      split
      · rename_i hb
        exact hI _ _ _ _ _ (List.mem_range.1 hq) hj.1 (by omega) hs hm hb
      · exact hs) hs) hs) h
theorem FixG.keep {I : CT → Prop} {c : CandG} {rs : List RuleL} {n : Nat} (hI : ∀ (T : CT) (q i j m : Nat), q < rs.length → i ≤ j → j < n → I T → c T q i j = some m → better m (T (rul rs q).1.toNat i j) = true → I (T.put (rul rs q).1.toNat i j m)) {T U : CT} (h : FixG c rs n T U) (h0 : I T) : I U := by
  induction h with
  | done h1 => exact passG_keep (s := (_, false)) hI h0
  | more h1 h2 ih => exact ih (passG_keep (s := (_, false)) hI h0)
/-! Costs stay small. -/
def eB : Nat → Nat
  | 0 => 1
  | s + 1 => 100 + 4 * eB s
def gB (l s : Nat) : Nat := if l = 0 then eB s else 6749808 * (l - 1) + 562484 * s + l
def cntG (T : CT) (i j : Nat) : Nat := sumN (fun A => if (T A i j).isSome then 1 else 0) 6
theorem sumN_le {f g : Nat → Nat} : ∀ {n : Nat}, (∀ k, k < n → f k ≤ g k) → sumN f n ≤ sumN g n := by
  intro n
  induction n with
  | zero => intro _; exact Nat.le_refl _
  | succ n ih =>
    intro h
    have := ih fun k hk => h k (by omega)
    have := h n (by omega)
    rw [sumN, sumN]
    omega
theorem sumN_one {f g : Nat → Nat} {p d : Nat} : ∀ {n : Nat}, p < n → (∀ k, k < n → k ≠ p → f k = g k) → f p + d = g p → sumN f n + d = sumN g n := by
  intro n
  induction n with
  | zero => intro h; omega
  | succ n ih =>
    intro h h1 h2
    rw [sumN, sumN]
    by_cases hp : p = n
    · subst hp
      rw [sumN_congr fun k hk => h1 k (by omega) (by omega)]
      omega
    · have := ih (by omega) (fun k hk => h1 k (by omega)) h2
      have := h1 n (by omega) (by omega)
      omega
theorem cntG_le (T : CT) (i j : Nat) : cntG T i j ≤ 6 := by
  have := sumN_le (f := fun A => if (T A i j).isSome then 1 else 0) (g := fun _ => 1) (n := 6) (fun k _ => by split <;> omega)
  exact this
theorem eB_mono : ∀ {s t : Nat}, s ≤ t → eB s ≤ eB t := by
  intro s t h
  induction h with
  | refl => exact Nat.le_refl _
  | step _ ih => rw [eB]; omega
theorem eB_pos (s : Nat) : 1 ≤ eB s := eB_mono (s := 0) (Nat.zero_le s)
theorem eB6 : eB 6 = 140596 := by decide
theorem gB_mono {l s t : Nat} (h : s ≤ t) : gB l s ≤ gB l t := by
  unfold gB
  split
  · exact eB_mono h
  · omega
theorem gB_zero (s : Nat) : gB 0 s = eB s := if_pos rfl
theorem gB_pos {l s : Nat} (h : 0 < l) : gB l s = 6749808 * (l - 1) + 562484 * s + l := if_neg (by omega)
/-- Entries are small, the smaller the fewer there are. -/
def SmallG (T : CT) : Prop := ∀ A i j n, i ≤ j → T A i j = some n → n ≤ gB (j - i) (cntG T i j)
theorem SmallG.six {T : CT} (h : SmallG T) {A i j n : Nat} (hij : i ≤ j) (hT : T A i j = some n) : n ≤ gB (j - i) 6 := Nat.le_trans (h A i j n hij hT) (gB_mono (cntG_le T i j))
theorem gB_two {a b : Nat} (ha : 0 < a) (hb : 0 < b) : gB a 6 + gB b 6 = gB (a + b) 0 := by
  rw [gB_pos ha, gB_pos hb, gB_pos (by omega)]
  omega
theorem gB_base {l s : Nat} : l ≤ gB l s := by
  unfold gB
  split <;> omega
theorem gB_one {l s : Nat} : 1 ≤ gB l s := by
  unfold gB
  split
  · exact eB_pos s
  · omega
section
variable {tok : Int → Nat → Nat → Option Nat} {nl : Nat → Nat → Option Nat} {T : CT}
theorem rest_sub (hT : SmallG T) (ht : ∀ x i j n, i ≤ j → tok x i j = some n → n ≤ max 1 (j - i)) (hn : ∀ i j n, nl i j = some n → n ≤ j - i) : ∀ {xs : List Int} {i j n : Nat}, i ≤ j → restG tok nl T xs i j = some n → n ≤ (if j = i then 0 else gB (j - i) 6) + xs.length * 140596 := by
  intro xs
  induction xs with
  | nil =>
    intro i j n hij h
    have := hn i j n h
    have := gB_base (l := j - i) (s := 6)
    rw [List.length_nil]
    split <;> omega
  | cons x xs ih =>
    intro i j n hij h
    rw [restG] at h
    obtain ⟨m, hm, h1⟩ := minF_some h
    obtain ⟨a, b, h2, h3, rfl⟩ := addO_some h1
    have hb := ih (by omega) h3
    have ha : a ≤ gB m 6 := by
      unfold oneG at h2
      split at h2
      · have := ht _ _ _ _ (by omega) h2
        have := gB_base (l := m) (s := 6)
        have := gB_one (l := m) (s := 6)
        omega
      · have := hT.six (by omega) h2
        rwa [show i + m - i = m from by omega] at this
    rw [List.length_cons]
    have h0 : gB 0 6 = 140596 := eB6
    by_cases e : j = i
    · obtain rfl : m = 0 := by omega
      rw [if_pos e]
      rw [if_pos (by omega)] at hb
      omega
    · rw [if_neg e]
      by_cases e0 : m = 0
      · subst e0
        rw [Nat.add_zero, if_neg e] at hb
        omega
      · by_cases e1 : j = i + m
        · rw [if_pos e1] at hb
          rw [show m = j - i from by omega] at ha
          omega
        · rw [if_neg e1] at hb
          have := gB_two (a := m) (b := j - (i + m)) (by omega) (by omega)
          rw [show m + (j - (i + m)) = j - i from by omega] at this
          have := gB_mono (l := j - i) (Nat.zero_le 6)
          omega
theorem rest_full (hT : SmallG T) (ht : ∀ x i j n, i ≤ j → tok x i j = some n → n ≤ max 1 (j - i)) (hn : ∀ i j n, nl i j = some n → n ≤ j - i) {i j : Nat} (hij : i < j) : ∀ {xs : List Int} {n : Nat}, restG tok nl T xs i j = some n → n ≤ gB (j - i) (cntG T i j) + xs.length * 140596 := by
  intro xs
  have hbase := gB_base (l := j - i) (s := 0)
  have hone := gB_one (l := j - i) (s := 0)
  have hmono := gB_mono (l := j - i) (Nat.zero_le (cntG T i j))
  induction xs with
  | nil =>
    intro n h
    have := hn i j n h
    rw [List.length_nil]
    omega
  | cons x xs ih =>
    intro n h
    rw [restG] at h
    obtain ⟨m, hm, h1⟩ := minF_some h
    obtain ⟨a, b, h2, h3, rfl⟩ := addO_some h1
    rw [List.length_cons]
    have h0 : gB 0 6 = 140596 := eB6
    have ha : a ≤ gB m 6 := by
      unfold oneG at h2
      split at h2
      · have := ht _ _ _ _ (by omega) h2
        have := gB_base (l := m) (s := 6)
        have := gB_one (l := m) (s := 6)
        omega
      · have := hT.six (by omega) h2
        rwa [show i + m - i = m from by omega] at this
    by_cases e0 : m = 0
    · subst e0
      have := ih h3
      omega
    · have hb := rest_sub hT ht hn (by omega) h3
      by_cases e1 : j = i + m
      · rw [if_pos e1] at hb
        have ha' : a ≤ gB (j - i) (cntG T i j) := by
          unfold oneG at h2
          split at h2
          · have := ht _ _ _ _ (by omega) h2
            omega
          · rw [← e1] at h2
            exact hT _ _ _ _ (by omega) h2
        omega
      · rw [if_neg e1] at hb
        have := gB_two (a := m) (b := j - (i + m)) (by omega) (by omega)
        rw [show m + (j - (i + m)) = j - i from by omega] at this
        omega
theorem rest_none (hT : SmallG T) (ht : ∀ x i j n, i ≤ j → tok x i j = some n → n ≤ max 1 (j - i)) (hn : ∀ i j n, nl i j = some n → n ≤ j - i) {i : Nat} : ∀ {xs : List Int} {n : Nat}, restG tok nl T xs i i = some n → n ≤ xs.length * eB (cntG T i i) := by
  intro xs
  induction xs with
  | nil =>
    intro n h
    have := hn i i n h
    omega
  | cons x xs ih =>
    intro n h
    rw [restG] at h
    obtain ⟨m, hm, h1⟩ := minF_some h
    obtain rfl : m = 0 := by omega
    obtain ⟨a, b, h2, h3, rfl⟩ := addO_some h1
    have := ih h3
    have ha : a ≤ eB (cntG T i i) := by
      unfold oneG at h2
      split at h2
      · have := ht _ _ _ _ (by omega) h2
        have := eB_pos (cntG T i i)
        omega
      · have := hT _ _ _ _ (by omega) h2
        rw [Nat.add_zero, Nat.sub_self, gB_zero] at this
        exact this
    rw [List.length_cons, Nat.add_mul]
    omega
/-- What a rule of at most four symbols offers at a cost of at most 100 of its own. -/
theorem rest_cand (hT : SmallG T) (ht : ∀ x i j n, i ≤ j → tok x i j = some n → n ≤ max 1 (j - i)) (hn : ∀ i j n, nl i j = some n → n ≤ j - i) {xs : List Int} (hx : xs.length ≤ 4) {i j n d : Nat} (hij : i ≤ j) (hd : d ≤ 100) (h : restG tok nl T xs i j = some n) : n + d ≤ gB (j - i) (cntG T i j + 1) := by
  by_cases e : i = j
  · subst e
    have := rest_none hT ht hn h
    have h2 : xs.length * eB (cntG T i i) ≤ 4 * eB (cntG T i i) := Nat.mul_le_mul_right _ hx
    rw [Nat.sub_self, gB_zero, eB]
    omega
  · have := rest_full hT ht hn (by omega) h
    rw [gB_pos (by omega)] at this ⊢
    omega
theorem rest_small (hT : SmallG T) (ht : ∀ x i j n, i ≤ j → tok x i j = some n → n ≤ max 1 (j - i)) (hn : ∀ i j n, nl i j = some n → n ≤ j - i) {xs : List Int} (hx : xs.length ≤ 4) {i j n : Nat} (hij : i ≤ j) (hj : j ≤ 10) (h : restG tok nl T xs i j = some n) : n ≤ 100000000 := by
  have := rest_sub hT ht hn hij h
  split at this
  · omega
  · rw [gB_pos (by omega)] at this
    omega
end
theorem SmallG.le {T : CT} (h : SmallG T) {A i j n : Nat} (hij : i ≤ j) (hj : j ≤ 10) (hT : T A i j = some n) : n ≤ 100000000 := by
  have := h.six hij hT
  by_cases e : i = j
  · subst e
    rw [Nat.sub_self, gB_zero, eB6] at this
    omega
  · rw [gB_pos (by omega)] at this
    omega
theorem cntG_put {T : CT} {A i j n : Nat} (hA : A < 6) : cntG (T.put A i j n) i j + (if (T A i j).isSome then 1 else 0) = cntG T i j + 1 := by
  unfold cntG
  by_cases h : (T A i j).isSome
  · rw [if_pos h]
    congr 1
    refine sumN_congr fun k hk => ?_
    unfold CT.put
    by_cases e : k = A
    · subst e
      simp [h]
    · simp [e]
  · rw [if_neg h]
    symm
    refine sumN_one (p := A) hA (fun k hk hne => ?_) ?_
    · simp [CT.put, hne]
    · simp [CT.put, h]
theorem cntG_other {T : CT} {A i j n i' j' : Nat} (h : ¬ (i' = i ∧ j' = j)) : cntG (T.put A i j n) i' j' = cntG T i' j' := by
  unfold cntG
  refine sumN_congr fun k hk => ?_
  have : T.put A i j n k i' j' = T k i' j' := if_neg fun e => h e.2
  rw [this]
theorem smallG_put {T : CT} (h : SmallG T) {A i j n : Nat} (hA : A < 6) (hn : n ≤ gB (j - i) (cntG T i j + 1)) (hb : better n (T A i j) = true) : SmallG (T.put A i j n) := by
  intro A' i' j' m hij hm
  by_cases e : i' = i ∧ j' = j
  · obtain ⟨rfl, rfl⟩ := e
    have hc := cntG_put (T := T) (i := i') (j := j') (n := n) hA
    have hmono : gB (j' - i') (cntG T i' j') ≤ gB (j' - i') (cntG (T.put A i' j' n) i' j') := gB_mono (by split at hc <;> omega)
    unfold CT.put at hm
    by_cases e2 : A' = A
    · subst e2
      rw [if_pos ⟨rfl, rfl, rfl⟩] at hm
      cases hm
      cases ho : T A' i' j' with
      | none =>
        rw [ho] at hc
        rw [if_neg (by simp)] at hc
        rwa [show cntG (T.put A' i' j' n) i' j' = cntG T i' j' + 1 from by omega]
      | some o =>
        rw [ho] at hb
        have := h _ _ _ _ hij ho
        unfold better at hb
        have := of_decide_eq_true hb
        omega
    · rw [if_neg fun e => e2 e.1] at hm
      have := h _ _ _ _ hij hm
      omega
  · rw [cntG_other e]
    unfold CT.put at hm
    rw [if_neg fun e' => e e'.2] at hm
    exact h _ _ _ _ hij hm
theorem smallG_none : SmallG noCT := fun A i j n _ h => by cases h
/-! Passes end. -/
def cellG (T : CT) (p : Nat) : Nat := match T (p / 121) (p / 11 % 11) (p % 11) with | none => 100000001 | some n => n
def sumG (T : CT) : Nat := sumN (cellG T) 726
theorem cellG_at {T : CT} {A i j : Nat} (hi : i < 11) (hj : j < 11) : cellG T (A * 121 + i * 11 + j) = match T A i j with | none => 100000001 | some n => n := by
  unfold cellG
  rw [show (A * 121 + i * 11 + j) / 121 = A from by omega, show (A * 121 + i * 11 + j) / 11 % 11 = i from by omega, show (A * 121 + i * 11 + j) % 11 = j from by omega]
theorem sumG_put {T : CT} {A i j n : Nat} (hA : A < 6) (hi : i < 11) (hj : j < 11) (hn : n ≤ 100000000) (hb : better n (T A i j) = true) : sumG (T.put A i j n) < sumG T := by
  unfold sumG
  have h1 : cellG (T.put A i j n) (A * 121 + i * 11 + j) = n := by
    rw [cellG_at hi hj]
    simp [CT.put]
  have h2 : n < cellG T (A * 121 + i * 11 + j) := by
    rw [cellG_at hi hj]
    cases ho : T A i j with
    | none => show n < 100000001; omega
    | some o =>
      rw [ho] at hb
      exact of_decide_eq_true hb
  have := sumN_one (f := cellG (T.put A i j n)) (g := cellG T) (p := A * 121 + i * 11 + j) (d := cellG T (A * 121 + i * 11 + j) - n) (n := 726) (by omega) (fun k hk hne => by
    unfold cellG CT.put
    rw [if_neg (by omega)]) (by omega)
  omega
/-- A step changes nothing, or says so and lessens. -/
def DropG (s s' : GS) : Prop := s' = s ∨ (s'.2 = true ∧ sumG s'.1 < sumG s.1)
theorem DropG.trans {a b c : GS} (h : DropG a b) (g : DropG b c) : DropG a c := by
  rcases h with rfl | ⟨h1, h2⟩
  · exact g
  · rcases g with rfl | ⟨g1, g2⟩
    · exact .inr ⟨h1, h2⟩
    · exact .inr ⟨g1, by omega⟩
theorem DropG.fold {α : Type} {I : CT → Prop} {f : GS → α → GS} : ∀ {l : List α} {s : GS}, (∀ a ∈ l, ∀ s, I s.1 → I (f s a).1 ∧ DropG s (f s a)) → I s.1 → I (l.foldl f s).1 ∧ DropG s (l.foldl f s) := by
  intro l
  induction l with
  | nil => intro s _ h; exact ⟨h, .inl rfl⟩
  | cons a l ih =>
    intro s hs h
    obtain ⟨h1, h2⟩ := hs a (List.mem_cons_self ..) s h
    obtain ⟨h3, h4⟩ := ih (fun b hb => hs b (List.mem_cons_of_mem _ hb)) h1
    exact ⟨h3, h2.trans h4⟩
/-- What a rule offers is small. -/
def OfferG (c : CandG) (rs : List RuleL) (n : Nat) : Prop := (∀ q, q < rs.length → (rul rs q).1.toNat < 6) ∧ n ≤ 11 ∧ ∀ T q i j m, SmallG T → q < rs.length → i ≤ j → j < n → c T q i j = some m → m ≤ gB (j - i) (cntG T i j + 1)
section
variable {c : CandG} {rs : List RuleL} {n : Nat}
theorem stepG_drop (hc : OfferG c rs n) {q i j : Nat} (hq : q < rs.length) (hij : i ≤ j) (hj : j < n) {s : GS} (hs : SmallG s.1) : SmallG (stepG c rs q i s j).1 ∧ DropG s (stepG c rs q i s j) := by
  unfold stepG
  split
  · exact ⟨hs, .inl rfl⟩
  · rename_i m hm
    split
    · rename_i hb
      have h1 := smallG_put hs (hc.1 q hq) (hc.2.2 _ _ _ _ _ hs hq hij hj hm) hb
      refine ⟨h1, .inr ⟨rfl, sumG_put (hc.1 q hq) (by have := hc.2.1; omega) (by have := hc.2.1; omega) ?_ hb⟩⟩
      exact h1.le (A := (rul rs q).1.toNat) hij (by have := hc.2.1; omega) (by simp [CT.put])
    · exact ⟨hs, .inl rfl⟩
theorem rowG_drop (hc : OfferG c rs n) {q : Nat} (hq : q < rs.length) {s : GS} (hs : SmallG s.1) (i : Nat) : SmallG (rowG c rs n q s i).1 ∧ DropG s (rowG c rs n q s i) :=
  DropG.fold (I := SmallG) (fun j hj s hs => by
    rw [List.mem_range'_1] at hj
    exact stepG_drop hc hq hj.1 (by omega) hs) hs
theorem ruleG_drop (hc : OfferG c rs n) {q : Nat} (hq : q < rs.length) {s : GS} (hs : SmallG s.1) : SmallG (ruleG c rs n s q).1 ∧ DropG s (ruleG c rs n s q) :=
  DropG.fold (I := SmallG) (fun i hi s hs => rowG_drop hc hq hs i) hs
theorem passG_drop (hc : OfferG c rs n) {s : GS} (hs : SmallG s.1) : SmallG (passG c rs n s).1 ∧ DropG s (passG c rs n s) :=
  DropG.fold (I := SmallG) (fun q hq s hs => ruleG_drop hc (List.mem_range.1 hq) hs) hs
theorem FixG.small (hc : OfferG c rs n) {T U : CT} (h : FixG c rs n T U) (hT : SmallG T) : SmallG U := by
  induction h with
  | done h1 => exact (passG_drop hc (s := (_, false)) hT).1
  | more h1 h2 ih => exact ih (passG_drop hc (s := (_, false)) hT).1
/-- At the end nothing better is offered. -/
theorem DropG.still {α : Type} {I : CT → Prop} {f : GS → α → GS} : ∀ {l : List α} {s : GS}, (∀ a ∈ l, ∀ s, I s.1 → I (f s a).1 ∧ DropG s (f s a)) → I s.1 → s.2 = false → (l.foldl f s).2 = false → ∀ a ∈ l, f s a = s := by
  intro l
  induction l with
  | nil => intro s _ _ _ _ a ha; simp at ha
  | cons b l ih =>
    intro s hs h0 h he a ha
    rw [List.foldl_cons] at he
    have hb : f s b = s := by
      rcases (hs b (List.mem_cons_self ..) s h0).2 with e | ⟨e, _⟩
      · exact e
      · exfalso
        rcases (DropG.fold (fun c hc => hs c (List.mem_cons_of_mem _ hc)) (hs b (List.mem_cons_self ..) s h0).1).2 with e' | ⟨e', _⟩
        · rw [e', e] at he
          cases he
        · rw [e'] at he
          cases he
    rcases List.mem_cons.1 ha with rfl | ha
    · exact hb
    · rw [hb] at he
      exact ih (fun c hc => hs c (List.mem_cons_of_mem _ hc)) h0 h he a ha
theorem passG_closed (hc : OfferG c rs n) {T : CT} (hT : SmallG T) (h : (passG c rs n (T, false)).2 = false) {q i j m : Nat} (hq : q < rs.length) (hij : i ≤ j) (hj : j < n) (hm : c T q i j = some m) : ∃ o, T (rul rs q).1.toNat i j = some o ∧ o ≤ m := by
  have h1 := DropG.still (I := SmallG) (f := ruleG c rs n) (fun q hq s hs => ruleG_drop hc (List.mem_range.1 hq) hs) hT rfl h q (List.mem_range.2 hq)
  have h2 := DropG.still (I := SmallG) (f := rowG c rs n q) (l := List.range n) (s := (T, false)) (fun i hi s hs => rowG_drop hc hq hs i) hT rfl (by
    show (ruleG c rs n (T, false) q).2 = false
    rw [h1]) i (List.mem_range.2 (by omega))
  have h3 := DropG.still (I := SmallG) (f := stepG c rs q i) (l := List.range' i (n - i)) (s := (T, false)) (fun j hj s hs => by
    rw [List.mem_range'_1] at hj
    exact stepG_drop hc hq hj.1 (by omega) hs) hT rfl (by
    show (rowG c rs n q (T, false) i).2 = false
    rw [h2]) j (List.mem_range'_1.2 ⟨hij, by omega⟩)
  unfold stepG at h3
  rw [hm] at h3
  dsimp only at h3
  by_cases hb : better m (T (rul rs q).1.toNat i j) = true
  · rw [if_pos hb] at h3
    have := congrArg Prod.snd h3
    cases this
  · cases ho : T (rul rs q).1.toNat i j with
    | none =>
      rw [ho] at hb
      exact absurd rfl hb
    | some o =>
      refine ⟨o, rfl, ?_⟩
      rw [ho] at hb
      by_cases hlt : m < o
      · exact absurd (decide_eq_true hlt) hb
      · omega
theorem FixG.closed (hc : OfferG c rs n) {T U : CT} (h : FixG c rs n T U) (hT : SmallG T) : (passG c rs n (U, false)).2 = false := by
  induction h with
  | done h1 =>
    rename_i T
    have h2 : (passG c rs n (T, false)).1 = T := by
      rcases (passG_drop hc (s := (T, false)) hT).2 with e | ⟨e, _⟩
      · rw [e]
      · rw [e] at h1
        cases h1
    rw [h2]
    exact h1
  | more h1 h2 ih => exact ih (passG_drop hc (s := (_, false)) hT).1
end
/-- What a loop over passes keeps. -/
def fixSt (c : CandG) (rs : List RuleL) (n : Nat) (s : GS) : Prop := if s.2 = true then ∀ U, FixG c rs n s.1 U → FixG c rs n noCT U else FixG c rs n noCT s.1
theorem fixSt_next {c : CandG} {rs : List RuleL} {n : Nat} {T : CT} (h : fixSt c rs n (T, true)) : fixSt c rs n (passG c rs n (T, false)) := by
  unfold fixSt at h ⊢
  rw [if_pos rfl] at h
  cases hc : (passG c rs n (T, false)).2
  · rw [if_neg (by decide)]
    exact h _ (.done hc)
  · rw [if_pos rfl]
    exact fun U hU => h U (.more hc hU)
end Go.Sh

/- Mending: the table of the reference, where the rest may be left out behind any symbols, and the program's, where it may not, are the same in the end. -/
set_option linter.unusedVariables false
set_option linter.unusedSimpArgs false
set_option maxRecDepth 100000
namespace Go.Sh
open Go
def tokM (ws : List Int) (x : Int) (i j : Nat) : Option Nat := some (if ((ws.drop i).take (j - i)).contains (-1 - x) then j - i - 1 else max 1 (j - i))
def nlM (i j : Nat) : Option Nat := some (j - i)
def nl0 (i j : Nat) : Option Nat := if i = j then some 0 else none
def candS (rs : List RuleL) (ws : List Int) : CandG := fun T q i j => restG (tokM ws) nlM T (rul rs q).2 i j
def rowI (ws : List Int) (T : CT) (xs : List Int) (i j : Nat) : Option Nat := if xs = [] then some (j - i) else restG (tokM ws) nl0 T xs i j
def candI (rs : List RuleL) (ws : List Int) : CandG := fun T q i j => rowI ws T (rul rs q).2 i j
theorem tokM_small (ws : List Int) : ∀ x i j n, i ≤ j → tokM ws x i j = some n → n ≤ max 1 (j - i) := by
  intro x i j n _ h
  cases h
  split <;> omega
theorem nlM_small : ∀ i j n, nlM i j = some n → n ≤ j - i := by
  intro i j n h
  cases h
  exact Nat.le_refl _
theorem nl0_small : ∀ i j n, nl0 i j = some n → n ≤ j - i := by
  intro i j n h
  unfold nl0 at h
  split at h
  · cases h
    omega
  · cases h
theorem offerS {rs : List RuleL} {ws : List Int} {n : Nat} (hr : ∀ q, q < rs.length → (rul rs q).1.toNat < 6 ∧ (rul rs q).2.length ≤ 4) (hn : n ≤ 11) : OfferG (candS rs ws) rs n :=
  ⟨fun q hq => (hr q hq).1, hn, fun T q i j m hT hq hij hj hm => rest_cand hT (tokM_small ws) nlM_small (hr q hq).2 hij (d := 0) (by omega) hm⟩
theorem offerI {rs : List RuleL} {ws : List Int} {n : Nat} (hr : ∀ q, q < rs.length → (rul rs q).1.toNat < 6 ∧ (rul rs q).2.length ≤ 4) (hn : n ≤ 11) : OfferG (candI rs ws) rs n :=
  ⟨fun q hq => (hr q hq).1, hn, fun T q i j m hT hq hij hj hm => by
    unfold candI rowI at hm
    split at hm
    · cases hm
      exact gB_base
    · exact rest_cand hT (tokM_small ws) nl0_small (hr q hq).2 hij (d := 0) (by omega) hm⟩
/-- Each cost of the one is not less than one of the other. -/
def OverG (n : Nat) (T V : CT) : Prop := ∀ A i j a, i ≤ j → j < n → T A i j = some a → ∃ o, V A i j = some o ∧ o ≤ a
theorem over_put {n : Nat} {T V : CT} (h : OverG n T V) {A i j a : Nat} (hV : ∃ o, V A i j = some o ∧ o ≤ a) : OverG n (T.put A i j a) V := by
  intro A' i' j' a' hij hj hT
  unfold CT.put at hT
  split at hT
  · rename_i e
    obtain ⟨rfl, rfl, rfl⟩ := e
    cases hT
    exact hV
  · exact h _ _ _ _ hij hj hT
theorem over_none {n : Nat} {V : CT} : OverG n noCT V := fun A i j a _ _ h => by cases h
theorem addO_of {a b : Option Nat} {x y : Nat} (ha : a = some x) (hb : b = some y) : addO a b = some (x + y) := by rw [ha, hb]; rfl
theorem one_over {n : Nat} {T V : CT} {tok : Int → Nat → Nat → Option Nat} (h : OverG n T V) {x : Int} {i j a : Nat} (hij : i ≤ j) (hj : j < n) (ha : oneG tok T x i j = some a) : ∃ o, oneG tok V x i j = some o ∧ o ≤ a := by
  unfold oneG at ha ⊢
  split
  · rename_i hx
    rw [if_pos hx] at ha
    exact ⟨a, ha, Nat.le_refl _⟩
  · rename_i hx
    rw [if_neg hx] at ha
    exact h _ _ _ _ hij hj ha
theorem rest_over {n : Nat} {T V : CT} {tok : Int → Nat → Nat → Option Nat} {nl nl' : Nat → Nat → Option Nat} (h : OverG n T V) (hn : ∀ i j a, nl i j = some a → ∃ o, nl' i j = some o ∧ o ≤ a) : ∀ {xs : List Int} {i j a : Nat}, i ≤ j → j < n → restG tok nl T xs i j = some a → ∃ o, restG tok nl' V xs i j = some o ∧ o ≤ a := by
  intro xs
  induction xs with
  | nil => intro i j a _ _ ha; exact hn i j a ha
  | cons x xs ih =>
    intro i j a hij hj ha
    rw [restG] at ha
    obtain ⟨m, hm, h1⟩ := minF_some ha
    obtain ⟨p, q, h2, h3, rfl⟩ := addO_some h1
    obtain ⟨p', h4, h5⟩ := one_over h (by omega) (by omega) h2
    obtain ⟨q', h6, h7⟩ := ih (by omega) hj h3
    obtain ⟨o, h8, h9⟩ := minF_le (f := fun m => addO (oneG tok V x i (i + m)) (restG tok nl' V xs (i + m) j)) hm (addO_of h4 h6)
    exact ⟨o, h8, by omega⟩
/-- More may be left out behind. -/
def LaxG (n : Nat) (T V : CT) : Prop := ∀ A i m j a, i ≤ m → m ≤ j → j < n → T A i m = some a → ∃ o, V A i j = some o ∧ o ≤ a + (j - m)
theorem contains_more {l : List Int} {a b : Nat} {x : Int} (hab : a ≤ b) (h : (l.take a).contains x = true) : (l.take b).contains x = true := by
  rw [List.contains_iff_mem] at h ⊢
  exact (List.take_sublist_take_left hab).subset h
theorem tok_lax {ws : List Int} {x : Int} {i m j : Nat} (him : i ≤ m) (hmj : m ≤ j) {a : Nat} (h : tokM ws x i m = some a) : ∃ o, tokM ws x i j = some o ∧ o ≤ a + (j - m) := by
  refine ⟨_, rfl, ?_⟩
  cases h
  by_cases h1 : ((ws.drop i).take (m - i)).contains (-1 - x) = true
  · rw [if_pos h1, if_pos (contains_more (by omega) h1)]
    omega
  · rw [if_neg h1]
    split <;> omega
theorem one_lax {n : Nat} {T V : CT} {ws : List Int} (h : LaxG n T V) {x : Int} {i m j a : Nat} (him : i ≤ m) (hmj : m ≤ j) (hj : j < n) (ha : oneG (tokM ws) T x i m = some a) : ∃ o, oneG (tokM ws) V x i j = some o ∧ o ≤ a + (j - m) := by
  unfold oneG at ha ⊢
  split
  · rename_i hx
    rw [if_pos hx] at ha
    exact tok_lax him hmj ha
  · rename_i hx
    rw [if_neg hx] at ha
    exact h _ _ _ _ _ him hmj hj ha
/-- The last symbol takes what is left over. -/
theorem rest_lax {n : Nat} {T V : CT} {ws : List Int} (h : LaxG n T V) : ∀ {xs : List Int}, xs ≠ [] → ∀ {i m j a : Nat}, i ≤ m → m ≤ j → j < n → restG (tokM ws) nl0 T xs i m = some a → ∃ o, restG (tokM ws) nl0 V xs i j = some o ∧ o ≤ a + (j - m) := by
  intro xs
  induction xs with
  | nil => intro h; exact absurd rfl h
  | cons x xs ih =>
    intro _ i m j a him hmj hj ha
    rw [restG] at ha
    obtain ⟨k, hk, h1⟩ := minF_some ha
    obtain ⟨p, q, h2, h3, rfl⟩ := addO_some h1
    by_cases hx : xs = []
    · subst hx
      rw [restG] at h3
      unfold nl0 at h3
      split at h3
      · rename_i e
        subst e
        cases h3
        obtain ⟨p', h4, h5⟩ := one_lax h (by omega) hmj hj h2
        obtain ⟨o, h8, h9⟩ := minF_le (f := fun m => addO (oneG (tokM ws) V x i (i + m)) (restG (tokM ws) nl0 V [] (i + m) j)) (k := j + 1 - i) (m := j - i) (by omega) (addO_of (x := p') (y := 0) (by rw [show i + (j - i) = j from by omega]; exact h4) (by rw [restG, show i + (j - i) = j from by omega]; exact if_pos rfl))
        exact ⟨o, h8, by omega⟩
      · cases h3
    · obtain ⟨p', h4, h5⟩ := one_lax h (j := i + k) (by omega) (Nat.le_refl _) (by omega) h2
      obtain ⟨q', h6, h7⟩ := ih hx (by omega) hmj hj h3
      obtain ⟨o, h8, h9⟩ := minF_le (f := fun m => addO (oneG (tokM ws) V x i (i + m)) (restG (tokM ws) nl0 V xs (i + m) j)) (k := j + 1 - i) (m := k) (by omega) (addO_of h4 h6)
      exact ⟨o, h8, by omega⟩
/-- Where the rest may be left out, the last symbol takes it. -/
theorem rest_cut {n : Nat} {T V : CT} {ws : List Int} (h : LaxG n T V) : ∀ {xs : List Int}, xs ≠ [] → ∀ {i j a : Nat}, i ≤ j → j < n → restG (tokM ws) nlM T xs i j = some a → ∃ o, restG (tokM ws) nl0 V xs i j = some o ∧ o ≤ a := by
  intro xs
  induction xs with
  | nil => intro h; exact absurd rfl h
  | cons x xs ih =>
    intro _ i j a hij hj ha
    rw [restG] at ha
    obtain ⟨k, hk, h1⟩ := minF_some ha
    obtain ⟨p, q, h2, h3, rfl⟩ := addO_some h1
    by_cases hx : xs = []
    · subst hx
      rw [restG] at h3
      cases h3
      obtain ⟨p', h4, h5⟩ := one_lax h (m := i + k) (j := j) (by omega) (by omega) hj h2
      obtain ⟨o, h8, h9⟩ := minF_le (f := fun m => addO (oneG (tokM ws) V x i (i + m)) (restG (tokM ws) nl0 V [] (i + m) j)) (k := j + 1 - i) (m := j - i) (by omega) (addO_of (x := p') (y := 0) (by rw [show i + (j - i) = j from by omega]; exact h4) (by rw [restG, show i + (j - i) = j from by omega]; exact if_pos rfl))
      exact ⟨o, h8, by omega⟩
    · obtain ⟨p', h4, h5⟩ := one_lax h (j := i + k) (by omega) (Nat.le_refl _) (by omega) h2
      obtain ⟨q', h6, h7⟩ := ih hx (by omega) hj h3
      obtain ⟨o, h8, h9⟩ := minF_le (f := fun m => addO (oneG (tokM ws) V x i (i + m)) (restG (tokM ws) nl0 V xs (i + m) j)) (k := j + 1 - i) (m := k) (by omega) (addO_of h4 h6)
      exact ⟨o, h8, by omega⟩
/-- Both tables. -/
theorem mend_same {rs : List RuleL} {ws : List Int} {n : Nat} {U V : CT} (hr : ∀ q, q < rs.length → (rul rs q).1.toNat < 6 ∧ (rul rs q).2.length ≤ 4) (hn : n ≤ 11) (hU : FixG (candS rs ws) rs n noCT U) (hV : FixG (candI rs ws) rs n noCT V) {A i j : Nat} (hij : i ≤ j) (hj : j < n) : U A i j = V A i j := by
  have oS := offerS (ws := ws) hr hn
  have oI := offerI (ws := ws) hr hn
  have sU := hU.small oS smallG_none
  have sV := hV.small oI smallG_none
  have cU : ∀ {q i j m : Nat}, q < rs.length → i ≤ j → j < n → candS rs ws U q i j = some m → ∃ o, U (rul rs q).1.toNat i j = some o ∧ o ≤ m := fun hq hij hj hm => passG_closed oS sU (hU.closed oS smallG_none) hq hij hj hm
  have cV : ∀ {q i j m : Nat}, q < rs.length → i ≤ j → j < n → candI rs ws V q i j = some m → ∃ o, V (rul rs q).1.toNat i j = some o ∧ o ≤ m := fun hq hij hj hm => passG_closed oI sV (hV.closed oI smallG_none) hq hij hj hm
  have lV : LaxG n V V := by
    refine hV.keep (I := fun T => LaxG n T V) (fun T q i m a hq him hm hT hc hb => ?_) (fun A i m j a _ _ _ h => by cases h)
    intro A' i' m' j' a' h1 h2 h3 h4
    unfold CT.put at h4
    split at h4
    · rename_i e
      obtain ⟨rfl, rfl, rfl⟩ := e
      cases h4
      unfold candI rowI at hc
      split at hc
      · rename_i e0
        cases hc
        obtain ⟨o, h5, h6⟩ := cV hq (i := i') (j := j') (m := j' - i') (by omega) h3 (by unfold candI rowI; rw [if_pos e0])
        exact ⟨o, h5, by omega⟩
      · rename_i e0
        obtain ⟨o1, h5, h6⟩ := rest_lax hT e0 h1 h2 h3 hc
        obtain ⟨o, h7, h8⟩ := cV hq (i := i') (j := j') (m := o1) (by omega) h3 (by unfold candI rowI; rw [if_neg e0]; exact h5)
        exact ⟨o, h7, by omega⟩
    · exact hT _ _ _ _ _ h1 h2 h3 h4
  have oUV : OverG n U V := by
    refine hU.keep (I := fun T => OverG n T V) (fun T q i j a hq hij hj hT hc hb => over_put hT ?_) over_none
    have lT : LaxG n T V := fun A i m j a h1 h2 h3 h4 => by
      obtain ⟨o1, h5, h6⟩ := hT _ _ _ _ h1 (by omega) h4
      obtain ⟨o, h7, h8⟩ := lV _ _ _ _ _ h1 h2 h3 h5
      exact ⟨o, h7, by omega⟩
    unfold candS at hc
    by_cases e0 : (rul rs q).2 = []
    · rw [e0] at hc
      rw [restG] at hc
      cases hc
      exact cV hq hij hj (by unfold candI rowI; rw [if_pos e0])
    · obtain ⟨o1, h5, h6⟩ := rest_cut lT e0 hij hj hc
      obtain ⟨o, h7, h8⟩ := cV hq hij hj (m := o1) (by unfold candI rowI; rw [if_neg e0]; exact h5)
      exact ⟨o, h7, by omega⟩
  have oVU : OverG n V U := by
    refine hV.keep (I := fun T => OverG n T U) (fun T q i j a hq hij hj hT hc hb => over_put hT ?_) over_none
    unfold candI rowI at hc
    split at hc
    · rename_i e0
      exact cU hq hij hj (by unfold candS; rw [e0, restG]; exact hc)
    · obtain ⟨o1, h5, h6⟩ := rest_over (nl' := nlM) hT (fun i j a h => by
        unfold nl0 at h
        split at h
        · cases h
          exact ⟨_, rfl, by omega⟩
        · cases h) hij hj hc
      obtain ⟨o, h7, h8⟩ := cU hq hij hj (m := o1) h5
      exact ⟨o, h7, by omega⟩
  cases h1 : U A i j with
  | none =>
    cases h2 : V A i j with
    | none => rfl
    | some b =>
      obtain ⟨o, h3, _⟩ := oVU _ _ _ _ hij hj h2
      rw [h1] at h3
      cases h3
  | some a =>
    obtain ⟨o, h3, h4⟩ := oUV _ _ _ _ hij hj h1
    obtain ⟨o', h5, h6⟩ := oVU _ _ _ _ hij hj h3
    rw [h1] at h5
    cases h5
    rw [h3]
    congr 1
    omega
end Go.Sh

/- Least costs of trees: what rows cost, and that costs are at least 1. -/
set_option linter.unusedVariables false
set_option linter.unusedSimpArgs false
set_option maxRecDepth 100000
namespace Go.Sh
open Go
/-- The numbers that tell costs. -/
def encM : Option Nat → Int
  | none => -1
  | some n => n
end Go.Sh

/- Tables of costs in memory: rows of the reference, cells of the program. -/
set_option linter.unusedVariables false
set_option linter.unusedSimpArgs false
set_option maxRecDepth 100000
namespace Go.Sh
open Go
structure TabE (enc : Option Nat → Int) (w : World) (U : Option Addr) (nons n : Nat) (T : CT) : Prop where
  ptr : 0 < nons → U = some (ad U)
  row : ∀ x, x < nons → ∃ R c, w.cell? ((ad U).add x) = some (.slice R (n * n) c) ∧ R = some (ad R) ∧ ∀ i j, i < n → j < n → w.cell? ((ad R).add (i * n + j)) = some (.int .i64 (enc (T x i j)))
  cap : ∀ x R c, x < nons → w.cell? ((ad U).add x) = some (.slice R (n * n) c) → n * n ≤ c
theorem TabE.gr {enc : Option Nat → Int} {w w' : World} {U : Option Addr} {nons n : Nat} {T : CT} (h : TabE enc w U nons n T) (g : Gr w w') : TabE enc w' U nons n T := ⟨h.ptr, fun x hx => by
  obtain ⟨R, c, h1, h2, h3⟩ := h.row x hx
  exact ⟨R, c, g.cell h1, h2, fun i j hi hj => g.cell (h3 i j hi hj)⟩, fun x R c hx hc => by
  obtain ⟨R', c', h1, _, _⟩ := h.row x hx
  have h4 := g.cell h1
  rw [hc] at h4
  cases h4
  exact h.cap x _ _ hx h1⟩
def rowE (enc : Option Nat → Int) (T : CT) (n x : Nat) : List Value := (List.range (n * n)).map fun p => .int .i64 (enc (T x (p / n) (p % n)))
def rowsE (enc : Option Nat → Int) (T : CT) (nons n : Nat) : List (List Value) := (List.range nons).map (rowE enc T n)
section
variable {enc : Option Nat → Int} {T : CT}
theorem rowE_length (n x : Nat) : (rowE enc T n x).length = n * n := by simp [rowE]
theorem rowsE_length (nons n : Nat) : (rowsE enc T nons n).length = nons := by simp [rowsE]
theorem vls_rowsE {nons n x : Nat} (h : x < nons) : vls (rowsE enc T nons n) x = rowE enc T n x := by
  rw [vls_eq (by rw [rowsE_length]; exact h)]
  simp [rowsE]
theorem rowE_at {n x i j : Nat} (hi : i < n) (hj : j < n) : (rowE enc T n x)[i * n + j]? = some (.int .i64 (enc (T x i j))) := by
  have hn : 0 < n := by omega
  have e1 : (i * n + j) / n = i := by rw [Nat.mul_comm, Nat.mul_add_div hn, Nat.div_eq_of_lt hj, Nat.add_zero]
  have e2 : (i * n + j) % n = j := by rw [Nat.mul_comm, Nat.mul_add_mod, Nat.mod_eq_of_lt hj]
  simp [rowE, place_lt hi hj, e1, e2]
theorem rowE_put {n x i j m : Nat} (hi : i < n) (hj : j < n) : (rowE enc T n x).set (i * n + j) (.int .i64 (enc (some m))) = rowE enc (T.put x i j m) n x := by
  have hn : 0 < n := by omega
  refine List.ext_getElem? fun p => ?_
  rw [List.getElem?_set]
  by_cases hp : i * n + j = p
  · subst hp
    rw [if_pos rfl, if_pos (by rw [rowE_length]; exact place_lt hi hj), rowE_at hi hj]
    simp [CT.put]
  · rw [if_neg hp]
    simp only [rowE, List.getElem?_map]
    by_cases hlt : p < n * n
    · simp only [List.getElem?_range hlt, Option.map_some, CT.put]
      have : ¬ (p / n = i ∧ p % n = j) := by
        rintro ⟨h1, h2⟩
        apply hp
        have := Nat.div_add_mod p n
        rw [h1, h2, Nat.mul_comm] at this
        exact this
      rw [if_neg (fun h => this h.2)]
    · rw [List.getElem?_eq_none (by simp; omega)]
      rfl
theorem rowE_other {n x y i j m : Nat} (h : y ≠ x) : rowE enc (T.put x i j m) n y = rowE enc T n y := by
  simp [rowE, CT.put, h]
theorem rowsE_put {nons n x i j m : Nat} (hx : x < nons) (hi : i < n) (hj : j < n) : (rowsE enc T nons n).set x ((vls (rowsE enc T nons n) x).set (i * n + j) (.int .i64 (enc (some m)))) = rowsE enc (T.put x i j m) nons n := by
  rw [vls_rowsE hx, rowE_put hi hj]
  refine List.ext_getElem? fun p => ?_
  rw [List.getElem?_set]
  by_cases hp : x = p
  · subst hp
    rw [if_pos rfl, if_pos (by rw [rowsE_length]; exact hx)]
    simp [rowsE, hx]
  · rw [if_neg hp]
    by_cases hlt : p < nons
    · simp [rowsE, hlt, rowE_other (fun e => hp e.symm)]
    · rw [List.getElem?_eq_none (by rw [rowsE_length]; omega), List.getElem?_eq_none (by rw [rowsE_length]; omega)]
theorem OwnV.tabE {e1 e2 : Nat} {w : World} {B c nons n : Nat} {X : Option Addr} {ps : Nat → Option Addr × Nat} (h : OwnV e1 e2 w B X c (rowsE enc T nons n) ps) (hn : 0 < n) : TabE enc w X nons n T := by
  have key : ∀ x, x < nons → w.cell? ((ad X).add x) = some (.slice (ps x).1 (n * n) (ps x).2) ∧ Row w B e2 1 (ps x).1 (n * n) (ps x).2 (rowE enc T n x) := fun x hx => by
    have hx' : x < (rowsE enc T nons n).length := by rw [rowsE_length]; exact hx
    have hc := h.cell hx'
    have ho := h.own x hx'
    rw [vls_rowsE hx, rowE_length] at hc ho
    exact ⟨hc, ho⟩
  refine ⟨fun hp => h.ptr (by rw [rowsE_length]; exact hp), fun x hx => ?_, fun x R c hx hc => ?_⟩
  · obtain ⟨hc, ho⟩ := key x hx
    exact ⟨_, _, hc, ho.ptr (Nat.mul_pos hn hn), fun i j hi hj => ho.src.cell _ _ (rowE_at hi hj)⟩
  · obtain ⟨hc', ho⟩ := key x hx
    rw [hc] at hc'
    cases hc'
    exact ho.cap.1
end
theorem rowE_none (enc : Option Nat → Int) (n x : Nat) : rowE enc noCT n x = List.replicate (n * n) (.int .i64 (enc none)) := by
  refine List.ext_getElem? fun i => ?_
  by_cases h : i < n * n
  · simp [rowE, h, noCT]
  · rw [List.getElem?_eq_none (by rw [rowE_length]; omega), List.getElem?_eq_none (by simp; omega)]
/-! The program's cells. -/
def cellsE (d : Nat) (T : CT) : List Value := (List.range (6 * (d * d))).map fun p => .int .i64 (encM (T (p / (d * d)) (p % (d * d) / d) (p % (d * d) % d)))
theorem cellsE_length (d : Nat) (T : CT) : (cellsE d T).length = 6 * (d * d) := by simp [cellsE]
theorem spot_eq {d A i j : Nat} (hi : i < d) (hj : j < d) : (A * (d * d) + (i * d + j)) / (d * d) = A ∧ (A * (d * d) + (i * d + j)) % (d * d) / d = i ∧ (A * (d * d) + (i * d + j)) % (d * d) % d = j := by
  have hp := place_lt hi hj
  have hd : 0 < d := by omega
  have hdd : 0 < d * d := Nat.mul_pos hd hd
  have e1 : (A * (d * d) + (i * d + j)) % (d * d) = i * d + j := by rw [Nat.mul_comm A, Nat.mul_add_mod, Nat.mod_eq_of_lt hp]
  refine ⟨by rw [Nat.mul_comm A, Nat.mul_add_div hdd, Nat.div_eq_of_lt hp, Nat.add_zero], ?_, ?_⟩
  · rw [e1, Nat.mul_comm i, Nat.mul_add_div hd, Nat.div_eq_of_lt hj, Nat.add_zero]
  · rw [e1, Nat.mul_comm i, Nat.mul_add_mod, Nat.mod_eq_of_lt hj]
theorem spot_lt {d A i j : Nat} (hA : A < 6) (hi : i < d) (hj : j < d) : A * (d * d) + (i * d + j) < 6 * (d * d) := by
  have h1 := place_lt hi hj
  have h2 : (A + 1) * (d * d) ≤ 6 * (d * d) := Nat.mul_le_mul_right _ hA
  rw [Nat.add_mul] at h2
  omega
theorem cellsE_at {d : Nat} {T : CT} {A i j : Nat} (hA : A < 6) (hi : i < d) (hj : j < d) : (cellsE d T)[A * (d * d) + (i * d + j)]? = some (.int .i64 (encM (T A i j))) := by
  obtain ⟨e1, e2, e3⟩ := spot_eq (A := A) hi hj
  simp only [cellsE, List.getElem?_map]
  rw [List.getElem?_range (spot_lt hA hi hj)]
  simp only [Option.map_some, e1, e2, e3]
theorem cellsE_put {d : Nat} {T : CT} {A i j m : Nat} (hA : A < 6) (hi : i < d) (hj : j < d) : (cellsE d T).set (A * (d * d) + (i * d + j)) (.int .i64 (m : Int)) = cellsE d (T.put A i j m) := by
  refine List.ext_getElem? fun p => ?_
  rw [List.getElem?_set]
  by_cases hp : A * (d * d) + (i * d + j) = p
  · subst hp
    rw [if_pos rfl, if_pos (by rw [cellsE_length]; exact spot_lt hA hi hj), cellsE_at hA hi hj]
    simp [CT.put, encM]
  · rw [if_neg hp]
    simp only [cellsE, List.getElem?_map]
    by_cases hlt : p < 6 * (d * d)
    · rw [List.getElem?_range hlt]
      simp only [Option.map_some, CT.put]
      rw [if_neg]
      rintro ⟨h1, h2, h3⟩
      apply hp
      have e1 := Nat.div_add_mod p (d * d)
      have e2 := Nat.div_add_mod (p % (d * d)) d
      rw [h1, Nat.mul_comm] at e1
      rw [h2, h3, Nat.mul_comm] at e2
      omega
    · rw [List.getElem?_eq_none (by simp; omega)]
      rfl
theorem cellsE_none (d : Nat) : cellsE d noCT = List.replicate (6 * (d * d)) (.int .i64 (-1)) := by
  show (List.range (6 * (d * d))).map (fun _ => Value.int .i64 (-1)) = _
  rw [List.map_const', List.length_range]
/-! What tables tell. -/
def segT (T : CT) (n A i : Nat) : List Int := (List.range' i (n - i)).map fun j => encM (T A i j)
def partT (T : CT) (n A : Nat) (i : Nat) : List Int := (List.range i).flatMap fun i => segT T n A i
def tellT (T : CT) (n : Nat) (A : Nat) : List Int := (List.range A).flatMap fun A => partT T n A n
theorem segT_len (T : CT) (n A i : Nat) : (segT T n A i).length = n - i := by simp [segT]
theorem partT_next (T : CT) (n A i : Nat) : partT T n A (i + 1) = partT T n A i ++ segT T n A i := by
  unfold partT
  rw [List.range_succ, List.flatMap_append, List.flatMap_singleton]
theorem tellT_next (T : CT) (n A : Nat) : tellT T n (A + 1) = tellT T n A ++ partT T n A n := by
  unfold tellT
  rw [List.range_succ, List.flatMap_append, List.flatMap_singleton]
theorem partT_len (T : CT) (n A : Nat) : ∀ i, (partT T n A i).length ≤ i * n := by
  intro i
  induction i with
  | zero => simp [partT]
  | succ i ih =>
    rw [partT_next, List.length_append, segT_len, Nat.add_mul]
    omega
theorem tellT_len (T : CT) (n : Nat) : ∀ A, (tellT T n A).length ≤ A * (n * n) := by
  intro A
  induction A with
  | zero => simp [tellT]
  | succ A ih =>
    have := partT_len T n A n
    rw [tellT_next, List.length_append, Nat.add_mul]
    omega
theorem segT_congr {T U : CT} {n A i : Nat} (h : ∀ j, i ≤ j → j < n → T A i j = U A i j) : segT T n A i = segT U n A i := by
  unfold segT
  refine List.map_congr_left fun j hj => ?_
  rw [List.mem_range'_1] at hj
  rw [h j hj.1 (by omega)]
theorem partT_congr {T U : CT} {n A : Nat} (h : ∀ i j, i ≤ j → j < n → T A i j = U A i j) : ∀ i, partT T n A i = partT U n A i := by
  intro i
  induction i with
  | zero => rfl
  | succ i ih => rw [partT_next, partT_next, ih, segT_congr fun j => h i j]
theorem tellT_congr {T U : CT} {n : Nat} (h : ∀ A i j, i ≤ j → j < n → T A i j = U A i j) : ∀ A, tellT T n A = tellT U n A := by
  intro A
  induction A with
  | zero => rfl
  | succ A ih => rw [tellT_next, tellT_next, ih, partT_congr fun i j => h A i j]
def rowN (enc : Option Nat → Int) (T : CT) (n x : Nat) : List Int := (List.range (n * n)).map fun p => enc (T x (p / n) (p % n))
theorem rowN_length (enc : Option Nat → Int) (T : CT) (n x : Nat) : (rowN enc T n x).length = n * n := by simp [rowN]
theorem rowN_seg {T : CT} {n x i : Nat} (hi : i < n) : ((rowN encM T n x).drop (i * n + i)).take (n - i) = segT T n x i := by
  refine List.ext_getElem? fun p => ?_
  unfold segT rowN
  by_cases hp : p < n - i
  · have hj : i + p < n := by omega
    have hlt := place_lt (n := n) hi hj
    have hn : 0 < n := by omega
    have e1 : (i * n + i + p) / n = i := by rw [Nat.add_assoc, Nat.mul_comm, Nat.mul_add_div hn, Nat.div_eq_of_lt hj, Nat.add_zero]
    have e2 : (i * n + i + p) % n = i + p := by rw [Nat.add_assoc, Nat.mul_comm, Nat.mul_add_mod, Nat.mod_eq_of_lt hj]
    rw [List.getElem?_take_of_lt hp, List.getElem?_drop, List.getElem?_map, List.getElem?_map, List.getElem?_range (by omega), List.getElem?_range' hp]
    simp [e1, e2]
  · rw [List.getElem?_eq_none (by simp; omega), List.getElem?_eq_none (by simp; omega)]
theorem TabE.ints {enc : Option Nat → Int} {w : World} {U : Option Addr} {nons n : Nat} {T : CT} (h : TabE enc w U nons n T) (hn : n ≤ 11) {x : Nat} (hx : x < nons) : ∃ R c, w.cell? ((ad U).add x) = some (.slice R (n * n) c) ∧ n * n ≤ c ∧ Ints w R (rowN enc T n x) := by
  obtain ⟨R, c, h1, h2, h3⟩ := h.row x hx
  have hnn : n * n ≤ 11 * 11 := Nat.mul_le_mul hn hn
  refine ⟨R, c, h1, h.cap x R c hx h1, by rw [rowN_length]; omega, fun _ => h2, fun j hj => ?_⟩
  rw [rowN_length] at hj
  have hn0 : 0 < n := by
    cases n with
    | zero => simp at hj
    | succ n => omega
  have h4 := h3 (j / n) (j % n) (Nat.div_lt_of_lt_mul hj) (Nat.mod_lt _ hn0)
  rw [Nat.mul_comm (j / n), Nat.div_add_mod] at h4
  rw [h4]
  congr 2
  simp [rowN, List.getD_eq_getElem?_getD, hj]
/-! Comparing. -/
theorem encM_s (n : Nat) : encM (some n) = (n : Int) := rfl
theorem encM_n : encM none = -1 := rfl
theorem minO_lt {o n : Nat} (h : n < o) : minO (some o) (some n) = some n := by
  show (if better n (some o) = true then some n else some o) = _
  rw [if_pos (show better n (some o) = true from decide_eq_true h)]
theorem minO_ge {o n : Nat} (h : ¬ n < o) : minO (some o) (some n) = some o := by
  show (if better n (some o) = true then some n else some o) = _
  rw [if_neg (by rw [show better n (some o) = decide (n < o) from rfl, decide_eq_false h]; exact Bool.false_ne_true)]
end Go.Sh
