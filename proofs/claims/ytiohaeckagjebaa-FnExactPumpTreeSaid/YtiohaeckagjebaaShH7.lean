/- Contracts: marks in a grammar, and looks at them. -/
import Derived.Test.YtiohaeckagjebaaShH0
import Derived.Test.YtiohaeckagjebaaBc
set_option linter.unusedVariables false
set_option linter.unusedSimpArgs false
set_option maxRecDepth 100000
namespace Go.Sh
open Go
def markAt (m : Int) (rs : List RuleL) (j : Nat) : RuleL := (m + sizeR (rs.take j), marks (m + sizeR (rs.take j) + 1) (rul rs j).2.length)
def markR (m : Int) (rs : List RuleL) : List RuleL := (List.range rs.length).map (markAt m rs)
theorem markR_length (m : Int) (rs : List RuleL) : (markR m rs).length = rs.length := by simp [markR]
theorem rul_markR {m : Int} {rs : List RuleL} {j : Nat} (h : j < rs.length) : rul (markR m rs) j = markAt m rs j := by
  rw [rul_eq (by rw [markR_length]; exact h)]
  simp [markR]
theorem sizeR_take {rs : List RuleL} {i : Nat} (h : i < rs.length) : sizeR (rs.take (i + 1)) = sizeR (rs.take i) + 1 + (rul rs i).2.length := by
  unfold sizeR
  rw [lens_take h]
  simp
  omega
theorem sizeR_le {rs : List RuleL} {i : Nat} : sizeR (rs.take i) ≤ sizeR rs := by
  unfold sizeR
  have := @lens_le rs i
  simp
  omega
/-- The left side of one rule is written. -/
theorem OwnR.left {e1 e2 : Nat} {w w' : World} {B c i : Nat} {X : Option Addr} {rs : List RuleL} {ps : Nat → Option Addr × Nat} {m : Int} {cells : List Value} (h : OwnR e1 e2 w B X c rs ps) (he : e1 ≠ e2) (hi : i < rs.length) (hc : RCells cells rs ps) (hr0 : Row w B e1 2 X rs.length c cells) (hr : Row w' B e1 2 X rs.length c (cells.set (i * 2) (.int .i64 m))) (g : w.grownBy w' (blk X)) : OwnR e1 e2 w' B X c (rs.set i (m, (rul rs i).2)) ps := by
  have hl := hc.1
  refine ⟨⟨_, by rw [List.length_set]; exact hr, fun j hj => ?_⟩, fun j hj => ?_, fun a b ha hb hab => ?_⟩
  · rw [List.length_set] at hj
    obtain ⟨h1, h2⟩ := hc.2 j hj
    rw [rul_set hi]
    by_cases hij : j = i
    · subst hij
      rw [if_pos rfl]
      exact ⟨by rw [List.getElem?_set_self (by omega)], by rw [List.getElem?_set_ne (by omega)]; exact h2⟩
    · rw [if_neg hij]
      exact ⟨by rw [List.getElem?_set_ne (by omega)]; exact h1, by rw [List.getElem?_set_ne (by omega)]; exact h2⟩
  · rw [List.length_set] at hj
    have := Row.kept (h.own j hj) g (row_ne (h.own j hj) hr0 (fun e => he e.symm))
    rw [rul_set hi]
    by_cases hij : j = i
    · subst hij
      rw [if_pos rfl]
      exact this
    · rw [if_neg hij]
      exact this
  · rw [List.length_set] at ha hb
    exact h.two a b ha hb hab
/-- The right side of one rule is written. -/
theorem OwnR.right {e1 e2 : Nat} {w w' : World} {B c i : Nat} {X : Option Addr} {rs : List RuleL} {ps : Nat → Option Addr × Nat} {ys : List Int} (h : OwnR e1 e2 w B X c rs ps) (he : e1 ≠ e2) (hi : i < rs.length) (hl : ys.length = (rul rs i).2.length) (ho : Own e2 w' B (ps i).1 (ps i).2 ys) (g : w.grownBy w' (blk (ps i).1)) : OwnR e1 e2 w' B X c (rs.set i ((rul rs i).1, ys)) ps := by
  obtain ⟨cells, hr, hc⟩ := h.cells
  refine ⟨⟨cells, by rw [List.length_set]; exact Row.kept hr g (row_ne hr (h.own i hi) he), fun j hj => ?_⟩, fun j hj => ?_, fun a b ha hb hab => ?_⟩
  · rw [List.length_set] at hj
    obtain ⟨h1, h2⟩ := hc.2 j hj
    rw [rul_set hi]
    by_cases hij : j = i
    · subst hij
      rw [if_pos rfl]
      exact ⟨h1, by rw [h2, hl]⟩
    · rw [if_neg hij]
      exact ⟨h1, h2⟩
  · rw [List.length_set] at hj
    rw [rul_set hi]
    by_cases hij : j = i
    · subst hij
      rw [if_pos rfl]
      exact ho
    · rw [if_neg hij]
      exact Row.kept (h.own j hj) g (h.two j i hj hi hij)
  · rw [List.length_set] at ha hb
    exact h.two a b ha hb hab
/-- The blocks of rules that the call owns. -/
def Foot (X : Option Addr) (ps : Nat → Option Addr × Nat) (n : Nat) (q : Nat) : Prop := blk X = some q ∨ ∃ l, l < n ∧ blk (ps l).1 = some q
theorem OwnR.foot {e1 e2 : Nat} {w : World} {B c : Nat} {X : Option Addr} {rs : List RuleL} {ps : Nat → Option Addr × Nat} (h : OwnR e1 e2 w B X c rs ps) {q : Nat} (hq : Foot X ps rs.length q) : B ≤ q ∧ q < w.heap.size := by
  rcases hq with hq | ⟨l, hl, hq⟩
  · obtain ⟨cells, hr, _⟩ := h.cells
    exact Row.ge hr hq
  · exact Row.ge (h.own l hl) hq
theorem OwnR.foot_box {e1 e2 : Nat} {w : World} {B c b t : Nat} {X : Option Addr} {rs : List RuleL} {ps : Nat → Option Addr × Nat} {cs : List Value} (h : OwnR e1 e2 w B X c rs ps) (hb : Box w b cs t) (h1 : e1 ≠ t) (h2 : e2 ≠ t) : ¬ Foot X ps rs.length b := by
  rintro (hq | ⟨l, hl, hq⟩)
  · obtain ⟨cells, hr, _⟩ := h.cells
    exact box_row hb hr h1 hq
  · exact box_row hb (h.own l hl) h2 hq
theorem rul_part {rs qs : List RuleL} {i : Nat} (hl : rs.length = qs.length) (h : i < qs.length) : rul (rs.take i ++ qs.drop i) i = rul qs i := by
  have : (rs.take i).length = i := by simp; omega
  rw [rul_right (by omega), this, Nat.sub_self]
  simp [rul, List.getD_eq_getElem?_getD]
end Go.Sh
namespace Go.Proofs.Ytiohaeckagjebaa
open Go Go.Sh Go.RowKit

theorem markRuleS_c {w : World} {B c n : Nat} {X : Option Addr} {rs : List RuleL} {ps : Nat → Option Addr × Nat} {m : Int} (hx : OwnR 77 3 w B X c rs ps) (hn : n = rs.length) (h0 : 0 ≤ m) (h1 : m + sizeR rs ≤ 9223372036854775807) {k : Value → World → Prop}
    (hk : ∀ w', Gx (Foot X ps rs.length) w w' → OwnR 77 3 w' B X c (markR m rs) ps → k (.int .i64 (m + sizeR rs)) w') : CallK Try.prog 88 [.slice X n c, .int .i64 m] k w := by
  subst hn
  refine enter88 ?_
  unfold S88
  refine ⟨fun f w' => ∃ i : Nat, i ≤ rs.length ∧ f 5 = .int .i64 i ∧ f 1 = .int .i64 (m + sizeR (rs.take i)) ∧ Gx (Foot X ps rs.length) w w' ∧ OwnR 77 3 w' B X c ((markR m rs).take i ++ rs.drop i) ps, fun f _ => rs.length - (intOf (f 5)).toNat,
    ⟨0, Nat.zero_le _, rfl, by simp [sizeR, lens]; rfl, Gx.refl _ w, by simpa using hx⟩, ?_⟩
  rintro f w2 hag ⟨i, hi, h5, hf1, g2, o2⟩
  have f0 : f 0 = .slice X rs.length c := hag 0 (by decide)
  have hlen : ((markR m rs).take i ++ rs.drop i).length = rs.length := by simp [markR_length]; omega
  have hcap := hx.read.le
  simp only [f0, hf1, h5, go_sem, Nat.reduceEqDiff]
  by_cases hlt : i < rs.length
  · have hlt' : (i : Int) < rs.length := by omega
    simp only [hlt', decide_true, go_sem, Nat.reduceEqDiff]
    have hsz := sizeR_take hlt
    have hsl := @sizeR_le rs (i + 1)
    obtain ⟨cells, hr, hc⟩ := o2.cells
    rw [hlen] at hr
    have hp : 0 < rs.length → X = some (ad X) := fun h => Row.ptr hr h
    rw [ixn35 hp hlt, fa77_0, add_zero']
    refine do_store_row sz3 rfl rfl hr (by omega) fun w3 g3 s3 hr3 => ?_
    have o3 := o2.left (w' := w3) (i := i) (m := m + sizeR (rs.take i)) (cells := cells) (by decide) (by omega) hc (by rw [hlen]; exact hr) (by rw [hlen]; exact hr3) g3
    rw [rul_part (markR_length _ _) hlt] at o3
    rw [i64_of (by omega) (by omega), ixn35 hp hlt, fa77_1, add_add]
    obtain ⟨cells3, hr3', hc3⟩ := o3.cells
    have hl3 : (((markR m rs).take i ++ rs.drop i).set i (m + sizeR (rs.take i), (rul rs i).2)).length = rs.length := by rw [List.length_set]; exact hlen
    have hrul3 : rul (((markR m rs).take i ++ rs.drop i).set i (m + sizeR (rs.take i), (rul rs i).2)) i = (m + sizeR (rs.take i), (rul rs i).2) := by rw [rul_set (by omega), if_pos rfl]
    obtain ⟨_, hc31⟩ := hc3.2 i (by omega)
    rw [hrul3] at hc31
    dsimp only at hc31
    rw [ld22 ((Row.src hr3').cell _ _ hc31)]
    have oi := o3.own i (by omega)
    rw [hrul3] at oi
    dsimp only at oi
    refine markIntS_c oi rfl (by omega) (by omega) fun w4 g4 o4 => ?_
    have o5 := o3.right (by decide) (by omega) (by rw [hrul3, marks_length]) o4 g4
    rw [hrul3, List.set_set] at o5
    have hset : ((markR m rs).take i ++ rs.drop i).set i (m + sizeR (rs.take i), marks (m + sizeR (rs.take i) + 1) (rul rs i).2.length) = (markR m rs).take (i + 1) ++ rs.drop (i + 1) := by
      have e : rul (markR m rs) i = (m + sizeR (rs.take i), marks (m + sizeR (rs.take i) + 1) (rul rs i).2.length) := rul_markR hlt
      rw [← e]
      exact set_rul hlt (markR_length _ _)
    rw [hset] at o5
    rw [i64_of (by omega) (by omega)]
    have hG3 : Gx (Foot X ps rs.length) w w3 := g2.after (gx_of g3 (D := fun q => blk X = some q) fun q hq => hq) fun q hq hl => .inl hq
    have hG4 : Gx (Foot X ps rs.length) w w4 := hG3.after (gx_of g4 (D := fun q => blk (ps i).1 = some q) fun q hq => hq) fun q hq hl => .inr ⟨i, hlt, hq⟩
    refine ⟨⟨i + 1, hlt, rfl, ?_, hG4, o5⟩, ?_⟩
    · rw [hsz]
      congr 1
      omega
    · simp only [intOf]
      omega
  · have hi' : i = rs.length := by omega
    subst hi'
    simp only [Int.lt_irrefl, decide_false, go_sem, Nat.reduceEqDiff]
    rw [List.take_length, List.drop_length, List.append_nil, List.take_of_length_le (by rw [markR_length]; exact Nat.le_refl _)] at *
    exact hk w2 g2 o2
theorem markGrammar_c {w : World} {B c n : Nat} {X : Option Addr} {ps : Nat → Option Addr × Nat} {gm : Gram} {m : Int} (ho : OwnR 77 3 w B X c gm.rules ps) (hn : n = gm.rules.length) (h0 : 0 ≤ m) (h1 : m + sizeR gm.rules ≤ 9223372036854775807) {k : Value → World → Prop}
    (hk : ∀ w', Gx (Foot X ps gm.rules.length) w w' → OwnR 77 3 w' B X c (markR m gm.rules) ps → k (.int .i64 (m + sizeR gm.rules)) w') : CallK Try.prog 36 [.agg #[.int .i64 gm.nons, .int .i64 gm.toks, .slice X n c], .int .i64 m] k w := by
  refine enter36 ?_
  unfold S36
  refine do_box fun b w1 g1 hb1 hB => ?_
  simp only [go_sem, Nat.reduceEqDiff]
  rw [ldB35 hB rfl]
  refine markRuleS_c (ho.gr g1) hn h0 h1 fun w2 g2 o2 => ?_
  exact hk w2 ((gx_of_gr g1 _).trans g2) o2
theorem heldRuleS_c {F : Nat → Prop} {w : World} {X : Option Addr} {c n : Nat} {rs : List RuleL} {m : Int} (hx : RulesF F w X (markR m rs)) (hn : n = rs.length) (h0 : 0 ≤ m) (h1 : m + sizeR rs ≤ 9223372036854775807) {k : Value → World → Prop}
    (hk : ∀ w', Gr w w' → k (.int .i64 (m + sizeR rs)) w') : CallK Try.prog 89 [.slice X n c, .int .i64 m] k w := by
  subst hn
  refine enter89 ?_
  unfold S89
  refine ⟨fun f w' => ∃ i : Nat, i ≤ rs.length ∧ f 5 = .int .i64 i ∧ f 1 = .int .i64 (m + sizeR (rs.take i)) ∧ Gr w w', fun f _ => rs.length - (intOf (f 5)).toNat,
    ⟨0, Nat.zero_le _, rfl, by simp [sizeR, lens]; rfl, Gr.refl w⟩, ?_⟩
  rintro f w2 hag ⟨i, hi, h5, hf1, g2⟩
  have f0 : f 0 = .slice X rs.length c := hag 0 (by decide)
  have hll := markR_length m rs
  have hle := hx.le
  simp only [f0, hf1, h5, go_sem, Nat.reduceEqDiff]
  by_cases hlt : i < rs.length
  · have hlt' : (i : Int) < rs.length := by omega
    simp only [hlt', decide_true, go_sem, Nat.reduceEqDiff]
    have hsz := sizeR_take hlt
    have hsl := @sizeR_le rs (i + 1)
    obtain ⟨Y, y, h2, h3, h4, h6⟩ := (hx.gr g2).row i (by omega)
    rw [rul_markR hlt] at h2 h3 h4 h6
    simp only [markAt, marks_length] at h2 h3 h4 h6
    have hp : 0 < rs.length → X = some (ad X) := fun h => hx.ptr (by omega)
    rw [ixn35 hp hlt, fa77_0, add_zero', ld3 h2]
    simp only [decide_true, Bool.not_true, go_sem, Nat.reduceEqDiff]
    rw [i64_of (by omega) (by omega), ixn35 hp hlt, fa77_1, add_add, ld22 h3]
    refine heldIntS_c h6.is rfl (by omega) (by omega) fun w3 g3 => ?_
    simp only [show ¬ (m + sizeR (rs.take i) + 1 + (rul rs i).2.length < 0) from by omega, decide_false, go_sem, Nat.reduceEqDiff]
    rw [i64_of (by omega) (by omega)]
    refine ⟨⟨i + 1, hlt, rfl, ?_, gr_trans g2 g3⟩, ?_⟩
    · rw [hsz]
      congr 1
      omega
    · simp only [intOf]
      omega
  · have hi' : i = rs.length := by omega
    subst hi'
    simp only [Int.lt_irrefl, decide_false, go_sem, Nat.reduceEqDiff]
    rw [List.take_length] at *
    exact hk w2 g2
theorem heldGrammar_c {F : Nat → Prop} {w : World} {v : Value} {gm : Gram} {m : Int} (hv : GramV F w v ⟨gm.nons, gm.toks, markR m gm.rules⟩) (h0 : 0 ≤ m) (h1 : m + sizeR gm.rules ≤ 9223372036854775807) {k : Value → World → Prop}
    (hk : ∀ w', Gr w w' → k (.int .i64 (m + sizeR gm.rules)) w') : CallK Try.prog 37 [v, .int .i64 m] k w := by
  obtain ⟨X, c, rfl, hc, hx⟩ := hv
  refine enter37 ?_
  unfold S37
  refine do_box fun b w1 g1 hb1 hB => ?_
  simp only [go_sem, Nat.reduceEqDiff]
  rw [ldB35 hB rfl]
  refine heldRuleS_c (hx.gr g1) (markR_length _ _) h0 h1 fun w2 g2 => ?_
  simp only [show ¬ (m + sizeR gm.rules < 0) from by omega, decide_false, go_sem, Nat.reduceEqDiff]
  exact hk w2 (gr_trans g1 g2)
end Go.Proofs.Ytiohaeckagjebaa
