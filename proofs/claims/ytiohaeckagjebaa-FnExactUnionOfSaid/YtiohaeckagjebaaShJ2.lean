/- The laws of JoinOf and UnionOf, over their contracts. -/
import Derived.Test.YtiohaeckagjebaaShJ1
import Derived.Test.YtiohaeckagjebaaShH8
set_option linter.unusedVariables false
set_option linter.unusedSimpArgs false
set_option maxRecDepth 100000
namespace Go.Sh
open Go
theorem joinV_size {a b : Gram} : sizeR (resG (joinV a b)).rules ≤ 80 := by
  unfold joinV
  split
  · exact madeV_size
  · simp [resG, sizeR, lens]
theorem unionV_size {a b : Gram} : sizeR (resG (unionV a b)).rules ≤ 80 := by
  unfold unionV
  split
  · exact madeV_size
  · simp [resG, sizeR, lens]
theorem left_le {n : Int} {s : Nat} (h : 0 ≤ n) : left n s ≤ n := by
  unfold left
  split <;> omega
theorem Apt.setRules {w0 w w' : World} {L : List Thing} (H : Apt w0 w L) (i : Nat) {e1 e2 B c : Nat} {X : Option Addr} {rs rs' : List RuleL} {ps : Nat → Option Addr × Nat} (hi : L[i]? = some (rls e1 e2 X c rs ps)) (hl : rs'.length = rs.length) (g : Gx (Foot X ps rs.length) w w') (h : OwnR e1 e2 w' B X c rs' ps) : Apt w0 w' (L.set i (rls e1 e2 X c rs' ps)) :=
  H.set hi g (fun q hq => .inl (show Foot X ps rs.length q from hl ▸ (show Foot X ps rs'.length q from hq))) (fun q hq => (h.foot hq).2) (rls_kept h)
section
variable {P : Program} {S : WS} {k : Value → Prop}
theorem bin_lss_false {t : TypeId} {c : Bool} {kd : IntKind} {x y : Int} (h : ¬ x < y) : Rd P S (sBin .lss t c (.int kd x) (.int kd y)) k = k (.bool false) := by rw [bin_lss, decide_eq_false h]
theorem bin_neqi_same {t : TypeId} {c : Bool} {kd : IntKind} {x : Int} : Rd P S (sBin .neq t c (.int kd x) (.int kd x)) k = k (.bool false) := by rw [bin_neq, decide_eq_true rfl]; rfl
end
end Go.Sh
namespace Go.Proofs.Ytiohaeckagjebaa
open Go Go.Sh Go.RowKit
theorem bin_neq_same {S : WS} {k : Value → Prop} {c x : Bool} : Rd Try.prog S (sBin .neq 4 c (.bool x) (.bool x)) k = k (.bool false) := by
  rw [bin_neq_bool Try.underlying4, beq_self_eq_true]
  rfl
theorem eqGrammar_same {F E : Nat → Prop} {w : World} {v u : Value} {a : Gram} (hv : GramV F w v a) (hu : GramV E w u a) {k : Value → World → Prop} (hk : ∀ w', Gr w w' → k (.bool true) w') : CallK Try.prog 33 [v, u] k w :=
  eqGrammar_c hv hu fun w' g => by
    rw [decide_eq_true rfl]
    exact hk w' g

set_option maxHeartbeats 2000000 in
theorem law_JoinOf {w : World} {v u : Value} {a b : Gram} (hv : GramV (fun q => q < w.heap.size) w v a) (hu : GramV (fun q => q < w.heap.size) w u b) {k : Value → World → Prop} (hk : ∀ w', Gr w w' → k (.bool true) w') :
    CallK Try.prog 6 [v, u] k w := by
  obtain ⟨Y, c, rfl, hc, hy⟩ := hv
  obtain ⟨Z, d, rfl, hd, hz⟩ := hu
  refine enter6 ?_
  unfold S6
  have H := Apt.nil w
  refine boxH H fun b0 w1 H => ?_
  refine boxH H fun b1 w2 H => ?_
  refine rdi (ldB_agg agg31 sz31 rfl (H.box 0 rfl)) ?_
  refine szGrammar_c (gm := a) ⟨Y, c, rfl, hc, hy.gr H.gr⟩ (by decide) (by decide) fun w3 g3 => ?_
  have H := H.step g3
  refine rdi bin_lss ?_
  refine cond_split (fun hs => hk _ H.gr) fun hs => ?_
  have hs := of_decide_eq_false hs
  have hsz := left_ok hs
  have hle := left_le (n := 1048576) (s := sizeR a.rules) (by decide)
  refine rdi (ldB_agg agg31 sz31 rfl (H.box 1 rfl)) ?_
  refine szGrammar_c (gm := b) ⟨Z, d, rfl, hd, hz.gr H.gr⟩ (by omega) (by omega) fun w4 g4 => ?_
  have H := H.step g4
  refine rdi bin_lss ?_
  refine cond_split (fun hs => hk _ H.gr) fun hs2 => ?_
  have hs2 := of_decide_eq_false hs2
  have hsz2 := left_ok hs2
  have hlV : sizeR (resG (joinV a b)).rules ≤ 80 := joinV_size
  have hml := markR_length 1 (resG (joinV a b)).rules
  have H := H.drew
  refine join_as (fun f w' => ∃ (b6 : Nat) (XS : Option Addr) (cS : Nat) (psS : Nat → Option Addr × Nat), f 2 = .pointer (some ⟨b0, 0, none⟩) ∧ f 3 = .pointer (some ⟨b1, 0, none⟩) ∧ f 6 = .pointer (some ⟨b6, 0, none⟩) ∧ f 7 = .bool (joinV a b).isSome ∧ Apt w4.drew w' [bx b6 [.int .i64 (resG (joinV a b)).nons, .int .i64 (resG (joinV a b)).toks, .slice XS (resG (joinV a b)).rules.length cS] 37, rls 77 3 XS cS (resG (joinV a b)).rules psS]) ?_ ?_
  · intro K hK
    refine ⟨fun w' => Gr w4.drew w', Gr.refl _, ?_⟩
    refine rdi (rdG_agg agg31 sz31 rfl (H.box 0 rfl)) (rdi (rdG_agg agg31 sz31 rfl (H.box 1 rfl)) ?_)
    have G := Apt.nil w4.drew
    refine ⟨?_, ?_⟩
    · refine toGrammar_c (gm := a) ⟨Y, c, rfl, hc, hy.gr (gr_trans H.gr G.gr)⟩ (by omega) fun va wa ga oa => ?_
      have G := G.step ga
      refine ⟨G.gr, ?_⟩
      refine ⟨?_, ?_⟩
      · refine toGrammar_c (gm := b) ⟨Z, d, rfl, hd, hz.gr (gr_trans H.gr G.gr)⟩ (by omega) fun vb wb gb ob => ?_
        have G := G.step gb
        refine ⟨G.gr, ?_⟩
        refine ⟨?_, ?_⟩
        · refine specJoinOf_c (oa.read.gr gb) (ob.read) (fun q hq => Nat.lt_of_lt_of_le hq.2 (gb).size) (fun q hq => hq.2) fun vs ws gs rs => ?_
          obtain ⟨XS, cS, psS, rfl, oS⟩ := rs.own
          have G := G.addRules gs oS
          refine ⟨G.gr, ?_⟩
          refine rdi extract_two_0 (rdi extract_two_1 ?_)
          refine do_alloc_of inf37 fun bn wn gn hbn hBn => ?_
          have G := G.addBox gn hbn hBn
          refine ⟨G.gr, ?_⟩
          refine storeH G 1 rfl sz37 rfl rfl rfl fun wz G => ?_
          refine ⟨G.gr, hK _ _ ⟨_, XS, cS, psS, rfl, rfl, rfl, rfl, G.swap⟩⟩
        · refine do_alloc_of inf37 fun bn wn gn hbn hBn => ?_
          have G := G.addBox gn hbn hBn
          refine ⟨G.gr, ?_⟩
          refine specJoinOf_c (oa.read.gr (gr_trans gb gn)) (ob.read.gr gn) (fun q hq => Nat.lt_of_lt_of_le hq.2 ((gr_trans gb gn)).size) (fun q hq => Nat.lt_of_lt_of_le hq.2 (gn).size) fun vs ws gs rs => ?_
          obtain ⟨XS, cS, psS, rfl, oS⟩ := rs.own
          have G := G.addRules gs oS
          refine ⟨G.gr, ?_⟩
          refine rdi extract_two_0 (rdi extract_two_1 ?_)
          refine storeH G 0 rfl sz37 rfl rfl rfl fun wz G => ?_
          refine ⟨G.gr, hK _ _ ⟨_, XS, cS, psS, rfl, rfl, rfl, rfl, G⟩⟩
      · refine do_alloc_of inf37 fun bn wn gn hbn hBn => ?_
        have G := G.addBox gn hbn hBn
        refine ⟨G.gr, ?_⟩
        refine toGrammar_c (gm := b) ⟨Z, d, rfl, hd, hz.gr (gr_trans H.gr G.gr)⟩ (by omega) fun vb wb gb ob => ?_
        have G := G.step gb
        refine ⟨G.gr, ?_⟩
        refine specJoinOf_c (oa.read.gr (gr_trans gn gb)) (ob.read) (fun q hq => Nat.lt_of_lt_of_le hq.2 ((gr_trans gn gb)).size) (fun q hq => hq.2) fun vs ws gs rs => ?_
        obtain ⟨XS, cS, psS, rfl, oS⟩ := rs.own
        have G := G.addRules gs oS
        refine ⟨G.gr, ?_⟩
        refine rdi extract_two_0 (rdi extract_two_1 ?_)
        refine storeH G 0 rfl sz37 rfl rfl rfl fun wz G => ?_
        refine ⟨G.gr, hK _ _ ⟨_, XS, cS, psS, rfl, rfl, rfl, rfl, G⟩⟩
    · refine do_alloc_of inf37 fun bn wn gn hbn hBn => ?_
      have G := G.addBox gn hbn hBn
      refine ⟨G.gr, ?_⟩
      refine toGrammar_c (gm := a) ⟨Y, c, rfl, hc, hy.gr (gr_trans H.gr G.gr)⟩ (by omega) fun va wa ga oa => ?_
      have G := G.step ga
      refine ⟨G.gr, ?_⟩
      refine toGrammar_c (gm := b) ⟨Z, d, rfl, hd, hz.gr (gr_trans H.gr G.gr)⟩ (by omega) fun vb wb gb ob => ?_
      have G := G.step gb
      refine ⟨G.gr, ?_⟩
      refine specJoinOf_c (oa.read.gr gb) (ob.read) (fun q hq => Nat.lt_of_lt_of_le hq.2 (gb).size) (fun q hq => hq.2) fun vs ws gs rs => ?_
      obtain ⟨XS, cS, psS, rfl, oS⟩ := rs.own
      have G := G.addRules gs oS
      refine ⟨G.gr, ?_⟩
      refine rdi extract_two_0 (rdi extract_two_1 ?_)
      refine storeH G 0 rfl sz37 rfl rfl rfl fun wz G => ?_
      refine ⟨G.gr, hK _ _ ⟨_, XS, cS, psS, rfl, rfl, rfl, rfl, G⟩⟩
  rintro f5 w5 ⟨b6, XS, cS, psS, e2, e3, e6, e7, G⟩
  have H := H.append G
  simp only [List.nil_append, List.cons_append, List.set_cons_zero, List.set_cons_succ] at H
  simp only [e2, e3, e6, e7]
  refine rdi (ldB_agg agg31 sz31 rfl (H.box 0 rfl)) ?_
  refine toGrammar_c (gm := a) ⟨Y, c, rfl, hc, hy.gr H.gr⟩ (by omega) fun vA w6 g6 oA => ?_
  obtain ⟨XA, cA, psA, rfl, oA⟩ := oA
  have H := H.addRules g6 oA
  refine allocH H inf37 fun b8 w7 H => ?_
  refine storeH H 5 rfl sz37 rfl rfl rfl fun w8 H => ?_
  simp only [List.nil_append, List.cons_append, List.set_cons_zero, List.set_cons_succ] at H
  refine rdi (ldB_agg agg31 sz31 rfl (H.box 1 rfl)) ?_
  refine toGrammar_c (gm := b) ⟨Z, d, rfl, hd, hz.gr H.gr⟩ (by omega) fun vB w9 g9 oB => ?_
  obtain ⟨XB, cB, psB, rfl, oB⟩ := oB
  have H := H.addRules g9 oB
  refine allocH H inf37 fun b9 w10 H => ?_
  refine storeH H 7 rfl sz37 rfl rfl rfl fun w11 H => ?_
  simp only [List.nil_append, List.cons_append, List.set_cons_zero, List.set_cons_succ] at H
  refine rdi (ldB_agg agg37 sz37 rfl (H.box 5 rfl)) (rdi (ldB_agg agg37 sz37 rfl (H.box 7 rfl)) ?_)
  refine implJoinOf_c (a := a) (b := b) (rls_gramV (gm := a) (H.rules 4 rfl)) (rls_gramV (gm := b) (H.rules 6 rfl)) fun vI w12 g12 rI => ?_
  obtain ⟨XI, cI, psI, rfl, oI⟩ := rI.own
  refine rdi extract_two_0 (rdi extract_two_1 ?_)
  have H := H.addRules g12 oI
  refine allocH H inf37 fun b10 w13 H => ?_
  refine storeH H 9 rfl sz37 rfl rfl rfl fun w14 H => ?_
  simp only [List.nil_append, List.cons_append, List.set_cons_zero, List.set_cons_succ] at H
  refine rdi (ldB_agg agg37 sz37 rfl (H.box 9 rfl)) (rdi (ldB_agg agg37 sz37 rfl (H.box 2 rfl)) ?_)
  refine eqGrammar_same (rls_gramV (gm := resG (joinV a b)) (H.rules 8 rfl)) (rls_gramV (gm := resG (joinV a b)) (H.rules 3 rfl)) fun w15 g15 => ?_
  have H := H.step g15
  refine rdi un_not (rdi guard_ff (rdi guard_ff (rdi guard_ff (rdi bin_neq_same (rdi pick_false (rdi cond_false' ?_))))))
  have H := H.drew
  refine ⟨fun w' => Gr w15.drew w', Gr.refl _, ?_⟩
  refine rdi (rdG_agg agg37 sz37 rfl (H.box 5 rfl)) (rdi (rdG_agg agg31 sz31 rfl (H.box 0 rfl)) ?_)
  refine toGrammar_c (gm := a) ⟨Y, c, rfl, hc, hy.gr H.gr⟩ (by omega) fun vA' w16 g16 oA' => ?_
  refine ⟨g16, ?_⟩
  have H := H.step g16
  refine eqGrammar_same (rls_gramV (gm := a) (H.rules 4 rfl)) oA'.read fun w17 g17 => ?_
  have H := H.step g17
  refine rdi un_not (rdi cond_false' ?_)
  have H := H.drew
  refine ⟨fun w' => Gr w17.drew w', Gr.refl _, ?_⟩
  refine rdi (rdG_agg agg37 sz37 rfl (H.box 7 rfl)) (rdi (rdG_agg agg31 sz31 rfl (H.box 1 rfl)) ?_)
  refine toGrammar_c (gm := b) ⟨Z, d, rfl, hd, hz.gr H.gr⟩ (by omega) fun vB' w18 g18 oB' => ?_
  refine ⟨g18, ?_⟩
  have H := H.step g18
  refine eqGrammar_same (rls_gramV (gm := b) (H.rules 6 rfl)) oB'.read fun w19 g19 => ?_
  have H := H.step g19
  refine rdi un_not (rdi cond_false' ?_)
  refine rdi (ldB_agg agg37 sz37 rfl (H.box 5 rfl)) ?_
  refine markGrammar_c (gm := a) (H.rules 4 rfl) rfl (by decide) (by omega) fun w20 g20 o20 => ?_
  have H := H.setRules 4 rfl (markR_length 1 a.rules) g20 o20
  simp only [List.nil_append, List.cons_append, List.set_cons_zero, List.set_cons_succ] at H
  refine rdi (ldB_agg agg37 sz37 rfl (H.box 7 rfl)) ?_
  refine markGrammar_c (gm := b) (H.rules 6 rfl) rfl (by omega) (by omega) fun w21 g21 o21 => ?_
  have H := H.setRules 6 rfl (markR_length _ b.rules) g21 o21
  simp only [List.nil_append, List.cons_append, List.set_cons_zero, List.set_cons_succ] at H
  refine rdi (bin_lss_false (by omega)) (rdi guard_ff (rdi (ldB_agg agg37 sz37 rfl (H.box 9 rfl)) (rdi guard_ff (rdi (ldB_agg agg37 sz37 rfl (H.box 2 rfl)) (rdi guard_ff ?_)))))
  refine eqGrammar_same (rls_gramV (gm := resG (joinV a b)) (H.rules 8 rfl)) (rls_gramV (gm := resG (joinV a b)) (H.rules 3 rfl)) fun w22 g22 => ?_
  have H := H.step g22
  refine rdi guard_ff (rdi un_not (rdi pick_false (rdi guard_ff (rdi guard_ff (rdi guard_ff (rdi bin_neq_same (rdi pick_false (rdi cond_false' ?_))))))))
  refine rdi (ldB_agg agg37 sz37 rfl (H.box 9 rfl)) ?_
  refine markGrammar_c (gm := resG (joinV a b)) (H.rules 8 rfl) rfl (by decide) (by omega) fun w23 g23 o23 => ?_
  have H := H.setRules 8 rfl hml g23 o23
  simp only [List.nil_append, List.cons_append, List.set_cons_zero, List.set_cons_succ] at H
  refine rdi (ldB_agg agg37 sz37 rfl (H.box 9 rfl)) ?_
  have vM : ∀ w' : World, OwnR 77 3 w' w.heap.size XI cI (markR 1 (resG (joinV a b)).rules) psI → GramV (fun _ => True) w' (.agg #[.int .i64 (resG (joinV a b)).nons, .int .i64 (resG (joinV a b)).toks, .slice XI (resG (joinV a b)).rules.length cI]) ⟨(resG (joinV a b)).nons, (resG (joinV a b)).toks, markR 1 (resG (joinV a b)).rules⟩ := fun w' h => by
    have := rls_gramV (gm := ⟨(resG (joinV a b)).nons, (resG (joinV a b)).toks, markR 1 (resG (joinV a b)).rules⟩) h
    simpa only [hml] using this
  refine heldGrammar_c (gm := resG (joinV a b)) (vM _ (H.rules 8 rfl)) (by decide) (by omega) fun w24 g24 => ?_
  have H := H.step g24
  refine rdi (bin_lss_false (by omega)) (rdi cond_false' (rdi bin_neqi_same (rdi cond_false' ?_)))
  have H := H.drew
  refine join_as (fun f w' => ∃ (b6' : Nat) (XS' : Option Addr) (cS' : Nat) (psS' : Nat → Option Addr × Nat), f 6 = .pointer (some ⟨b6, 0, none⟩) ∧ f 7 = .bool (joinV a b).isSome ∧ f 10 = .pointer (some ⟨b10, 0, none⟩) ∧ f 13 = .int .i64 (1 + (sizeR (resG (joinV a b)).rules : Nat)) ∧ f 15 = .pointer (some ⟨b6', 0, none⟩) ∧ f 16 = .bool (joinV a b).isSome ∧ Apt w24.drew w' [bx b6' [.int .i64 (resG (joinV a b)).nons, .int .i64 (resG (joinV a b)).toks, .slice XS' (resG (joinV a b)).rules.length cS'] 37, rls 77 3 XS' cS' (resG (joinV a b)).rules psS']) ?_ ?_
  · intro K hK
    refine ⟨fun w' => Gr w24.drew w', Gr.refl _, ?_⟩
    refine rdi (rdG_agg agg31 sz31 rfl (H.box 0 rfl)) (rdi (rdG_agg agg31 sz31 rfl (H.box 1 rfl)) ?_)
    have G := Apt.nil w24.drew
    refine ⟨?_, ?_⟩
    · refine toGrammar_c (gm := a) ⟨Y, c, rfl, hc, hy.gr (gr_trans H.gr G.gr)⟩ (by omega) fun va wa ga oa => ?_
      have G := G.step ga
      refine ⟨G.gr, ?_⟩
      refine ⟨?_, ?_⟩
      · refine toGrammar_c (gm := b) ⟨Z, d, rfl, hd, hz.gr (gr_trans H.gr G.gr)⟩ (by omega) fun vb wb gb ob => ?_
        have G := G.step gb
        refine ⟨G.gr, ?_⟩
        refine ⟨?_, ?_⟩
        · refine implJoinOf_c (oa.read.gr gb) (ob.read) fun vs ws gs rs => ?_
          obtain ⟨XS, cS, psS, rfl, oS⟩ := rs.own
          have G := G.addRules gs oS
          refine ⟨G.gr, ?_⟩
          refine rdi extract_two_0 (rdi extract_two_1 ?_)
          refine do_alloc_of inf37 fun bn wn gn hbn hBn => ?_
          have G := G.addBox gn hbn hBn
          refine ⟨G.gr, ?_⟩
          refine storeH G 1 rfl sz37 rfl rfl rfl fun wz G => ?_
          refine ⟨G.gr, hK _ _ ⟨_, XS, cS, psS, e6, e7, rfl, rfl, rfl, rfl, G.swap⟩⟩
        · refine do_alloc_of inf37 fun bn wn gn hbn hBn => ?_
          have G := G.addBox gn hbn hBn
          refine ⟨G.gr, ?_⟩
          refine implJoinOf_c (oa.read.gr (gr_trans gb gn)) (ob.read.gr gn) fun vs ws gs rs => ?_
          obtain ⟨XS, cS, psS, rfl, oS⟩ := rs.own
          have G := G.addRules gs oS
          refine ⟨G.gr, ?_⟩
          refine rdi extract_two_0 (rdi extract_two_1 ?_)
          refine storeH G 0 rfl sz37 rfl rfl rfl fun wz G => ?_
          refine ⟨G.gr, hK _ _ ⟨_, XS, cS, psS, e6, e7, rfl, rfl, rfl, rfl, G⟩⟩
      · refine do_alloc_of inf37 fun bn wn gn hbn hBn => ?_
        have G := G.addBox gn hbn hBn
        refine ⟨G.gr, ?_⟩
        refine toGrammar_c (gm := b) ⟨Z, d, rfl, hd, hz.gr (gr_trans H.gr G.gr)⟩ (by omega) fun vb wb gb ob => ?_
        have G := G.step gb
        refine ⟨G.gr, ?_⟩
        refine implJoinOf_c (oa.read.gr (gr_trans gn gb)) (ob.read) fun vs ws gs rs => ?_
        obtain ⟨XS, cS, psS, rfl, oS⟩ := rs.own
        have G := G.addRules gs oS
        refine ⟨G.gr, ?_⟩
        refine rdi extract_two_0 (rdi extract_two_1 ?_)
        refine storeH G 0 rfl sz37 rfl rfl rfl fun wz G => ?_
        refine ⟨G.gr, hK _ _ ⟨_, XS, cS, psS, e6, e7, rfl, rfl, rfl, rfl, G⟩⟩
    · refine do_alloc_of inf37 fun bn wn gn hbn hBn => ?_
      have G := G.addBox gn hbn hBn
      refine ⟨G.gr, ?_⟩
      refine toGrammar_c (gm := a) ⟨Y, c, rfl, hc, hy.gr (gr_trans H.gr G.gr)⟩ (by omega) fun va wa ga oa => ?_
      have G := G.step ga
      refine ⟨G.gr, ?_⟩
      refine toGrammar_c (gm := b) ⟨Z, d, rfl, hd, hz.gr (gr_trans H.gr G.gr)⟩ (by omega) fun vb wb gb ob => ?_
      have G := G.step gb
      refine ⟨G.gr, ?_⟩
      refine implJoinOf_c (oa.read.gr gb) (ob.read) fun vs ws gs rs => ?_
      obtain ⟨XS, cS, psS, rfl, oS⟩ := rs.own
      have G := G.addRules gs oS
      refine ⟨G.gr, ?_⟩
      refine rdi extract_two_0 (rdi extract_two_1 ?_)
      refine storeH G 0 rfl sz37 rfl rfl rfl fun wz G => ?_
      refine ⟨G.gr, hK _ _ ⟨_, XS, cS, psS, e6, e7, rfl, rfl, rfl, rfl, G⟩⟩
  rintro f25 w25 ⟨b12, XJ, cJ, psJ, e6', e7', e10', e13', e15', e16', G'⟩
  have H := H.append G'
  simp only [List.nil_append, List.cons_append, List.set_cons_zero, List.set_cons_succ] at H
  simp only [e6', e7', e10', e13', e15', e16']
  refine rdi (ldB_agg agg37 sz37 rfl (H.box 10 rfl)) (rdi (ldB_agg agg37 sz37 rfl (H.box 2 rfl)) ?_)
  refine eqGrammar_same (rls_gramV (gm := resG (joinV a b)) (H.rules 11 rfl)) (rls_gramV (gm := resG (joinV a b)) (H.rules 3 rfl)) fun w26 g26 => ?_
  have H := H.step g26
  refine rdi un_not (rdi guard_ff (rdi guard_ff (rdi guard_ff (rdi bin_neq_same (rdi pick_false (rdi cond_false' ?_))))))
  refine rdi (ldB_agg agg37 sz37 rfl (H.box 9 rfl)) ?_
  refine heldGrammar_c (gm := resG (joinV a b)) (vM _ (H.rules 8 rfl)) (by decide) (by omega) fun w27 g27 => ?_
  have H := H.step g27
  refine rdi (bin_lss_false (by omega)) (rdi cond_false' (rdi bin_neqi_same (rdi cond_false' ?_)))
  exact hk _ H.gr
set_option maxHeartbeats 2000000 in
theorem law_UnionOf {w : World} {v u : Value} {a b : Gram} (hv : GramV (fun q => q < w.heap.size) w v a) (hu : GramV (fun q => q < w.heap.size) w u b) {k : Value → World → Prop} (hk : ∀ w', Gr w w' → k (.bool true) w') :
    CallK Try.prog 7 [v, u] k w := by
  obtain ⟨Y, c, rfl, hc, hy⟩ := hv
  obtain ⟨Z, d, rfl, hd, hz⟩ := hu
  refine enter7 ?_
  unfold S7
  have H := Apt.nil w
  refine boxH H fun b0 w1 H => ?_
  refine boxH H fun b1 w2 H => ?_
  refine rdi (ldB_agg agg31 sz31 rfl (H.box 0 rfl)) ?_
  refine szGrammar_c (gm := a) ⟨Y, c, rfl, hc, hy.gr H.gr⟩ (by decide) (by decide) fun w3 g3 => ?_
  have H := H.step g3
  refine rdi bin_lss ?_
  refine cond_split (fun hs => hk _ H.gr) fun hs => ?_
  have hs := of_decide_eq_false hs
  have hsz := left_ok hs
  have hle := left_le (n := 1048576) (s := sizeR a.rules) (by decide)
  refine rdi (ldB_agg agg31 sz31 rfl (H.box 1 rfl)) ?_
  refine szGrammar_c (gm := b) ⟨Z, d, rfl, hd, hz.gr H.gr⟩ (by omega) (by omega) fun w4 g4 => ?_
  have H := H.step g4
  refine rdi bin_lss ?_
  refine cond_split (fun hs => hk _ H.gr) fun hs2 => ?_
  have hs2 := of_decide_eq_false hs2
  have hsz2 := left_ok hs2
  have hlV : sizeR (resG (unionV a b)).rules ≤ 80 := unionV_size
  have hml := markR_length 1 (resG (unionV a b)).rules
  have H := H.drew
  refine join_as (fun f w' => ∃ (b6 : Nat) (XS : Option Addr) (cS : Nat) (psS : Nat → Option Addr × Nat), f 2 = .pointer (some ⟨b0, 0, none⟩) ∧ f 3 = .pointer (some ⟨b1, 0, none⟩) ∧ f 6 = .pointer (some ⟨b6, 0, none⟩) ∧ f 7 = .bool (unionV a b).isSome ∧ Apt w4.drew w' [bx b6 [.int .i64 (resG (unionV a b)).nons, .int .i64 (resG (unionV a b)).toks, .slice XS (resG (unionV a b)).rules.length cS] 37, rls 77 3 XS cS (resG (unionV a b)).rules psS]) ?_ ?_
  · intro K hK
    refine ⟨fun w' => Gr w4.drew w', Gr.refl _, ?_⟩
    refine rdi (rdG_agg agg31 sz31 rfl (H.box 0 rfl)) (rdi (rdG_agg agg31 sz31 rfl (H.box 1 rfl)) ?_)
    have G := Apt.nil w4.drew
    refine ⟨?_, ?_⟩
    · refine toGrammar_c (gm := a) ⟨Y, c, rfl, hc, hy.gr (gr_trans H.gr G.gr)⟩ (by omega) fun va wa ga oa => ?_
      have G := G.step ga
      refine ⟨G.gr, ?_⟩
      refine ⟨?_, ?_⟩
      · refine toGrammar_c (gm := b) ⟨Z, d, rfl, hd, hz.gr (gr_trans H.gr G.gr)⟩ (by omega) fun vb wb gb ob => ?_
        have G := G.step gb
        refine ⟨G.gr, ?_⟩
        refine ⟨?_, ?_⟩
        · refine specUnionOf_c (oa.read.gr gb) (ob.read) (fun q hq => Nat.lt_of_lt_of_le hq.2 (gb).size) (fun q hq => hq.2) fun vs ws gs rs => ?_
          obtain ⟨XS, cS, psS, rfl, oS⟩ := rs.own
          have G := G.addRules gs oS
          refine ⟨G.gr, ?_⟩
          refine rdi extract_two_0 (rdi extract_two_1 ?_)
          refine do_alloc_of inf37 fun bn wn gn hbn hBn => ?_
          have G := G.addBox gn hbn hBn
          refine ⟨G.gr, ?_⟩
          refine storeH G 1 rfl sz37 rfl rfl rfl fun wz G => ?_
          refine ⟨G.gr, hK _ _ ⟨_, XS, cS, psS, rfl, rfl, rfl, rfl, G.swap⟩⟩
        · refine do_alloc_of inf37 fun bn wn gn hbn hBn => ?_
          have G := G.addBox gn hbn hBn
          refine ⟨G.gr, ?_⟩
          refine specUnionOf_c (oa.read.gr (gr_trans gb gn)) (ob.read.gr gn) (fun q hq => Nat.lt_of_lt_of_le hq.2 ((gr_trans gb gn)).size) (fun q hq => Nat.lt_of_lt_of_le hq.2 (gn).size) fun vs ws gs rs => ?_
          obtain ⟨XS, cS, psS, rfl, oS⟩ := rs.own
          have G := G.addRules gs oS
          refine ⟨G.gr, ?_⟩
          refine rdi extract_two_0 (rdi extract_two_1 ?_)
          refine storeH G 0 rfl sz37 rfl rfl rfl fun wz G => ?_
          refine ⟨G.gr, hK _ _ ⟨_, XS, cS, psS, rfl, rfl, rfl, rfl, G⟩⟩
      · refine do_alloc_of inf37 fun bn wn gn hbn hBn => ?_
        have G := G.addBox gn hbn hBn
        refine ⟨G.gr, ?_⟩
        refine toGrammar_c (gm := b) ⟨Z, d, rfl, hd, hz.gr (gr_trans H.gr G.gr)⟩ (by omega) fun vb wb gb ob => ?_
        have G := G.step gb
        refine ⟨G.gr, ?_⟩
        refine specUnionOf_c (oa.read.gr (gr_trans gn gb)) (ob.read) (fun q hq => Nat.lt_of_lt_of_le hq.2 ((gr_trans gn gb)).size) (fun q hq => hq.2) fun vs ws gs rs => ?_
        obtain ⟨XS, cS, psS, rfl, oS⟩ := rs.own
        have G := G.addRules gs oS
        refine ⟨G.gr, ?_⟩
        refine rdi extract_two_0 (rdi extract_two_1 ?_)
        refine storeH G 0 rfl sz37 rfl rfl rfl fun wz G => ?_
        refine ⟨G.gr, hK _ _ ⟨_, XS, cS, psS, rfl, rfl, rfl, rfl, G⟩⟩
    · refine do_alloc_of inf37 fun bn wn gn hbn hBn => ?_
      have G := G.addBox gn hbn hBn
      refine ⟨G.gr, ?_⟩
      refine toGrammar_c (gm := a) ⟨Y, c, rfl, hc, hy.gr (gr_trans H.gr G.gr)⟩ (by omega) fun va wa ga oa => ?_
      have G := G.step ga
      refine ⟨G.gr, ?_⟩
      refine toGrammar_c (gm := b) ⟨Z, d, rfl, hd, hz.gr (gr_trans H.gr G.gr)⟩ (by omega) fun vb wb gb ob => ?_
      have G := G.step gb
      refine ⟨G.gr, ?_⟩
      refine specUnionOf_c (oa.read.gr gb) (ob.read) (fun q hq => Nat.lt_of_lt_of_le hq.2 (gb).size) (fun q hq => hq.2) fun vs ws gs rs => ?_
      obtain ⟨XS, cS, psS, rfl, oS⟩ := rs.own
      have G := G.addRules gs oS
      refine ⟨G.gr, ?_⟩
      refine rdi extract_two_0 (rdi extract_two_1 ?_)
      refine storeH G 0 rfl sz37 rfl rfl rfl fun wz G => ?_
      refine ⟨G.gr, hK _ _ ⟨_, XS, cS, psS, rfl, rfl, rfl, rfl, G⟩⟩
  rintro f5 w5 ⟨b6, XS, cS, psS, e2, e3, e6, e7, G⟩
  have H := H.append G
  simp only [List.nil_append, List.cons_append, List.set_cons_zero, List.set_cons_succ] at H
  simp only [e2, e3, e6, e7]
  refine rdi (ldB_agg agg31 sz31 rfl (H.box 0 rfl)) ?_
  refine toGrammar_c (gm := a) ⟨Y, c, rfl, hc, hy.gr H.gr⟩ (by omega) fun vA w6 g6 oA => ?_
  obtain ⟨XA, cA, psA, rfl, oA⟩ := oA
  have H := H.addRules g6 oA
  refine allocH H inf37 fun b8 w7 H => ?_
  refine storeH H 5 rfl sz37 rfl rfl rfl fun w8 H => ?_
  simp only [List.nil_append, List.cons_append, List.set_cons_zero, List.set_cons_succ] at H
  refine rdi (ldB_agg agg31 sz31 rfl (H.box 1 rfl)) ?_
  refine toGrammar_c (gm := b) ⟨Z, d, rfl, hd, hz.gr H.gr⟩ (by omega) fun vB w9 g9 oB => ?_
  obtain ⟨XB, cB, psB, rfl, oB⟩ := oB
  have H := H.addRules g9 oB
  refine allocH H inf37 fun b9 w10 H => ?_
  refine storeH H 7 rfl sz37 rfl rfl rfl fun w11 H => ?_
  simp only [List.nil_append, List.cons_append, List.set_cons_zero, List.set_cons_succ] at H
  refine rdi (ldB_agg agg37 sz37 rfl (H.box 5 rfl)) (rdi (ldB_agg agg37 sz37 rfl (H.box 7 rfl)) ?_)
  refine implUnionOf_c (a := a) (b := b) (rls_gramV (gm := a) (H.rules 4 rfl)) (rls_gramV (gm := b) (H.rules 6 rfl)) fun vI w12 g12 rI => ?_
  obtain ⟨XI, cI, psI, rfl, oI⟩ := rI.own
  refine rdi extract_two_0 (rdi extract_two_1 ?_)
  have H := H.addRules g12 oI
  refine allocH H inf37 fun b10 w13 H => ?_
  refine storeH H 9 rfl sz37 rfl rfl rfl fun w14 H => ?_
  simp only [List.nil_append, List.cons_append, List.set_cons_zero, List.set_cons_succ] at H
  refine rdi (ldB_agg agg37 sz37 rfl (H.box 9 rfl)) (rdi (ldB_agg agg37 sz37 rfl (H.box 2 rfl)) ?_)
  refine eqGrammar_same (rls_gramV (gm := resG (unionV a b)) (H.rules 8 rfl)) (rls_gramV (gm := resG (unionV a b)) (H.rules 3 rfl)) fun w15 g15 => ?_
  have H := H.step g15
  refine rdi un_not (rdi guard_ff (rdi guard_ff (rdi guard_ff (rdi bin_neq_same (rdi pick_false (rdi cond_false' ?_))))))
  have H := H.drew
  refine ⟨fun w' => Gr w15.drew w', Gr.refl _, ?_⟩
  refine rdi (rdG_agg agg37 sz37 rfl (H.box 5 rfl)) (rdi (rdG_agg agg31 sz31 rfl (H.box 0 rfl)) ?_)
  refine toGrammar_c (gm := a) ⟨Y, c, rfl, hc, hy.gr H.gr⟩ (by omega) fun vA' w16 g16 oA' => ?_
  refine ⟨g16, ?_⟩
  have H := H.step g16
  refine eqGrammar_same (rls_gramV (gm := a) (H.rules 4 rfl)) oA'.read fun w17 g17 => ?_
  have H := H.step g17
  refine rdi un_not (rdi cond_false' ?_)
  have H := H.drew
  refine ⟨fun w' => Gr w17.drew w', Gr.refl _, ?_⟩
  refine rdi (rdG_agg agg37 sz37 rfl (H.box 7 rfl)) (rdi (rdG_agg agg31 sz31 rfl (H.box 1 rfl)) ?_)
  refine toGrammar_c (gm := b) ⟨Z, d, rfl, hd, hz.gr H.gr⟩ (by omega) fun vB' w18 g18 oB' => ?_
  refine ⟨g18, ?_⟩
  have H := H.step g18
  refine eqGrammar_same (rls_gramV (gm := b) (H.rules 6 rfl)) oB'.read fun w19 g19 => ?_
  have H := H.step g19
  refine rdi un_not (rdi cond_false' ?_)
  refine rdi (ldB_agg agg37 sz37 rfl (H.box 5 rfl)) ?_
  refine markGrammar_c (gm := a) (H.rules 4 rfl) rfl (by decide) (by omega) fun w20 g20 o20 => ?_
  have H := H.setRules 4 rfl (markR_length 1 a.rules) g20 o20
  simp only [List.nil_append, List.cons_append, List.set_cons_zero, List.set_cons_succ] at H
  refine rdi (ldB_agg agg37 sz37 rfl (H.box 7 rfl)) ?_
  refine markGrammar_c (gm := b) (H.rules 6 rfl) rfl (by omega) (by omega) fun w21 g21 o21 => ?_
  have H := H.setRules 6 rfl (markR_length _ b.rules) g21 o21
  simp only [List.nil_append, List.cons_append, List.set_cons_zero, List.set_cons_succ] at H
  refine rdi (bin_lss_false (by omega)) (rdi guard_ff (rdi (ldB_agg agg37 sz37 rfl (H.box 9 rfl)) (rdi guard_ff (rdi (ldB_agg agg37 sz37 rfl (H.box 2 rfl)) (rdi guard_ff ?_)))))
  refine eqGrammar_same (rls_gramV (gm := resG (unionV a b)) (H.rules 8 rfl)) (rls_gramV (gm := resG (unionV a b)) (H.rules 3 rfl)) fun w22 g22 => ?_
  have H := H.step g22
  refine rdi guard_ff (rdi un_not (rdi pick_false (rdi guard_ff (rdi guard_ff (rdi guard_ff (rdi bin_neq_same (rdi pick_false (rdi cond_false' ?_))))))))
  refine rdi (ldB_agg agg37 sz37 rfl (H.box 9 rfl)) ?_
  refine markGrammar_c (gm := resG (unionV a b)) (H.rules 8 rfl) rfl (by decide) (by omega) fun w23 g23 o23 => ?_
  have H := H.setRules 8 rfl hml g23 o23
  simp only [List.nil_append, List.cons_append, List.set_cons_zero, List.set_cons_succ] at H
  refine rdi (ldB_agg agg37 sz37 rfl (H.box 9 rfl)) ?_
  have vM : ∀ w' : World, OwnR 77 3 w' w.heap.size XI cI (markR 1 (resG (unionV a b)).rules) psI → GramV (fun _ => True) w' (.agg #[.int .i64 (resG (unionV a b)).nons, .int .i64 (resG (unionV a b)).toks, .slice XI (resG (unionV a b)).rules.length cI]) ⟨(resG (unionV a b)).nons, (resG (unionV a b)).toks, markR 1 (resG (unionV a b)).rules⟩ := fun w' h => by
    have := rls_gramV (gm := ⟨(resG (unionV a b)).nons, (resG (unionV a b)).toks, markR 1 (resG (unionV a b)).rules⟩) h
    simpa only [hml] using this
  refine heldGrammar_c (gm := resG (unionV a b)) (vM _ (H.rules 8 rfl)) (by decide) (by omega) fun w24 g24 => ?_
  have H := H.step g24
  refine rdi (bin_lss_false (by omega)) (rdi cond_false' (rdi bin_neqi_same (rdi cond_false' ?_)))
  have H := H.drew
  refine join_as (fun f w' => ∃ (b6' : Nat) (XS' : Option Addr) (cS' : Nat) (psS' : Nat → Option Addr × Nat), f 6 = .pointer (some ⟨b6, 0, none⟩) ∧ f 7 = .bool (unionV a b).isSome ∧ f 10 = .pointer (some ⟨b10, 0, none⟩) ∧ f 13 = .int .i64 (1 + (sizeR (resG (unionV a b)).rules : Nat)) ∧ f 15 = .pointer (some ⟨b6', 0, none⟩) ∧ f 16 = .bool (unionV a b).isSome ∧ Apt w24.drew w' [bx b6' [.int .i64 (resG (unionV a b)).nons, .int .i64 (resG (unionV a b)).toks, .slice XS' (resG (unionV a b)).rules.length cS'] 37, rls 77 3 XS' cS' (resG (unionV a b)).rules psS']) ?_ ?_
  · intro K hK
    refine ⟨fun w' => Gr w24.drew w', Gr.refl _, ?_⟩
    refine rdi (rdG_agg agg31 sz31 rfl (H.box 0 rfl)) (rdi (rdG_agg agg31 sz31 rfl (H.box 1 rfl)) ?_)
    have G := Apt.nil w24.drew
    refine ⟨?_, ?_⟩
    · refine toGrammar_c (gm := a) ⟨Y, c, rfl, hc, hy.gr (gr_trans H.gr G.gr)⟩ (by omega) fun va wa ga oa => ?_
      have G := G.step ga
      refine ⟨G.gr, ?_⟩
      refine ⟨?_, ?_⟩
      · refine toGrammar_c (gm := b) ⟨Z, d, rfl, hd, hz.gr (gr_trans H.gr G.gr)⟩ (by omega) fun vb wb gb ob => ?_
        have G := G.step gb
        refine ⟨G.gr, ?_⟩
        refine ⟨?_, ?_⟩
        · refine implUnionOf_c (oa.read.gr gb) (ob.read) fun vs ws gs rs => ?_
          obtain ⟨XS, cS, psS, rfl, oS⟩ := rs.own
          have G := G.addRules gs oS
          refine ⟨G.gr, ?_⟩
          refine rdi extract_two_0 (rdi extract_two_1 ?_)
          refine do_alloc_of inf37 fun bn wn gn hbn hBn => ?_
          have G := G.addBox gn hbn hBn
          refine ⟨G.gr, ?_⟩
          refine storeH G 1 rfl sz37 rfl rfl rfl fun wz G => ?_
          refine ⟨G.gr, hK _ _ ⟨_, XS, cS, psS, e6, e7, rfl, rfl, rfl, rfl, G.swap⟩⟩
        · refine do_alloc_of inf37 fun bn wn gn hbn hBn => ?_
          have G := G.addBox gn hbn hBn
          refine ⟨G.gr, ?_⟩
          refine implUnionOf_c (oa.read.gr (gr_trans gb gn)) (ob.read.gr gn) fun vs ws gs rs => ?_
          obtain ⟨XS, cS, psS, rfl, oS⟩ := rs.own
          have G := G.addRules gs oS
          refine ⟨G.gr, ?_⟩
          refine rdi extract_two_0 (rdi extract_two_1 ?_)
          refine storeH G 0 rfl sz37 rfl rfl rfl fun wz G => ?_
          refine ⟨G.gr, hK _ _ ⟨_, XS, cS, psS, e6, e7, rfl, rfl, rfl, rfl, G⟩⟩
      · refine do_alloc_of inf37 fun bn wn gn hbn hBn => ?_
        have G := G.addBox gn hbn hBn
        refine ⟨G.gr, ?_⟩
        refine toGrammar_c (gm := b) ⟨Z, d, rfl, hd, hz.gr (gr_trans H.gr G.gr)⟩ (by omega) fun vb wb gb ob => ?_
        have G := G.step gb
        refine ⟨G.gr, ?_⟩
        refine implUnionOf_c (oa.read.gr (gr_trans gn gb)) (ob.read) fun vs ws gs rs => ?_
        obtain ⟨XS, cS, psS, rfl, oS⟩ := rs.own
        have G := G.addRules gs oS
        refine ⟨G.gr, ?_⟩
        refine rdi extract_two_0 (rdi extract_two_1 ?_)
        refine storeH G 0 rfl sz37 rfl rfl rfl fun wz G => ?_
        refine ⟨G.gr, hK _ _ ⟨_, XS, cS, psS, e6, e7, rfl, rfl, rfl, rfl, G⟩⟩
    · refine do_alloc_of inf37 fun bn wn gn hbn hBn => ?_
      have G := G.addBox gn hbn hBn
      refine ⟨G.gr, ?_⟩
      refine toGrammar_c (gm := a) ⟨Y, c, rfl, hc, hy.gr (gr_trans H.gr G.gr)⟩ (by omega) fun va wa ga oa => ?_
      have G := G.step ga
      refine ⟨G.gr, ?_⟩
      refine toGrammar_c (gm := b) ⟨Z, d, rfl, hd, hz.gr (gr_trans H.gr G.gr)⟩ (by omega) fun vb wb gb ob => ?_
      have G := G.step gb
      refine ⟨G.gr, ?_⟩
      refine implUnionOf_c (oa.read.gr gb) (ob.read) fun vs ws gs rs => ?_
      obtain ⟨XS, cS, psS, rfl, oS⟩ := rs.own
      have G := G.addRules gs oS
      refine ⟨G.gr, ?_⟩
      refine rdi extract_two_0 (rdi extract_two_1 ?_)
      refine storeH G 0 rfl sz37 rfl rfl rfl fun wz G => ?_
      refine ⟨G.gr, hK _ _ ⟨_, XS, cS, psS, e6, e7, rfl, rfl, rfl, rfl, G⟩⟩
  rintro f25 w25 ⟨b12, XJ, cJ, psJ, e6', e7', e10', e13', e15', e16', G'⟩
  have H := H.append G'
  simp only [List.nil_append, List.cons_append, List.set_cons_zero, List.set_cons_succ] at H
  simp only [e6', e7', e10', e13', e15', e16']
  refine rdi (ldB_agg agg37 sz37 rfl (H.box 10 rfl)) (rdi (ldB_agg agg37 sz37 rfl (H.box 2 rfl)) ?_)
  refine eqGrammar_same (rls_gramV (gm := resG (unionV a b)) (H.rules 11 rfl)) (rls_gramV (gm := resG (unionV a b)) (H.rules 3 rfl)) fun w26 g26 => ?_
  have H := H.step g26
  refine rdi un_not (rdi guard_ff (rdi guard_ff (rdi guard_ff (rdi bin_neq_same (rdi pick_false (rdi cond_false' ?_))))))
  refine rdi (ldB_agg agg37 sz37 rfl (H.box 9 rfl)) ?_
  refine heldGrammar_c (gm := resG (unionV a b)) (vM _ (H.rules 8 rfl)) (by decide) (by omega) fun w27 g27 => ?_
  have H := H.step g27
  refine rdi (bin_lss_false (by omega)) (rdi cond_false' (rdi bin_neqi_same (rdi cond_false' ?_)))
  exact hk _ H.gr
end Go.Proofs.Ytiohaeckagjebaa
