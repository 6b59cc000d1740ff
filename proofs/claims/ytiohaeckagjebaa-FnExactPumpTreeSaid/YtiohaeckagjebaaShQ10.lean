/- Contract: PumpTree of the program. -/
import Derived.Test.YtiohaeckagjebaaShQ9
import Derived.Test.YtiohaeckagjebaaShQL
set_option linter.unusedVariables false
set_option linter.unusedSimpArgs false
set_option maxRecDepth 100000
namespace Go.Proofs.Ytiohaeckagjebaa
open Go Go.Sh Go.RowKit

theorem implPumpTree_c {F : Nat → Prop} {w : World} {v : Value} {gm : Gram} {tree : List Int} {X : Option Addr} {n c : Nat} {m : Int} (hv : GramV F w v gm) (hx : Ints w X tree) (hn : n = tree.length) (hcap : tree.length ≤ c) {k : Value → World → Prop}
    (hk : ∀ w' U d, Gr w w' → Own 3 w' w.heap.size U d (pumpTreeV gm tree m).1 → k (.tuple #[.slice U (pumpTreeV gm tree m).1.length d, .bool (pumpTreeV gm tree m).2]) w') :
    CallK Try.prog 60 [v, .slice X n c, .int .i64 m] k w := by
  subst hn
  obtain ⟨Y, cy, rfl, hc, hy⟩ := hv
  refine enter60 ?_
  unfold S60
  have H := Apt.nil w
  refine boxH H fun b1 w1 H => ?_
  rw [ldB_agg agg37 sz37 rfl (H.box 0 rfl)]
  unfold pumpTreeV at hk
  have G1 := H.gr
  refine whole_c (gm := gm) (tree := tree) ⟨Y, cy, rfl, hc, hy.gr H.gr⟩ (hx.gr H.gr) rfl (fun ha w2 v1 v2 g2 => ?_) fun p ws hW w2 b E W cw H2 => ?_
  · simp only [go_sem, Bool.not_false]
    rw [whole_no ha] at hk
    exact hk _ none 0 (gr_trans G1 g2) (Row.nil _ _ _ _)
  rw [hW.eq] at hk
  dsimp only at hk
  simp only [go_sem, Bool.not_true]
  have H := H.append H2
  refine in_c ?_
  cases hm : inB m 0 4
  · simp only [Bool.not_false, go_sem, Nat.reduceEqDiff]
    simp only [hm, Bool.false_eq_true, if_false] at hk
    exact hk _ none 0 H.gr (Row.nil _ _ _ _)
  simp only [hm, if_true] at hk
  obtain ⟨m, rfl⟩ : ∃ m' : Nat, m = m' := by
    simp only [inB, Bool.and_eq_true, decide_eq_true_eq] at hm
    exact ⟨m.toNat, by omega⟩
  have hm4 : m ≤ 4 := by
    simp only [inB, Bool.and_eq_true, decide_eq_true_eq] at hm
    omega
  rw [Int.toNat_natCast] at hk
  simp only [Bool.not_true, go_sem, Nat.reduceEqDiff]
  have h60 := hW.le
  refine pump_c hW (pti_lt H (i := 2) rfl) (H.get 2 rfl) (fun he w3 g3 => ?_) fun i j he w3 bi bj g3 pi pj => ?_
  · have H := H.step g3
    simp only [he] at hk
    simp only [go_sem, Nat.reduceEqDiff]
    rw [bin_eql_ptr Try.underlying86]
    simp only [Option.isNone_none, go_sem, Nat.reduceEqDiff]
    exact hk _ none 0 H.gr (Row.nil _ _ _ _)
  have H := H.step g3
  simp only [he] at hk
  simp only [go_sem, Nat.reduceEqDiff]
  rw [bin_eql_ptr Try.underlying86]
  simp only [Option.isNone_some, go_sem, Nat.reduceEqDiff]
  obtain ⟨hi, hij, hjf, hj, hcuts⟩ := cuts_of hW he
  have lai := (hW.laid i hi).1
  have laj := (hW.laid j hj).1
  rw [← ptn_eq hi, Nat.zero_add] at lai
  rw [← ptn_eq hj, Nat.zero_add] at laj
  obtain ⟨Xi, ci, bxi, _⟩ := pi.box
  obtain ⟨Xj, cj, bxj, _⟩ := pj.box
  rw [lai] at bxi
  rw [laj] at bxj
  generalize hP : p.parts = P at *
  obtain ⟨_, c0, c1, c2, c3, c4⟩ := hcuts
  simp only [treeCuts, List.getD_cons_zero, List.getD_cons_succ] at c0 c1 c2 c3 c4
  have hpump : pumpL tree (treeCuts P i j) m = seg tree 0 i ++ rep m (seg tree i j) ++ seg tree j (ptn P j).fin ++ rep m (seg tree (ptn P j).fin (ptn P i).fin) ++ seg tree (ptn P i).fin tree.length := rfl
  rw [hpump] at hk
  obtain ⟨p0, l0⟩ := Ints_seg (hx.gr H.gr) hcap (Int.le_refl 0) c0 (by omega)
  obtain ⟨p1, l1⟩ := Ints_seg (hx.gr H.gr) hcap c0 c1 (by omega)
  obtain ⟨p2, l2⟩ := Ints_seg (hx.gr H.gr) hcap (by omega) c2 (by omega)
  obtain ⟨p3, l3⟩ := Ints_seg (hx.gr H.gr) hcap (by omega) c3 (by omega)
  obtain ⟨p4, l4⟩ := Ints_seg (hx.gr H.gr) hcap (a := (ptn P i).fin) (b := tree.length) (by omega) c4 (Int.le_refl _)
  have hG := H.gr
  have K := Apt.nil w3
  refine buildH K u22 inf3 [] (by decide) (by decide) (by simp [Instr.fill, madeCells]) rfl fun b5 w4 K => ?_
  rw [ldB3 (bxi.gr K.gr) rfl, slh22 c0 (by omega)]
  refine apH (xs := []) K 0 rfl (ys := seg tree 0 i) (p0.gr K.gr) rfl (by rw [l0]; simp) (by simp only [List.length_nil]; omega) fun U5 d5 w5 K => ?_
  simp only [List.nil_append, List.cons_append, List.set_cons_zero, List.set_cons_succ] at K
  refine loop_to m 0 (fun k f w' => k ≤ m ∧ f 44 = .int .i64 k ∧ ∃ (U : Option Addr) (d : Nat), f 13 = .slice U (seg tree 0 i ++ rep k (seg tree i j)).length d ∧ Apt w3 w' [ows U d (seg tree 0 i ++ rep k (seg tree i j))]) ⟨Nat.zero_le _, rfl, U5, d5, by simp [rep]; rfl, by simpa [rep] using K⟩ ?_
  rintro r f w6 N hag ⟨hr, h44, U6, d6, h13, K⟩ hN
  have f43 : f 43 = .int .i64 m := hag 43 (by decide)
  have f11 : f 11 = ptrv bi := hag 11 (by decide)
  have f12 : f 12 = ptrv bj := hag 12 (by decide)
  have f1 : f 1 = .slice X tree.length c := hag 1 (by decide)
  have f2 : f 2 = .int .i64 m := hag 2 (by decide)
  simp only [f43, f11, f12, f1, h44, h13, go_sem, Nat.reduceEqDiff]
  have hlen : (seg tree 0 i ++ rep r (seg tree i j)).length ≤ 100 + 4 * 100 := by
    rw [List.length_append, rep_length]
    have := Nat.mul_le_mul (show r ≤ 4 by omega) (show (seg tree i j).length ≤ 100 by omega)
    omega
  by_cases hlt : r < m
  · simp only [show (r : Int) < m from by omega, decide_true, go_sem, Nat.reduceEqDiff]
    have K := K.drew
    rw [ldB3 (bxi.gr K.gr) rfl, ldB3 (bxj.gr K.gr) rfl, sl22 c0 c1 (by omega)]
    refine apH K 0 rfl (ys := seg tree i j) (p1.gr K.gr) rfl (by rw [l1]) (by omega) fun U7 d7 w7 K => ?_
    simp only [List.set_cons_zero, List.set_cons_succ] at K
    rw [List.append_assoc, ← rep_succ] at K
    rw [i64_of (by omega) (by omega)]
    exact hN _ _ hlt ⟨hlt, rfl, U7, d7, by rw [List.append_assoc, ← rep_succ]; rfl, K⟩
  obtain rfl : r = m := by omega
  simp only [show ¬ (r : Int) < r from by omega, decide_false, go_sem, Nat.reduceEqDiff]
  have K := K.drew
  rw [ldB3 (bxj.gr K.gr) rfl, ldB3 (bxj.gr K.gr) rfl, sl22 (by omega) c2 (by omega)]
  refine apH K 0 rfl (ys := seg tree j (ptn P j).fin) (p2.gr K.gr) rfl (by rw [l2]) (by omega) fun U7 d7 w7 K => ?_
  simp only [List.set_cons_zero, List.set_cons_succ] at K
  have hlen3 : (seg tree 0 i ++ rep r (seg tree i j) ++ seg tree j (ptn P j).fin).length ≤ 600 := by
    rw [List.length_append]
    omega
  generalize hA : seg tree 0 i ++ rep r (seg tree i j) ++ seg tree j (ptn P j).fin = A at *
  refine loop_to r 0 (fun k f w' => k ≤ r ∧ f 72 = .int .i64 k ∧ ∃ (U : Option Addr) (d : Nat), f 13 = .slice U (A ++ rep k (seg tree (ptn P j).fin (ptn P i).fin)).length d ∧ Apt w3 w' [ows U d (A ++ rep k (seg tree (ptn P j).fin (ptn P i).fin))]) ⟨Nat.zero_le _, rfl, U7, d7, by simp [rep]; rfl, by simpa [rep] using K⟩ ?_
  rintro s f' w8 N' hag' ⟨hs, h72, U8, d8, h13', K8⟩ hN'
  have f71 : f' 71 = .int .i64 r := (hag' 71 (by decide)).trans f2
  have f11' : f' 11 = ptrv bi := (hag' 11 (by decide)).trans f11
  have f12' : f' 12 = ptrv bj := (hag' 12 (by decide)).trans f12
  have f1' : f' 1 = .slice X tree.length c := (hag' 1 (by decide)).trans f1
  simp only [f71, f11', f12', f1', h72, h13', go_sem, Nat.reduceEqDiff]
  have hlen4 : (A ++ rep s (seg tree (ptn P j).fin (ptn P i).fin)).length ≤ 600 + 4 * 100 := by
    rw [List.length_append, rep_length]
    have := Nat.mul_le_mul (show s ≤ 4 by omega) (show (seg tree (ptn P j).fin (ptn P i).fin).length ≤ 100 by omega)
    omega
  by_cases hlt2 : s < r
  · simp only [show (s : Int) < r from by omega, decide_true, go_sem, Nat.reduceEqDiff]
    have K := K8.drew
    rw [ldB3 (bxj.gr K.gr) rfl, ldB3 (bxi.gr K.gr) rfl, sl22 (by omega) c3 (by omega)]
    refine apH K 0 rfl (ys := seg tree (ptn P j).fin (ptn P i).fin) (p3.gr K.gr) rfl (by rw [l3]) (by omega) fun U9 d9 w9 K => ?_
    simp only [List.set_cons_zero, List.set_cons_succ] at K
    rw [List.append_assoc, ← rep_succ] at K
    rw [i64_of (by omega) (by omega)]
    exact hN' _ _ hlt2 ⟨hlt2, rfl, U9, d9, by rw [List.append_assoc, ← rep_succ]; rfl, K⟩
  obtain rfl : s = r := by omega
  simp only [show ¬ (s : Int) < s from by omega, decide_false, go_sem, Nat.reduceEqDiff]
  rw [ldB3 (bxi.gr K8.gr) rfl, sll22 (by omega) c4]
  refine apH K8 0 rfl (ys := seg tree (ptn P i).fin tree.length) (p4.gr K8.gr) rfl (by rw [l4]; simp) (by omega) fun U9 d9 w9 K9 => ?_
  simp only [List.set_cons_zero, List.set_cons_succ] at K9
  simp only [go_sem, Nat.reduceEqDiff]
  generalize A ++ rep s (seg tree (ptn P j).fin (ptn P i).fin) ++ seg tree (ptn P i).fin tree.length = Z at *
  by_cases h60' : Z.length ≤ 60
  · simp only [show ¬ ((60 : Int) < Z.length) from by omega, decide_false, go_sem, Nat.reduceEqDiff]
    simp only [if_pos h60'] at hk
    exact hk _ U9 d9 (gr_trans hG K9.gr) (Row.mono (K9.own 0 rfl) hG.size)
  · simp only [show ((60 : Int) < Z.length) from by omega, decide_true, go_sem, Nat.reduceEqDiff]
    simp only [if_neg h60'] at hk
    exact hk _ none 0 (gr_trans hG K9.gr) (Row.nil _ _ _ _)
end Go.Proofs.Ytiohaeckagjebaa
