/- Contract: the parts of a tree, told by the reference. -/
import Derived.Test.YtiohaeckagjebaaShQ2
set_option linter.unusedVariables false
set_option linter.unusedSimpArgs false
set_option maxRecDepth 100000
namespace Go.Sh
open Go
def rowsP (ps : List PT) : List (List Int) := ps.map PT.row
theorem rowsP_append (ps qs : List PT) : rowsP (ps ++ qs) = rowsP ps ++ rowsP qs := List.map_append
theorem rowsP_length (ps : List PT) : (rowsP ps).length = ps.length := List.length_map _
theorem drop_getD {R : List Int} {i : Nat} (h : i < R.length) : R.drop i = R.getD i 0 :: R.drop (i + 1) := by
  rw [List.drop_eq_getElem_cons h]
  simp [List.getD_eq_getElem?_getD, h]
theorem rdG_aggC {P : Program} {k : Value → Prop} {w : World} {h : Gr w w} {t n : Nat} {a : Addr} {cs : List Value} (ht : agg P t) (hs : szOf P t n) (hn : cs.length = n) (hc : ∀ j (h : j < cs.length), w.cell? (a.add j) = some cs[j]) : Rd P ⟨fun w' => Gr w w', w, h⟩ (sLoad t (.pointer (some a))) k = k (.agg cs.toArray) :=
  rd_loadAgg ht hs hn fun w' hw j hj => Gr.cell hw (hc j hj)
end Go.Sh
namespace Go.Proofs.Ytiohaeckagjebaa
open Go Go.Sh Go.RowKit

theorem l18Parts_c {gm : Gram} {tree : List Int} {X : Option Addr} {c : Nat} (hg : goodG gm = true) (ht : tree.length ≤ 1000) : ∀ (fu : Nat) {F : Nat → Prop} {w : World} {v : Value} {non : Int} {a : Nat} {ws ws' : List Int} {p : PT} {k : Value → World → Prop}, GramV F w v gm → Ints w X tree → readT gm.rules tree fu non a ws = some (p, ws') → ws'.length ≤ 1000000 →
    (∀ w' Y d ps, Gr w w' → OwnSS 22 3 w' w.heap.size Y d (rowsP p.parts) ps → k (.tuple #[.slice Y (rowsP p.parts).length d, .int .i64 ws'.length]) w') →
    CallK Try.prog 95 [v, .slice X tree.length c, .int .i64 a, .int .i64 ws.length] k w := by
  have hr16 := good_len hg
  intro fu
  induction fu with
  | zero => intro F w v non a ws ws' p k hv hx hr; cases hr
  | succ fu ih =>
    intro F w v non a ws ws' p k hv hx hr hW hk
    obtain ⟨Y, cy, rfl, hc, hy⟩ := hv
    have hfin := readT_le hr
    obtain ⟨hlaid, hfe, _⟩ := readT_laid _ _ _ _ _ _ _ _ hr
    have hmono := (readT_words (good_rule hg) _ _ _ _ _ _ hr).1
    obtain ⟨q, ks', e', hlt, hqe, hq, hnon, hR, rfl⟩ := readT_some hr
    simp only [PT.parts, List.length_cons, PT.fin] at hfe hfin
    obtain ⟨Z, cz, h1, h2, h3, h4⟩ := hy.row q hq
    refine enter95 ?_
    unfold S95
    have H := Apt.nil w
    refine boxH H fun b1 w1 H => ?_
    have H := H.drew
    refine ⟨fun w' => Gr w1.drew w', Gr.refl _, ?_⟩
    simp only [go_sem, Nat.reduceEqDiff]
    rw [rdG one35 (H.box 0 rfl) rfl, ixn22 hx.ptr hlt, ldS3 (fun w' hw' => Gr.cell hw' ((hx.gr H.gr).cell a hlt)), hqe, ixn35 hy.ptr hq]
    have G := H.gr
    rw [rdG_aggC agg77 sz77 (cs := [.int .i64 (rul gm.rules q).1, .slice Z (rul gm.rules q).2.length cz]) rfl (fun j hj => by
      match j, hj with
      | 0, _ => rw [add_add, Nat.add_zero]; exact G.cell h1
      | 1, _ => rw [add_add]; exact G.cell h2)]
    refine do_alloc_of inf77 fun b2 w2 g2 hb2 hB2 => ?_
    refine ⟨g2, ?_⟩
    have H := H.addBox g2 hb2 hB2
    refine storeH H 1 rfl sz77 rfl rfl rfl fun w3 H => ?_
    simp only [go_sem, Nat.reduceEqDiff]
    rw [ldB3 (H.box 1 rfl) rfl]
    refine buildH H u22 inf3 [.int .i64 (rul gm.rules q).1, .int .i64 0, .int .i64 ws.length, .int .i64 0] (by decide) (by decide) (by simp [Instr.fill, madeCells, Value.cells, rng4]) rfl fun b3 w4 H => ?_
    refine buildH H u48 inf22 [.slice (some ⟨b3, 0, none⟩) 4 4] (by decide) (by decide) (by simp [Instr.fill, madeCells, Value.cells, rng1]) rfl fun b4 w5 H => ?_
    have H := H.single (i := 3) (j := 2) (by decide) (ys := [(rul gm.rules q).1, 0, (ws.length : Int), 0]) rfl rfl
    have H := H.erase 2
    rw [hnon] at H
    rw [ldB22 (H.box 1 rfl) rfl]
    simp only [go_sem, Nat.reduceEqDiff]
    simp only [List.nil_append, List.cons_append, List.set_cons_zero, List.set_cons_succ, List.eraseIdx_cons_zero, List.eraseIdx_cons_succ] at H
    clear h1 h2
    have hmono' := hmono
    generalize (rul gm.rules q).2 = R at *
    refine loop_to R.length 0 (fun i f w' => i ≤ R.length ∧ f 34 = .int .i64 i ∧ ∃ (ks : List PT) (cur : List Int) (U : Option Addr) (d : Nat) (ps : Nat → Option Addr × Nat), f 12 = .int .i64 cur.length ∧ f 11 = .slice U (1 + (PT.partsL ks).length) d ∧ Laid (PT.partsL ks) (a + 1) ∧ readR (readT gm.rules tree fu) (R.drop i) (a + 1 + (PT.partsL ks).length) cur ks = some (ks', e', ws') ∧
      Apt w w' [bx b1 [.int .i64 gm.nons, .int .i64 gm.toks, .slice Y gm.rules.length cy] 37, bx b2 [.int .i64 non, .slice Z R.length cz] 77, lss U d ([non, 0, (ws.length : Int), 0] :: rowsP (PT.partsL ks)) ps])
      ⟨Nat.zero_le _, rfl, [], ws, _, _, _, rfl, rfl, fun i hi => by simp [PT.partsL] at hi, by simpa [PT.partsL] using hR, H⟩ ?_
    rintro i f w6 N hag ⟨hi, h34, ks, cur, U, d, ps, h12, h11, hL, hE, H⟩ hN
    have f32 : f 32 = .slice Z R.length cz := hag 32 (by decide)
    have f33 : f 33 = .int .i64 R.length := hag 33 (by decide)
    have f4 : f 4 = .pointer (some ⟨b1, 0, none⟩) := hag 4 (by decide)
    have f1 : f 1 = .slice X tree.length c := hag 1 (by decide)
    have f2 : f 2 = .int .i64 a := hag 2 (by decide)
    simp only [f32, f33, f4, f1, f2, h34, h12, h11, go_sem, Nat.reduceEqDiff]
    have hcur := readR_words (readT_words (good_rule hg) fu) _ _ _ _ hE
    have hlk := readR_grow _ _ _ _ hE
    by_cases hlt2 : i < R.length
    · simp only [show (i : Int) < R.length from by omega, decide_true, go_sem, Nat.reduceEqDiff]
      rw [drop_getD hlt2] at hE
      have hRl := h4.is.le
      rw [ixn22 h4.is.ptr hlt2, ld3 ((h4.is.gr H.gr).cell i hlt2)]
      by_cases hneg : R.getD i 0 < 0
      · simp only [hneg, decide_true, go_sem, Nat.reduceEqDiff]
        rw [readR_tok hneg] at hE
        have hcur' := readR_words (readT_words (good_rule hg) fu) _ _ _ _ hE
        rw [List.length_append] at hcur'
        simp only [List.length_cons, List.length_nil] at hcur'
        rw [i64_of (by omega) (by omega), i64_of (by omega) (by omega)]
        exact hN _ _ hlt2 ⟨hlt2, rfl, ks, cur ++ [-1 - R.getD i 0], U, d, ps, by simp; rfl, h11, hL, hE, H⟩
      · simp only [hneg, decide_false, go_sem, Nat.reduceEqDiff]
        obtain ⟨kid, w7, hz, hE'⟩ := readR_non hneg hE
        have hkw := (readR_words (readT_words (good_rule hg) fu) _ _ _ _ hE').1
        obtain ⟨hkl, hkf, _⟩ := readT_laid _ _ _ _ _ _ _ _ hz
        have hkle := readT_le hz
        rw [ldB_agg agg37 sz37 rfl (H.box 0 rfl)]
        rw [i64_of (n := (a : Int) + _) (by omega) (by omega)]
        rw [show ((a : Int) + ((1 + (PT.partsL ks).length : Nat) : Int)) = ((a + 1 + (PT.partsL ks).length : Nat) : Int) from by omega]
        refine ih (non := R.getD i 0) ⟨Y, cy, rfl, hc, hy.gr H.gr⟩ (hx.gr H.gr) hz (by omega) fun w8 V d' ps' g8 o8 => ?_
        have H := H.addLss g8 o8
        simp only [go_sem, Nat.reduceEqDiff]
        refine appendSSH H 2 3 (by decide) rfl rfl (by simp [rowsP_length]; omega) rfl (by simp only [List.length_cons, rowsP_length]; omega) fun U' d' w9 ps'' H => ?_
        have H := H.erase 3
        rw [i64_of (by omega) (by omega)]
        refine hN _ _ hlt2 ⟨hlt2, rfl, ks ++ [kid], w7, U', d', ps'', rfl, ?_, ?_, ?_, ?_⟩
        · simp only [List.cons_append, List.length_cons, List.length_append, rowsP_length, partsL_append, PT.partsL, List.append_nil]
          rw [show (PT.partsL ks).length + kid.parts.length + 1 = 1 + ((PT.partsL ks).length + kid.parts.length) from by omega]
          rfl
        · rw [partsL_append]
          exact hL.append (by simpa [PT.partsL] using hkl)
        · rw [partsL_append]
          simp only [PT.partsL, List.append_nil, List.length_append]
          rw [show a + 1 + ((PT.partsL ks).length + kid.parts.length) = kid.fin from by omega]
          exact hE'
        · rw [partsL_append, rowsP_append]
          simp only [PT.partsL, List.append_nil]
          exact H
    · simp only [show ¬ (i : Int) < R.length from by omega, decide_false, go_sem, Nat.reduceEqDiff]
      rw [List.drop_eq_nil_of_le (by omega), readR] at hE
      simp only [Option.some.injEq, Prod.mk.injEq] at hE
      obtain ⟨rfl, rfl, rfl⟩ := hE
      have o := H.lssi 2 rfl
      have hU := o.ptr (by simp)
      have hi0 := (o.own 0 (by simp)).ptr (show 0 < 4 by decide)
      refine rdi (ix48_0 (fun _ => hU) (by omega)) (rdi (ld22 (o.cell (j := 0) (by simp))) (rdi (ix22_1 (fun _ => hi0) (show 1 < 4 by decide)) ?_))
      rw [i64_of (by omega) (by omega)]
      refine putSSH H 2 0 (m := 1) rfl (by simp) (show 1 < 4 by decide) fun w7 H => ?_
      simp only [List.set_cons_zero, List.set_cons_succ, rgt, List.getD_cons_zero] at H
      have o := H.lssi 2 rfl
      have hi0 := (o.own 0 (by simp)).ptr (show 0 < 4 by decide)
      refine rdi (ix48_0 (fun _ => hU) (by omega)) (rdi (ld22 (o.cell (j := 0) (by simp))) (rdi (ix22_3 (fun _ => hi0) (show 3 < 4 by decide)) ?_))
      refine putSSH H 2 0 (m := 3) rfl (by simp) (show 3 < 4 by decide) fun w8 H => ?_
      simp only [List.set_cons_zero, List.set_cons_succ, rgt, List.getD_cons_zero] at H
      have o := H.lssi 2 rfl
      have e1 : ((a : Int) + ((1 + (PT.partsL ks).length : Nat) : Int)) = ((a + 1 + (PT.partsL ks).length : Nat) : Int) := by omega
      rw [e1] at o
      have e2 : (rowsP (PT.mk non q a (a + 1 + (PT.partsL ks).length) ws.length cur.length ks).parts).length = 1 + (PT.partsL ks).length := by
        simp only [rowsP_length, PT.parts, List.length_cons]
        omega
      have := hk w8 U d ps H.gr (by simp only [PT.parts]; exact o)
      rwa [e2] at this
end Go.Proofs.Ytiohaeckagjebaa
