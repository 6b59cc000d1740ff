/- Contract: the tree that a list of rules begins with, read by the program. -/
import Derived.Test.YtiohaeckagjebaaShQ7
set_option linter.unusedVariables false
set_option linter.unusedSimpArgs false
set_option maxRecDepth 100000
namespace Go.Sh
open Go
def pti (F : Nat → Prop) (p : PT) (b : Nat) : Thing := ⟨fun w => PartAt F w p b, F⟩
def ptsi (F : Nat → Prop) (ks : List PT) (bs : List Nat) : Thing := ⟨fun w => AllPt F w ks bs, F⟩
theorem AllPt.same {F : Nat → Prop} {w w' : World} {ps : List PT} {bs : List Nat} (h : AllPt F w ps bs) (hs : ∀ q, F q → w'.heap[q]? = w.heap[q]?) : AllPt F w' ps bs := ⟨h.1, fun i hi => PartAt.same hs _ _ (h.2 i hi)⟩
theorem AllPt.mono {F E : Nat → Prop} {w : World} {ps : List PT} {bs : List Nat} (h : AllPt F w ps bs) (he : ∀ q, F q → E q) : AllPt E w ps bs := ⟨h.1, fun i hi => PartAt.mono he _ _ (h.2 i hi)⟩
theorem KidsAt.of_all {F E : Nat → Prop} {w : World} {X : Option Addr} (he : ∀ q, F q → E q) : ∀ {ks : List PT} {bs : List Nat} {j : Nat}, (∀ i, i < bs.length → w.cell? ((ad X).add (j + i)) = some (ptrv (bs.getD i 0))) → AllPt F w ks bs → KidsAt E w ks X j := by
  intro ks
  induction ks with
  | nil => intro bs j _ _; simp only [KidsAt]
  | cons k ks ih =>
    intro bs j hc ha
    cases bs with
    | nil => have := ha.1; simp at this
    | cons b bs =>
      simp only [KidsAt]
      refine ⟨⟨b, by simpa using hc 0 (by simp), PartAt.mono he _ _ (by simpa [ptn] using ha.2 0 (by simp))⟩, ih (bs := bs) (fun i hi => ?_) ⟨by have := ha.1; simpa using this, fun i hi => ?_⟩⟩
      · have := hc (i + 1) (by simpa using hi)
        rw [show j + 1 + i = j + (i + 1) from by omega]
        simpa using this
      · have := ha.2 (i + 1) (by simpa using hi)
        simpa [ptn] using this
theorem good_symb {g : Gram} (hg : goodG g = true) {q : Nat} (hq : q < g.rules.length) {i : Nat} (hi : i < (rul g.rules q).2.length) : -4 ≤ (rul g.rules q).2.getD i 0 ∧ (rul g.rules q).2.getD i 0 ≤ 5 ∧ -g.toks ≤ (rul g.rules q).2.getD i 0 ∧ (rul g.rules q).2.getD i 0 ≤ g.nons - 1 := by
  have hn := good_nons hg
  have ht := good_toks hg
  simp only [goodG, Bool.and_eq_true, List.all_eq_true] at hg
  have h1 := hg.2 q (List.mem_range.2 hq)
  simp only [goodR, Bool.and_eq_true, List.all_eq_true] at h1
  have h2 := h1.1.2 _ (getD_mem hi)
  simp only [symB, inB, Bool.and_eq_true, decide_eq_true_eq] at h2
  omega
/-- A node, its row of kids, and the kids, as one tree. -/
theorem tree_of {w : World} {F : Nat → Prop} {b c : Nat} {K : Option Addr} {ks : List PT} {bs : List Nat} {non : Int} {rule a e f t : Nat} (hb : Box w b [.int .i64 non, .int .i64 rule, .int .i64 a, .int .i64 e, .int .i64 f, .int .i64 t, .slice K ks.length c] 93) (hr : Row w 0 86 1 K bs.length c (bs.map ptrv)) (ha : AllPt F w ks bs) :
    PartAt (fun q => q = b ∨ (blk K = some q ∨ F q)) w (.mk non rule a e f t ks) b := by
  have hl := ha.1
  simp only [PartAt]
  refine ⟨by simp, K, c, hb, fun hp => ⟨hr.ptr (by omega), ?_⟩, by have := hr.cap; omega, KidsAt.of_all (fun q hq => .inr (.inr hq)) (fun i hi => ?_) ha⟩
  · have := hr.ptr (show 0 < bs.length by omega)
    exact .inr (.inl (by rw [this]; rfl))
  · rw [Nat.zero_add]
    exact hr.src.cell i _ (by simp [List.getD_eq_getElem?_getD, hi])
end Go.Sh
namespace Go.Proofs.Ytiohaeckagjebaa
open Go Go.Sh Go.RowKit
theorem symbolOf_c {x : Int} {w : World} {k : Value → World → Prop} (hk : k (.int .i64 (IntKind.i64.wrap (-1 - x))) w) : CallK Try.prog 179 [.int .i64 x] k w := by
  refine enter179 ?_
  unfold S179
  simp only [go_sem, Nat.reduceEqDiff]
  exact hk
abbrev readF (bR bG bW bF : Nat) : Value := .func (.func 178) #[] #[ptrv bR, ptrv bG, ptrv bW, ptrv bF]
/-- What the closure holds. -/
abbrev held4 (gm : Gram) (tree : List Int) (X Y : Option Addr) (c cy bR bG bW bF : Nat) (W : Option Addr) (cw : Nat) (ws : List Int) : List Thing :=
  [bx bR [.slice X tree.length c] 22, bx bG [.int .i64 gm.nons, .int .i64 gm.toks, .slice Y gm.rules.length cy] 37, bx bW [.slice W ws.length cw] 22, bx bF [readF bR bG bW bF] 181, ows W cw ws]

theorem read_c {gm : Gram} {tree : List Int} {X Y : Option Addr} {c cy bR bG bW bF : Nat} (hg : goodG gm = true) (ht : tree.length ≤ 60) {F : Nat → Prop} {w0 : World} (hx : Ints w0 X tree) (hy : RulesF F w0 Y gm.rules) :
    ∀ (fu : Nat) {w : World} {M : List Thing} {W : Option Addr} {cw : Nat} {ws : List Int} {non : Int} {a : Nat} {k : Value → World → Prop}, Apt w0 w (held4 gm tree X Y c cy bR bG bW bF W cw ws ++ M) → tree.length - a ≤ fu → ws.length + 4 * (tree.length - a) ≤ 1000 →
    (readT gm.rules tree fu non a ws = none → ∀ w' v W' cw' ws', Apt w0 w' (held4 gm tree X Y c cy bR bG bW bF W' cw' ws' ++ M) → k (.tuple #[v, .bool false]) w') →
    (∀ p ws', readT gm.rules tree fu non a ws = some (p, ws') → ∀ w' b E W' cw', Apt w0 w' (held4 gm tree X Y c cy bR bG bW bF W' cw' ws' ++ pti E p b :: M) → k (.tuple #[ptrv b, .bool true]) w') →
    CallK Try.prog 178 [.int .i64 non, .int .i64 a, ptrv bR, ptrv bG, ptrv bW, ptrv bF] k w := by
  have hr16 := good_len hg
  have hxl := hx.le
  intro fu
  induction fu with
  | zero =>
    intro w M W cw ws non a k H hf hb hn hs
    refine enter178 ?_
    unfold S178
    have H := H.drew
    refine ⟨fun w' => Gr w.drew w', Gr.refl _, ?_⟩
    rw [rdG one22 (H.box 0 rfl) rfl]
    simp only [go_sem, Nat.reduceEqDiff]
    simp only [show (tree.length : Int) ≤ a from by omega, decide_true, go_sem, Nat.reduceEqDiff]
    exact ⟨Gr.refl _, hn rfl _ _ _ _ _ H⟩
  | succ fu ih =>
    intro w M W cw ws non a k H hf hb hn hs
    refine enter178 ?_
    unfold S178
    have H := H.drew
    refine ⟨fun w' => Gr w.drew w', Gr.refl _, ?_⟩
    rw [rdG one22 (H.box 0 rfl) rfl]
    simp only [go_sem, Nat.reduceEqDiff]
    by_cases hlt : a < tree.length
    case neg =>
      simp only [show (tree.length : Int) ≤ a from by omega, decide_true, go_sem, Nat.reduceEqDiff]
      exact ⟨Gr.refl _, hn (readT_no (okT_lt hlt)) _ _ _ _ _ H⟩
    simp only [show ¬ ((tree.length : Int) ≤ a) from by omega, decide_false, go_sem, Nat.reduceEqDiff]
    rw [rdG one22 (H.box 0 rfl) rfl, ixn22 hx.ptr hlt, ldS3 (fun w' hw' => Gr.cell hw' ((hx.gr H.gr).cell a hlt))]
    rw [rdG one35 (H.box 1 rfl) rfl]
    simp only [go_sem, Nat.reduceEqDiff]
    rw [i64_of (by omega) (by omega)]
    refine in_c ?_
    refine ⟨Gr.refl _, ?_⟩
    by_cases hin : inB (tree.getD a 0) 0 ((gm.rules.length : Int) - 1) = true
    case neg =>
      have hin := Bool.eq_false_iff.2 hin
      simp only [hin, Bool.not_false, go_sem, Nat.reduceEqDiff]
      exact hn (readT_no (okT_in hin)) _ _ _ _ _ H
    obtain ⟨q, hqe, hq⟩ : ∃ q : Nat, tree.getD a 0 = q ∧ q < gm.rules.length := by
      simp only [inB, Bool.and_eq_true, decide_eq_true_eq] at hin
      exact ⟨(tree.getD a 0).toNat, by omega, by omega⟩
    simp only [hin, Bool.not_true, go_sem, Nat.reduceEqDiff]
    obtain ⟨Z, cz, h1, h2, h3, h4⟩ := hy.row q hq
    rw [rdG one35 (H.box 1 rfl) rfl, rdG one22 (H.box 0 rfl) rfl, ixn22 hx.ptr hlt, ldS3 (fun w' hw' => Gr.cell hw' ((hx.gr H.gr).cell a hlt)), hqe, ixn35 hy.ptr hq, fa77_0, add_zero', ldS3 (fun w' hw' => Gr.cell hw' (H.gr.cell h1))]
    simp only [go_sem, Nat.reduceEqDiff]
    by_cases hne : (rul gm.rules q).1 = non
    case neg =>
      simp only [hne, decide_false, Bool.not_false, go_sem, Nat.reduceEqDiff]
      exact hn (readT_no (okT_ne hqe hne)) _ _ _ _ _ H
    simp only [hne, decide_true, Bool.not_true, go_sem, Nat.reduceEqDiff]
    have H := H.drew
    rw [ldB22 (H.box 0 rfl) rfl, ixn22 hx.ptr hlt, ld3 ((hx.gr H.gr).cell a hlt), hqe, ldB22 (H.box 2 rfl) rfl]
    simp only [go_sem, Nat.reduceEqDiff]
    rw [i64_of (by omega) (by omega), bd93 (cells := #[.int .i64 non, .int .i64 q, .int .i64 a, .int .i64 ((a : Int) + 1), .int .i64 ws.length, .int .i64 0, .slice none 0 0]) rfl]
    refine boxH H fun bN w1 H => ?_
    have H := ((H.insert 5).addNil 86 1).insert 6
    have H := (H.add (Gr.refl _) (ptsi (fun _ => False) [] []) (fun q h => h.elim) (fun q h => h.elim) fun _ _ => ⟨rfl, fun i hi => by simp at hi⟩).insert 7
    simp only [List.nil_append, List.cons_append, List.take_succ_cons, List.drop_succ_cons, List.take_zero, List.drop_zero, List.take_nil, List.drop_nil] at H
    have H := H.drew
    rw [ldB35 (H.box 1 rfl) rfl]
    simp only [go_sem, Nat.reduceEqDiff]
    rw [ldB3 (H.box 5 rfl) rfl, ixn35 hy.ptr hq, fa77_1, add_add, ld22 (H.gr.cell h2)]
    simp only [go_sem, Nat.reduceEqDiff]
    have hread := fun w => readT_of (f := fu) (w := w) (okT_of hlt hin hqe hne) hqe
    have hsym := fun i => @good_symb gm hg q hq i
    have hR4 := good_rule hg q hq
    rw [hread ws] at hn hs
    clear h1 h2 hread hne
    generalize (rul gm.rules q).2 = R at *
    refine loop_to R.length 0 (fun i f w' => i ≤ R.length ∧ f 66 = .int .i64 i ∧ ∃ (ks : List PT) (cur : List Int) (W : Option Addr) (cw : Nat) (K : Option Addr) (ck : Nat) (kbs : List Nat) (E : Nat → Prop) (e : Nat), e = a + 1 + (PT.partsL ks).length ∧ e ≤ tree.length ∧ cur.length ≤ ws.length + i + 4 * (PT.partsL ks).length ∧ readR (readT gm.rules tree fu) (R.drop i) e cur ks = readR (readT gm.rules tree fu) R (a + 1) ws [] ∧
      Apt w0 w' (held4 gm tree X Y c cy bR bG bW bF W cw cur ++ bx bN [.int .i64 non, .int .i64 q, .int .i64 a, .int .i64 e, .int .i64 ws.length, .int .i64 0, .slice K ks.length ck] 93 :: rwi 86 1 K ks.length ck (kbs.map ptrv) :: ptsi E ks kbs :: M))
      ⟨Nat.zero_le _, rfl, [], ws, W, cw, none, 0, [], fun _ => False, a + 1, by simp [PT.partsL], hlt, by simp, rfl, H⟩ ?_
    rintro i f w2 N hag ⟨hi, h66, ks, cur, W2, cw2, K, ck, kbs, E, e, he, hel, hcl, hE, H⟩ hN
    have f64 : f 64 = .slice Z R.length cz := hag 64 (by decide)
    have f65 : f 65 = .int .i64 R.length := hag 65 (by decide)
    have f4 : f 4 = ptrv bW := hag 4 (by decide)
    have f5 : f 5 = ptrv bF := hag 5 (by decide)
    have f10 : f 10 = ptrv bN := hag 10 (by decide)
    simp only [f64, f65, f4, f5, f10, h66, go_sem, Nat.reduceEqDiff]
    have hkbl : kbs.length = ks.length := (show AllPt E w2 ks kbs from H.get 7 rfl).1
    have hkl := kids_le ks
    by_cases hlt2 : i < R.length
    case neg =>
      simp only [show ¬ (i : Int) < R.length from by omega, decide_false, go_sem, Nat.reduceEqDiff]
      rw [List.drop_eq_nil_of_le (by omega), readR] at hE
      rw [← hE] at hs
      rw [ldB22 (H.box 2 rfl) rfl]
      simp only [go_sem, Nat.reduceEqDiff]
      refine storeH H 5 rfl sz3 rfl rfl rfl fun w3 H => ?_
      have H := H.both 6 7 (by decide) rfl rfl
      have H := H.both 5 6 (by decide) rfl rfl
      have H := H.weaken 5 (b := pti (fun q => q = bN ∨ (blk K = some q ∨ E q)) (.mk non q a e ws.length cur.length ks) bN) rfl (fun q hq => hq) (fun w' _ hp => tree_of hp.1 (by rw [hkbl]; exact hp.2.1) hp.2.2) (fun w' w'' hh hp => PartAt.same hh _ _ hp)
      exact hs _ _ rfl _ _ _ _ _ H
    simp only [show (i : Int) < R.length from by omega, decide_true, go_sem, Nat.reduceEqDiff]
    rw [drop_getD hlt2] at hE
    have hRl := h4.is.le
    rw [ixn22 h4.is.ptr hlt2, ld3 ((h4.is.gr H.gr).cell i hlt2)]
    obtain ⟨s1, s2, _⟩ := hsym i hlt2
    by_cases hneg : R.getD i 0 < 0
    · simp only [hneg, decide_true, go_sem, Nat.reduceEqDiff]
      rw [readR_tok hneg] at hE
      have H := H.drew
      refine ⟨fun w' => Gr w2.drew w', Gr.refl _, ?_⟩
      rw [rdG one22 (H.box 2 rfl) rfl]
      refine symbolOf_c ?_
      refine ⟨Gr.refl _, ?_⟩
      rw [i64_of (by omega) (by omega)]
      refine bs22 [.int .i64 (-1 - R.getD i 0)] (by decide) (by simp [Instr.fill, madeCells, Value.cells, rng1]) rfl fun b3 w3 hb3 hb3' g3 hB3 hr3 => ?_
      refine ⟨g3, ?_⟩
      have H := H.step g3
      refine apH H 4 rfl (ys := [-1 - R.getD i 0]) (Own.ints (show Own 3 w3 w2.drew.heap.size (some ⟨b3, 0, none⟩) 1 [-1 - R.getD i 0] from hr3 _ (Nat.le_refl _))) rfl rfl (by simp; omega) fun X' c' w4 H => ?_
      refine storeH H 2 rfl sz22 rfl rfl rfl fun w5 H => ?_
      rw [i64_of (by omega) (by omega)]
      exact hN _ _ hlt2 ⟨hlt2, rfl, ks, cur ++ [-1 - R.getD i 0], X', c', K, ck, kbs, E, e, he, hel, by simp; omega, hE, H⟩
    · simp only [hneg, decide_false, go_sem, Nat.reduceEqDiff]
      have H := H.drew
      rw [ldB181 (H.box 3 rfl) rfl, ldB3 (H.box 5 rfl) rfl]
      refine callVc (caps := [ptrv bR, ptrv bG, ptrv bW, ptrv bF]) ?_
      refine ih H (by omega) (by omega) (fun hz w3 v W3 cw3 ws3 H => ?_) fun kid ws3 hz w3 b E' W3 cw3 H => ?_
      · simp only [go_sem, Nat.reduceEqDiff]
        have hnone : readR (readT gm.rules tree fu) R (a + 1) ws [] = none := by
          rw [← hE, readR, if_neg hneg, hz]
        rw [hnone] at hn
        exact hn rfl _ _ _ _ _ (((H.erase 5).erase 5).erase 5)
      · simp only [go_sem, Nat.reduceEqDiff]
        have hkl2 := readT_laid _ _ _ _ _ _ _ _ hz
        have hkw := readT_words (good_rule hg) _ _ _ _ _ _ hz
        have hkf := readT_le hz
        rw [ldB91 (H.box 6 rfl) rfl]
        refine bs91 [ptrv b] (by decide) (by simp [Instr.fill, madeCells, Value.cells, rng1]) rfl fun b4 w4 hb4 hb4' g4 hB4 hr4 => ?_
        have H := H.step g4
        refine appendH H 7 rfl u91 inf86 rfl (by decide) (Row.src (hr4 _ (Nat.le_refl _))) rfl (ptrs_one [b]) (by omega) (by omega) fun X' c' w5 H => ?_
        refine storeH H 6 rfl sz91 rfl rfl rfl fun w6 H => ?_
        obtain ⟨Xk, ck', hbk, _⟩ := (show PartAt E' w6 kid b from H.get 5 rfl).box
        rw [ldB3 hbk rfl]
        refine storeH H 6 rfl sz3 rfl rfl rfl fun w7 H => ?_
        have H := H.both 8 5 (by decide) rfl rfl
        have H := H.weaken 7 (b := ptsi (fun q => E q ∨ E' q) (ks ++ [kid]) (kbs ++ [b])) rfl (fun q hq => hq) (fun w' _ hp => (AllPt.mono hp.1 fun q h => .inl h).append (AllPt.one (PartAt.mono (fun q h => .inr h) _ _ hp.2))) (fun w' w'' hh hp => AllPt.same hp hh)
        rw [i64_of (by omega) (by omega)]
        refine hN _ _ hlt2 ⟨hlt2, rfl, ks ++ [kid], ws3, W3, cw3, X', c', kbs ++ [b], fun q => E q ∨ E' q, kid.fin, ?_, hkf, ?_, ?_, ?_⟩
        · rw [partsL_append]
          simp only [PT.partsL, List.append_nil, List.length_append]
          omega
        · rw [partsL_append]
          simp only [PT.partsL, List.append_nil, List.length_append]
          omega
        · rw [← hE, readR, if_neg hneg, hz]
        · rw [List.map_append, List.length_append]
          exact H
end Go.Proofs.Ytiohaeckagjebaa
