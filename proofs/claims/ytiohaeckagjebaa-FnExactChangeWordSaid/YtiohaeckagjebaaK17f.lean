/- Texts of this repository put together: ShQ8, ShS2, ShS3, ShS4, ShC3, ShC5, ShT1, Bn, ShUC, Bi, ShW1, ShW0, ShW2, ShW3, ShH6, ShG7, ShG8, ShH8, ShLK. -/
import Derived.Test.YtiohaeckagjebaaK17e
import Derived.Test.YtiohaeckagjebaaK17d
import Derived.Test.YtiohaeckagjebaaK17c
import Derived.Test.YtiohaeckagjebaaProg
import Derived.Test.YtiohaeckagjebaaK17a
import Derived.Shelf.Spec.SlicesInsert
import Derived.Shelf.Spec.SlicesInsertGrow
import Derived.Shelf.Slices.Delete

/- Contract: the tree that a list of rules begins with, read by the program. -/
set_option linter.unusedVariables false
set_option linter.unusedSimpArgs false
set_option maxRecDepth 100000
namespace Go.Sh
open Go
def pti (F : Nat → Prop) (p : PT) (b : Nat) : Thing := ⟨fun w => PartAt F w p b, F⟩
def ptsi (F : Nat → Prop) (ks : List PT) (bs : List Nat) : Thing := ⟨fun w => AllPt F w ks bs, F⟩
theorem AllPt.same {F : Nat → Prop} {w w' : World} {ps : List PT} {bs : List Nat} (h : AllPt F w ps bs) (hs : ∀ q, F q → w'.heap[q]? = w.heap[q]?) : AllPt F w' ps bs := ⟨h.1, fun i hi => PartAt.same hs _ _ (h.2 i hi)⟩
theorem AllPt.mono {F E : Nat → Prop} {w : World} {ps : List PT} {bs : List Nat} (h : AllPt F w ps bs) (he : ∀ q, F q → E q) : AllPt E w ps bs := ⟨h.1, fun i hi => PartAt.mono he _ _ (h.2 i hi)⟩
theorem KidsAt.of_all {F E : Nat → Prop} {w : World} {X : Option Addr} (he : ∀ q, F q → E q) : ∀ {ks : List PT} {bs : List Nat} {j : Nat}, (∀ i, i < bs.length → w.cell? ((ad X).add (j + i)) = some (ptrv (bs.getD i 0))) → AllPt F w ks bs → KidsAt E w ks X j := by
  intro ks
  induction ks with
  | nil => intro bs j _ _; simp only [KidsAt]
  | cons k ks ih =>
    intro bs j hc ha
    cases bs with
    | nil => have := ha.1; simp at this
    | cons b bs =>
      simp only [KidsAt]
      refine ⟨⟨b, by simpa using hc 0 (by simp), PartAt.mono he _ _ (by simpa [ptn] using ha.2 0 (by simp))⟩, ih (bs := bs) (fun i hi => ?_) ⟨by have := ha.1; simpa using this, fun i hi => ?_⟩⟩
      · have := hc (i + 1) (by simpa using hi)
        rw [show j + 1 + i = j + (i + 1) from by omega]
        simpa using this
      · have := ha.2 (i + 1) (by simpa using hi)
        simpa [ptn] using this
theorem good_symb {g : Gram} (hg : goodG g = true) {q : Nat} (hq : q < g.rules.length) {i : Nat} (hi : i < (rul g.rules q).2.length) : -4 ≤ (rul g.rules q).2.getD i 0 ∧ (rul g.rules q).2.getD i 0 ≤ 5 ∧ -g.toks ≤ (rul g.rules q).2.getD i 0 ∧ (rul g.rules q).2.getD i 0 ≤ g.nons - 1 := by
  have hn := good_nons hg
  have ht := good_toks hg
  simp only [goodG, Bool.and_eq_true, List.all_eq_true] at hg
  have h1 := hg.2 q (List.mem_range.2 hq)
  simp only [goodR, Bool.and_eq_true, List.all_eq_true] at h1
  have h2 := h1.1.2 _ (getD_mem hi)
  simp only [symB, inB, Bool.and_eq_true, decide_eq_true_eq] at h2
  omega
/-- A node, its row of kids, and the kids, as one tree. -/
theorem tree_of {w : World} {F : Nat → Prop} {b c : Nat} {K : Option Addr} {ks : List PT} {bs : List Nat} {non : Int} {rule a e f t : Nat} (hb : Box w b [.int .i64 non, .int .i64 rule, .int .i64 a, .int .i64 e, .int .i64 f, .int .i64 t, .slice K ks.length c] 93) (hr : Row w 0 86 1 K bs.length c (bs.map ptrv)) (ha : AllPt F w ks bs) :
    PartAt (fun q => q = b ∨ (blk K = some q ∨ F q)) w (.mk non rule a e f t ks) b := by
  have hl := ha.1
  simp only [PartAt]
  refine ⟨by simp, K, c, hb, fun hp => ⟨hr.ptr (by omega), ?_⟩, by have := hr.cap; omega, KidsAt.of_all (fun q hq => .inr (.inr hq)) (fun i hi => ?_) ha⟩
  · have := hr.ptr (show 0 < bs.length by omega)
    exact .inr (.inl (by rw [this]; rfl))
  · rw [Nat.zero_add]
    exact hr.src.cell i _ (by simp [List.getD_eq_getElem?_getD, hi])
end Go.Sh
namespace Go.Proofs.Ytiohaeckagjebaa
open Go Go.Sh Go.RowKit
theorem symbolOf_c {x : Int} {w : World} {k : Value → World → Prop} (hk : k (.int .i64 (IntKind.i64.wrap (-1 - x))) w) : CallK Try.prog 179 [.int .i64 x] k w := by
  refine enter179 ?_
  unfold S179
  simp only [go_sem, Nat.reduceEqDiff]
  exact hk
abbrev readF (bR bG bW bF : Nat) : Value := .func (.func 178) #[] #[ptrv bR, ptrv bG, ptrv bW, ptrv bF]
/-- What the closure holds. -/
abbrev held4 (gm : Gram) (tree : List Int) (X Y : Option Addr) (c cy bR bG bW bF : Nat) (W : Option Addr) (cw : Nat) (ws : List Int) : List Thing :=
  [bx bR [.slice X tree.length c] 22, bx bG [.int .i64 gm.nons, .int .i64 gm.toks, .slice Y gm.rules.length cy] 37, bx bW [.slice W ws.length cw] 22, bx bF [readF bR bG bW bF] 181, ows W cw ws]

theorem read_c {gm : Gram} {tree : List Int} {X Y : Option Addr} {c cy bR bG bW bF : Nat} (hg : goodG gm = true) (ht : tree.length ≤ 60) {F : Nat → Prop} {w0 : World} (hx : Ints w0 X tree) (hy : RulesF F w0 Y gm.rules) :
    ∀ (fu : Nat) {w : World} {M : List Thing} {W : Option Addr} {cw : Nat} {ws : List Int} {non : Int} {a : Nat} {k : Value → World → Prop}, Apt w0 w (held4 gm tree X Y c cy bR bG bW bF W cw ws ++ M) → tree.length - a ≤ fu → ws.length + 4 * (tree.length - a) ≤ 1000 →
    (readT gm.rules tree fu non a ws = none → ∀ w' v W' cw' ws', Apt w0 w' (held4 gm tree X Y c cy bR bG bW bF W' cw' ws' ++ M) → k (.tuple #[v, .bool false]) w') →
    (∀ p ws', readT gm.rules tree fu non a ws = some (p, ws') → ∀ w' b E W' cw', Apt w0 w' (held4 gm tree X Y c cy bR bG bW bF W' cw' ws' ++ pti E p b :: M) → k (.tuple #[ptrv b, .bool true]) w') →
    CallK Try.prog 178 [.int .i64 non, .int .i64 a, ptrv bR, ptrv bG, ptrv bW, ptrv bF] k w := by
  have hr16 := good_len hg
  have hxl := hx.le
  intro fu
  induction fu with
  | zero =>
    intro w M W cw ws non a k H hf hb hn hs
    refine enter178 ?_
    unfold S178
    have H := H.drew
    refine ⟨fun w' => Gr w.drew w', Gr.refl _, ?_⟩
    rw [rdG one22 (H.box 0 rfl) rfl]
    simp only [go_sem, Nat.reduceEqDiff]
    simp only [show (tree.length : Int) ≤ a from by omega, decide_true, go_sem, Nat.reduceEqDiff]
    exact ⟨Gr.refl _, hn rfl _ _ _ _ _ H⟩
  | succ fu ih =>
    intro w M W cw ws non a k H hf hb hn hs
    refine enter178 ?_
    unfold S178
    have H := H.drew
    refine ⟨fun w' => Gr w.drew w', Gr.refl _, ?_⟩
    rw [rdG one22 (H.box 0 rfl) rfl]
    simp only [go_sem, Nat.reduceEqDiff]
    by_cases hlt : a < tree.length
    case neg =>
      simp only [show (tree.length : Int) ≤ a from by omega, decide_true, go_sem, Nat.reduceEqDiff]
      exact ⟨Gr.refl _, hn (readT_no (okT_lt hlt)) _ _ _ _ _ H⟩
    simp only [show ¬ ((tree.length : Int) ≤ a) from by omega, decide_false, go_sem, Nat.reduceEqDiff]
    rw [rdG one22 (H.box 0 rfl) rfl, ixn22 hx.ptr hlt, ldS3 (fun w' hw' => Gr.cell hw' ((hx.gr H.gr).cell a hlt))]
    rw [rdG one35 (H.box 1 rfl) rfl]
    simp only [go_sem, Nat.reduceEqDiff]
    rw [i64_of (by omega) (by omega)]
    refine in_c ?_
    refine ⟨Gr.refl _, ?_⟩
    by_cases hin : inB (tree.getD a 0) 0 ((gm.rules.length : Int) - 1) = true
    case neg =>
      have hin := Bool.eq_false_iff.2 hin
      simp only [hin, Bool.not_false, go_sem, Nat.reduceEqDiff]
      exact hn (readT_no (okT_in hin)) _ _ _ _ _ H
    obtain ⟨q, hqe, hq⟩ : ∃ q : Nat, tree.getD a 0 = q ∧ q < gm.rules.length := by
      simp only [inB, Bool.and_eq_true, decide_eq_true_eq] at hin
      exact ⟨(tree.getD a 0).toNat, by omega, by omega⟩
    simp only [hin, Bool.not_true, go_sem, Nat.reduceEqDiff]
    obtain ⟨Z, cz, h1, h2, h3, h4⟩ := hy.row q hq
    rw [rdG one35 (H.box 1 rfl) rfl, rdG one22 (H.box 0 rfl) rfl, ixn22 hx.ptr hlt, ldS3 (fun w' hw' => Gr.cell hw' ((hx.gr H.gr).cell a hlt)), hqe, ixn35 hy.ptr hq, fa77_0, add_zero', ldS3 (fun w' hw' => Gr.cell hw' (H.gr.cell h1))]
    simp only [go_sem, Nat.reduceEqDiff]
    by_cases hne : (rul gm.rules q).1 = non
    case neg =>
      simp only [hne, decide_false, Bool.not_false, go_sem, Nat.reduceEqDiff]
      exact hn (readT_no (okT_ne hqe hne)) _ _ _ _ _ H
    simp only [hne, decide_true, Bool.not_true, go_sem, Nat.reduceEqDiff]
    have H := H.drew
    rw [ldB22 (H.box 0 rfl) rfl, ixn22 hx.ptr hlt, ld3 ((hx.gr H.gr).cell a hlt), hqe, ldB22 (H.box 2 rfl) rfl]
    simp only [go_sem, Nat.reduceEqDiff]
    rw [i64_of (by omega) (by omega), bd93 (cells := #[.int .i64 non, .int .i64 q, .int .i64 a, .int .i64 ((a : Int) + 1), .int .i64 ws.length, .int .i64 0, .slice none 0 0]) rfl]
    refine boxH H fun bN w1 H => ?_
    have H := ((H.insert 5).addNil 86 1).insert 6
    have H := (H.add (Gr.refl _) (ptsi (fun _ => False) [] []) (fun q h => h.elim) (fun q h => h.elim) fun _ _ => ⟨rfl, fun i hi => by simp at hi⟩).insert 7
    simp only [List.nil_append, List.cons_append, List.take_succ_cons, List.drop_succ_cons, List.take_zero, List.drop_zero, List.take_nil, List.drop_nil] at H
    have H := H.drew
    rw [ldB35 (H.box 1 rfl) rfl]
    simp only [go_sem, Nat.reduceEqDiff]
    rw [ldB3 (H.box 5 rfl) rfl, ixn35 hy.ptr hq, fa77_1, add_add, ld22 (H.gr.cell h2)]
    simp only [go_sem, Nat.reduceEqDiff]
    have hread := fun w => readT_of (f := fu) (w := w) (okT_of hlt hin hqe hne) hqe
    have hsym := fun i => @good_symb gm hg q hq i
    have hR4 := good_rule hg q hq
    rw [hread ws] at hn hs
    clear h1 h2 hread hne
    generalize (rul gm.rules q).2 = R at *
    refine loop_to R.length 0 (fun i f w' => i ≤ R.length ∧ f 66 = .int .i64 i ∧ ∃ (ks : List PT) (cur : List Int) (W : Option Addr) (cw : Nat) (K : Option Addr) (ck : Nat) (kbs : List Nat) (E : Nat → Prop) (e : Nat), e = a + 1 + (PT.partsL ks).length ∧ e ≤ tree.length ∧ cur.length ≤ ws.length + i + 4 * (PT.partsL ks).length ∧ readR (readT gm.rules tree fu) (R.drop i) e cur ks = readR (readT gm.rules tree fu) R (a + 1) ws [] ∧
      Apt w0 w' (held4 gm tree X Y c cy bR bG bW bF W cw cur ++ bx bN [.int .i64 non, .int .i64 q, .int .i64 a, .int .i64 e, .int .i64 ws.length, .int .i64 0, .slice K ks.length ck] 93 :: rwi 86 1 K ks.length ck (kbs.map ptrv) :: ptsi E ks kbs :: M))
      ⟨Nat.zero_le _, rfl, [], ws, W, cw, none, 0, [], fun _ => False, a + 1, by simp [PT.partsL], hlt, by simp, rfl, H⟩ ?_
    rintro i f w2 N hag ⟨hi, h66, ks, cur, W2, cw2, K, ck, kbs, E, e, he, hel, hcl, hE, H⟩ hN
    have f64 : f 64 = .slice Z R.length cz := hag 64 (by decide)
    have f65 : f 65 = .int .i64 R.length := hag 65 (by decide)
    have f4 : f 4 = ptrv bW := hag 4 (by decide)
    have f5 : f 5 = ptrv bF := hag 5 (by decide)
    have f10 : f 10 = ptrv bN := hag 10 (by decide)
    simp only [f64, f65, f4, f5, f10, h66, go_sem, Nat.reduceEqDiff]
    have hkbl : kbs.length = ks.length := (show AllPt E w2 ks kbs from H.get 7 rfl).1
    have hkl := kids_le ks
    by_cases hlt2 : i < R.length
    case neg =>
      simp only [show ¬ (i : Int) < R.length from by omega, decide_false, go_sem, Nat.reduceEqDiff]
      rw [List.drop_eq_nil_of_le (by omega), readR] at hE
      rw [← hE] at hs
      rw [ldB22 (H.box 2 rfl) rfl]
      simp only [go_sem, Nat.reduceEqDiff]
      refine storeH H 5 rfl sz3 rfl rfl rfl fun w3 H => ?_
      have H := H.both 6 7 (by decide) rfl rfl
      have H := H.both 5 6 (by decide) rfl rfl
      have H := H.weaken 5 (b := pti (fun q => q = bN ∨ (blk K = some q ∨ E q)) (.mk non q a e ws.length cur.length ks) bN) rfl (fun q hq => hq) (fun w' _ hp => tree_of hp.1 (by rw [hkbl]; exact hp.2.1) hp.2.2) (fun w' w'' hh hp => PartAt.same hh _ _ hp)
      exact hs _ _ rfl _ _ _ _ _ H
    simp only [show (i : Int) < R.length from by omega, decide_true, go_sem, Nat.reduceEqDiff]
    rw [drop_getD hlt2] at hE
    have hRl := h4.is.le
    rw [ixn22 h4.is.ptr hlt2, ld3 ((h4.is.gr H.gr).cell i hlt2)]
    obtain ⟨s1, s2, _⟩ := hsym i hlt2
    by_cases hneg : R.getD i 0 < 0
    · simp only [hneg, decide_true, go_sem, Nat.reduceEqDiff]
      rw [readR_tok hneg] at hE
      have H := H.drew
      refine ⟨fun w' => Gr w2.drew w', Gr.refl _, ?_⟩
      rw [rdG one22 (H.box 2 rfl) rfl]
      refine symbolOf_c ?_
      refine ⟨Gr.refl _, ?_⟩
      rw [i64_of (by omega) (by omega)]
      refine bs22 [.int .i64 (-1 - R.getD i 0)] (by decide) (by simp [Instr.fill, madeCells, Value.cells, rng1]) rfl fun b3 w3 hb3 hb3' g3 hB3 hr3 => ?_
      refine ⟨g3, ?_⟩
      have H := H.step g3
      refine apH H 4 rfl (ys := [-1 - R.getD i 0]) (Own.ints (show Own 3 w3 w2.drew.heap.size (some ⟨b3, 0, none⟩) 1 [-1 - R.getD i 0] from hr3 _ (Nat.le_refl _))) rfl rfl (by simp; omega) fun X' c' w4 H => ?_
      refine storeH H 2 rfl sz22 rfl rfl rfl fun w5 H => ?_
      rw [i64_of (by omega) (by omega)]
      exact hN _ _ hlt2 ⟨hlt2, rfl, ks, cur ++ [-1 - R.getD i 0], X', c', K, ck, kbs, E, e, he, hel, by simp; omega, hE, H⟩
    · simp only [hneg, decide_false, go_sem, Nat.reduceEqDiff]
      have H := H.drew
      rw [ldB181 (H.box 3 rfl) rfl, ldB3 (H.box 5 rfl) rfl]
      refine callVc (caps := [ptrv bR, ptrv bG, ptrv bW, ptrv bF]) ?_
      refine ih H (by omega) (by omega) (fun hz w3 v W3 cw3 ws3 H => ?_) fun kid ws3 hz w3 b E' W3 cw3 H => ?_
      · simp only [go_sem, Nat.reduceEqDiff]
        have hnone : readR (readT gm.rules tree fu) R (a + 1) ws [] = none := by
          rw [← hE, readR, if_neg hneg, hz]
        rw [hnone] at hn
        exact hn rfl _ _ _ _ _ (((H.erase 5).erase 5).erase 5)
      · simp only [go_sem, Nat.reduceEqDiff]
        have hkl2 := readT_laid _ _ _ _ _ _ _ _ hz
        have hkw := readT_words (good_rule hg) _ _ _ _ _ _ hz
        have hkf := readT_le hz
        rw [ldB91 (H.box 6 rfl) rfl]
        refine bs91 [ptrv b] (by decide) (by simp [Instr.fill, madeCells, Value.cells, rng1]) rfl fun b4 w4 hb4 hb4' g4 hB4 hr4 => ?_
        have H := H.step g4
        refine appendH H 7 rfl u91 inf86 rfl (by decide) (Row.src (hr4 _ (Nat.le_refl _))) rfl (ptrs_one [b]) (by omega) (by omega) fun X' c' w5 H => ?_
        refine storeH H 6 rfl sz91 rfl rfl rfl fun w6 H => ?_
        obtain ⟨Xk, ck', hbk, _⟩ := (show PartAt E' w6 kid b from H.get 5 rfl).box
        rw [ldB3 hbk rfl]
        refine storeH H 6 rfl sz3 rfl rfl rfl fun w7 H => ?_
        have H := H.both 8 5 (by decide) rfl rfl
        have H := H.weaken 7 (b := ptsi (fun q => E q ∨ E' q) (ks ++ [kid]) (kbs ++ [b])) rfl (fun q hq => hq) (fun w' _ hp => (AllPt.mono hp.1 fun q h => .inl h).append (AllPt.one (PartAt.mono (fun q h => .inr h) _ _ hp.2))) (fun w' w'' hh hp => AllPt.same hp hh)
        rw [i64_of (by omega) (by omega)]
        refine hN _ _ hlt2 ⟨hlt2, rfl, ks ++ [kid], ws3, W3, cw3, X', c', kbs ++ [b], fun q => E q ∨ E' q, kid.fin, ?_, hkf, ?_, ?_, ?_⟩
        · rw [partsL_append]
          simp only [PT.partsL, List.append_nil, List.length_append]
          omega
        · rw [partsL_append]
          simp only [PT.partsL, List.append_nil, List.length_append]
          omega
        · rw [← hE, readR, if_neg hneg, hz]
        · rw [List.map_append, List.length_append]
          exact H
end Go.Proofs.Ytiohaeckagjebaa

/- Contracts: what derives a part of a word, by the program. -/
set_option linter.unusedVariables false
set_option linter.unusedSimpArgs false
set_option maxRecDepth 100000
namespace Go.Sh
open Go
def cellsT (T : Tab) : List Value := (List.range 726).map fun p => .bool (cellT T p)
theorem cellsT_length (T : Tab) : (cellsT T).length = 726 := by simp [cellsT]
theorem cellT_at {T : Tab} {x i j : Nat} (hi : i < 11) (hj : j < 11) : cellT T (x * 121 + i * 11 + j) = T x i j := by
  have e1 : (x * 121 + i * 11 + j) / 121 = x := by omega
  have e2 : (x * 121 + i * 11 + j) / 11 % 11 = i := by omega
  have e3 : (x * 121 + i * 11 + j) % 11 = j := by omega
  simp [cellT, e1, e2, e3]
theorem cellsT_at {T : Tab} {v : Value} {x i j : Nat} (hx : x < 6) (hi : i < 11) (hj : j < 11) : (v :: cellsT T)[x * 121 + i * 11 + j + 1]? = some (.bool (T x i j)) := by
  rw [List.getElem?_cons_succ]
  simp only [cellsT, List.getElem?_map]
  rw [List.getElem?_range (by omega)]
  simp only [Option.map_some, cellT_at hi hj]
theorem cellsT_put {T : Tab} {v : Value} {x i j : Nat} (hx : x < 6) (hi : i < 11) (hj : j < 11) : (v :: cellsT T).set (x * 121 + i * 11 + j + 1) (.bool true) = v :: cellsT (T.put x i j) := by
  rw [List.set_cons_succ]
  congr 1
  refine List.ext_getElem? fun p => ?_
  rw [List.getElem?_set]
  by_cases hp : x * 121 + i * 11 + j = p
  · subst hp
    rw [if_pos rfl, if_pos (by rw [cellsT_length]; omega)]
    simp only [cellsT, List.getElem?_map]
    rw [List.getElem?_range (by omega)]
    simp only [Option.map_some, cellT_at hi hj]
    simp [Tab.put]
  · rw [if_neg hp]
    simp only [cellsT, List.getElem?_map]
    by_cases hlt : p < 726
    · rw [List.getElem?_range hlt]
      simp only [Option.map_some, cellT, Tab.put]
      have : ¬ (p / 121 = x ∧ p / 11 % 11 = i ∧ p % 11 = j) := by omega
      rw [if_neg this]
    · rw [List.getElem?_eq_none (by simp; omega)]
      rfl
theorem take_put_drop {l : List Value} {m : Nat} {v : Value} (h : m < l.length) : l.take m ++ [v] ++ l.drop (m + 1) = l.set m v := by
  rw [List.set_eq_take_append_cons_drop, if_pos h]
  simp
end Go.Sh
namespace Go.Proofs.Ytiohaeckagjebaa
open Go Go.Sh Go.RowKit

theorem sequence_c {ws : List Int} (hl : ws.length ≤ 10) (hw : ∀ t ∈ ws, 0 ≤ t ∧ t ≤ 100) : ∀ (right : List Int) {w : World} {b : Nat} {X Y : Option Addr} {cx cy : Nat} {T : Tab} {i j : Nat} {k : Value → World → Prop}, Box w b (.slice X ws.length cx :: cellsT T) 111 → Ints w X ws → Ints w Y right → right.length ≤ cy → (∀ x ∈ right, x < 6 ∧ -100 ≤ x) → i ≤ j → j ≤ ws.length → k (.bool (fitsT T ws right i j)) w →
    CallK Try.prog 149 [ptrv b, .slice Y right.length cy, .int .i64 i, .int .i64 j] k w := by
  intro right
  induction right with
  | nil =>
    intro w b X Y cx cy T i j k hB hX hY hcy hr hi hj hk
    refine enter149 ?_
    unfold S149
    simp only [go_sem, List.length_nil]
    simp only [Int.natCast_zero, decide_true, go_sem, Nat.reduceEqDiff, Int.natCast_inj]
    exact hk
  | cons x right ih =>
    intro w b X Y cx cy T i j k hB hX hY hcy hr hi hj hk
    refine enter149 ?_
    unfold S149
    simp only [go_sem, List.length_cons]
    simp only [show ¬ (((right.length + 1 : Nat) : Int) = 0) from by omega, decide_false, go_sem, Nat.reduceEqDiff]
    have hx := hr x (List.mem_cons_self ..)
    have hr' : ∀ y ∈ right, y < 6 ∧ -100 ≤ y := fun y hy => hr y (List.mem_cons_of_mem _ hy)
    simp only [List.length_cons] at hcy
    have hY' : Ints w (sub Y 1 cy 1) right := by
      have := hY.sub (l := 1) (c := cy) (by simp) (by simp; omega) (right.length)
      simpa using this
    rw [ix22_0 (fun _ => hY.ptr (by simp)) (by omega), ld3 (hY.cell 0 (by simp))]
    simp only [List.getD_cons_zero, go_sem, Nat.reduceEqDiff]
    by_cases hneg : x < 0
    · simp only [hneg, decide_true, go_sem, Nat.reduceEqDiff]
      rw [fits_tok hneg] at hk
      by_cases hij : i < j
      case neg =>
        simp only [show ¬ ((i : Int) < j) from by omega, decide_false, go_sem, Nat.reduceEqDiff]
        simpa only [hij, decide_false, Bool.false_and] using hk
      simp only [show ((i : Int) < j) from by omega, decide_true, go_sem, Nat.reduceEqDiff]
      rw [decide_eq_true hij, Bool.true_and] at hk
      rw [ldB22 hB rfl, ixn22 hX.ptr (by omega), ld3 (hX.cell i (by omega))]
      refine symbolOf_c ?_
      have hwi := hw _ (getD_mem (show i < ws.length by omega))
      rw [i64_of (by omega) (by omega)]
      simp only [go_sem, Nat.reduceEqDiff]
      by_cases he : ws.getD i 0 = -1 - x
      case neg =>
        simp only [show ¬ (-1 - ws.getD i 0 = x) from by omega, decide_false, go_sem, Nat.reduceEqDiff]
        simpa only [he, decide_false, Bool.false_and] using hk
      simp only [show (-1 - ws.getD i 0 = x) from by omega, decide_true, go_sem, Nat.reduceEqDiff]
      rw [decide_eq_true he, Bool.true_and] at hk
      rw [sll22 (by decide) (by omega), i64_of (by omega) (by omega)]
      rw [show (1 : Int).toNat = 1 from rfl, Nat.add_sub_cancel]
      refine ih (i := i + 1) hB hX hY' (by omega) hr' (by omega) hj ?_
      exact hk
    · simp only [hneg, decide_false, go_sem, Nat.reduceEqDiff]
      rw [fits_non hneg] at hk
      obtain ⟨x, rfl⟩ : ∃ x' : Nat, x = x' := ⟨x.toNat, by omega⟩
      rw [Int.toNat_natCast] at hk
      refine loop_to (j + 1) i (fun m f w' => i ≤ m ∧ m ≤ j + 1 ∧ f 10 = .int .i64 m ∧ (∀ m', i ≤ m' → m' < m → (T x i m' && fitsT T ws right m' j) = false) ∧ w' = w) ⟨Nat.le_refl _, by omega, rfl, fun m' h1 h2 => by omega, rfl⟩ ?_
      rintro m f w' N hag ⟨hm1, hm2, h10, hno, rfl⟩ hN
      have f0 : f 0 = ptrv b := hag 0 (by decide)
      have f1 : f 1 = .slice Y (right.length + 1) cy := hag 1 (by decide)
      have f2 : f 2 = .int .i64 i := hag 2 (by decide)
      have f3 : f 3 = .int .i64 j := hag 3 (by decide)
      have f9 : f 9 = .int .i64 (x : Nat) := hag 9 (by decide)
      simp only [f0, f1, f2, f3, f9, h10, go_sem, Nat.reduceEqDiff]
      by_cases hle : m ≤ j
      case neg =>
        simp only [show ¬ ((m : Int) ≤ j) from by omega, decide_false, go_sem, Nat.reduceEqDiff]
        rw [any_upto (fun m' h1 h2 => hno m' h1 (by omega))] at hk
        exact hk
      simp only [show ((m : Int) ≤ j) from by omega, decide_true, go_sem, Nat.reduceEqDiff]
      rw [ixa109 (by omega) (by omega), ixa108 (by omega) (by omega), ixa107 (by omega) (by omega)]
      simp only [Int.toNat_natCast, go_sem, Nat.reduceEqDiff]
      rw [ldB4 (off := 0 + 1 + x * 121 + i * 11 + m) hB (by rw [show 0 + 1 + x * 121 + i * 11 + m = x * 121 + i * 11 + m + 1 from by omega]; exact cellsT_at (by omega) (by omega) (by omega))]
      cases hs : T x i m
      · simp only [go_sem, Nat.reduceEqDiff]
        rw [i64_of (by omega) (by omega)]
        exact hN _ _ (by omega) ⟨by omega, by omega, rfl, fun m' h1 h2 => by
          by_cases e : m' = m
          · rw [e, hs, Bool.false_and]
          · exact hno m' h1 (by omega), rfl⟩
      · simp only [go_sem, Nat.reduceEqDiff]
        rw [sll22 (by decide) (by omega)]
        rw [show (1 : Int).toNat = 1 from rfl, Nat.add_sub_cancel]
        refine ih hB hX hY' (by omega) hr' (by omega) hj ?_
        cases hf : fitsT T ws right m j
        · simp only [go_sem, Nat.reduceEqDiff]
          rw [i64_of (by omega) (by omega)]
          exact hN _ _ (by omega) ⟨by omega, by omega, rfl, fun m' h1 h2 => by
            by_cases e : m' = m
            · rw [e, hf, Bool.and_false]
            · exact hno m' h1 (by omega), rfl⟩
        · simp only [go_sem, Nat.reduceEqDiff]
          rw [any_at hm1 hle (by rw [hs, hf]; rfl)] at hk
          exact hk
end Go.Proofs.Ytiohaeckagjebaa

/- Contracts: the reference's table of what derives what. -/
set_option linter.unusedVariables false
set_option linter.unusedSimpArgs false
set_option maxRecDepth 100000
namespace Go.Sh
open Go
theorem madeCells_one (v : Value) (n : Nat) : (madeCells #[v] (n * 1)).toList = List.replicate n v := by
  rw [Nat.mul_one]
  refine List.ext_getElem? fun i => ?_
  unfold madeCells
  by_cases h : i < n
  · simp [h, Nat.mod_one]
  · rw [List.getElem?_eq_none (by simp; omega), List.getElem?_eq_none (by simp; omega)]
theorem rowB_none (n x : Nat) : rowB noTab n x = List.replicate (n * n) (.bool false) := by
  refine List.ext_getElem? fun i => ?_
  by_cases h : i < n * n
  · simp [rowB, h, noTab]
  · rw [List.getElem?_eq_none (by rw [rowB_length]; omega), List.getElem?_eq_none (by simp; omega)]
theorem set_td {α : Type} {xs ys : List α} {i : Nat} {a : α} (h : i < ys.length) (hl : xs.length = ys.length) (ha : xs[i]? = some a) : (xs.take i ++ ys.drop i).set i a = xs.take (i + 1) ++ ys.drop (i + 1) := by
  have hi : i < xs.length := by omega
  obtain rfl : xs[i] = a := by simpa [hi] using ha
  rw [List.take_succ_eq_append_getElem hi, List.set_append_right _ _ (by simp; omega)]
  rw [show i - (xs.take i).length = 0 from by simp; omega, List.drop_eq_getElem_cons h, List.set_cons_zero, List.append_assoc]
  rfl
def tabSt (rs : List RuleL) (ws : List Int) (s : Tab × Bool) : Prop := if s.2 = true then ∀ U, Span rs ws s.1 U → Span rs ws noTab U else Span rs ws noTab s.1
theorem tabSt_next {rs : List RuleL} {ws : List Int} {T : Tab} (h : tabSt rs ws (T, true)) : tabSt rs ws (passT rs ws (T, false)) := by
  unfold tabSt at h ⊢
  rw [if_pos rfl] at h
  cases hc : (passT rs ws (T, false)).2
  · rw [if_neg (by decide)]
    exact h _ (.done hc)
  · rw [if_pos rfl]
    exact fun U hU => h U (.more hc hU)
theorem good_right {g : Gram} (hg : goodG g = true) {q : Nat} (hq : q < g.rules.length) : ∀ x ∈ (rul g.rules q).2, x < g.nons ∧ -100 ≤ x := fun x hx => by
  obtain ⟨i, hi, rfl⟩ := List.getElem_of_mem hx
  have := good_symb hg hq hi
  rw [List.getD_eq_getElem?_getD, List.getElem?_eq_getElem hi] at this
  simp only [Option.getD_some] at this
  omega
theorem good_left {g : Gram} (hg : goodG g = true) {q : Nat} (hq : q < g.rules.length) : 0 ≤ (rul g.rules q).1 ∧ (rul g.rules q).1 ≤ g.nons - 1 := by
  simp only [goodG, Bool.and_eq_true, List.all_eq_true] at hg
  have h1 := hg.2 q (List.mem_range.2 hq)
  simp only [goodR, Bool.and_eq_true, inB, decide_eq_true_eq] at h1
  exact h1.1.1.1
theorem good_left6 {g : Gram} (hg : goodG g = true) : ∀ r ∈ g.rules, r.1.toNat < 6 := fun r hr => by
  obtain ⟨i, hi, rfl⟩ := List.getElem_of_mem hr
  have := good_left hg hi
  have := good_nons hg
  rw [rul_eq hi] at *
  omega
end Go.Sh
namespace Go.Proofs.Ytiohaeckagjebaa
open Go Go.Sh Go.RowKit
theorem inf4' : Inf Try.prog 4 (.bool false) 1 1 := inf_of (by kernel_rfl)

theorem l4Table_c {F : Nat → Prop} {w : World} {v : Value} {gm : Gram} {X : Option Addr} {cx n0 : Nat} {ws : List Int} (hv : GramV F w v gm) (hg : goodG gm = true) (hX : Ints w X ws) (hn : n0 = ws.length) (hl : ws.length ≤ 10) {k : Value → World → Prop}
    (hk : ∀ w' U c nons, Gr w w' → gm.nons = (nons : Nat) → TabS w' U nons (ws.length + 1) (spanT gm.rules ws) → k (.slice U nons c) w') :
    CallK Try.prog 148 [v, .slice X n0 cx] k w := by
  subst hn
  obtain ⟨Y, cy, rfl, hc, hy⟩ := hv
  have hn6 := good_nons hg
  have hr16 := good_len hg
  have hleft6 := good_left6 hg
  obtain ⟨nons, hnn⟩ : ∃ n : Nat, gm.nons = n := ⟨gm.nons.toNat, by omega⟩
  refine enter148 ?_
  unfold S148
  have H := Apt.nil w
  refine boxH H fun b1 w1 H => ?_
  rw [hnn] at H
  simp only [go_sem, Nat.reduceEqDiff]
  rw [ldB3 (H.box 0 rfl) rfl]
  rw [i64_of (by omega) (by omega)]
  refine makeH H u162 inf161 (by omega) (by omega) fun b2 w2 H => ?_
  rw [show (Value.slice none 0 0).cells = #[.slice none 0 0] from rfl, madeCells_one] at H
  have H := H.nilVV 1 4 rfl
  simp only [List.nil_append, List.cons_append, List.set_cons_zero, List.set_cons_succ] at H
  simp only [go_sem, Nat.reduceEqDiff]
  generalize hN : ws.length + 1 = n at *
  have hNi : ((ws.length : Int) + 1) = (n : Int) := by omega
  rw [hNi]
  have hnn11 : n * n ≤ 11 * 11 := Nat.mul_le_mul (by omega) (by omega)
  have hrl : (rowsB noTab nons n).length = nons := rowsB_length _ _ _
  refine loop_to nons 0 (fun i f w' => i ≤ nons ∧ f 21 = .int .i64 i ∧ ∃ (ps : Nat → Option Addr × Nat), Apt w w' [bx b1 [.int .i64 nons, .int .i64 gm.toks, .slice Y gm.rules.length cy] 37, vvi 161 4 (some ⟨b2, 0, none⟩) nons ((rowsB noTab nons n).take i ++ (List.replicate nons []).drop i) ps])
    ⟨Nat.zero_le _, rfl, _, by rw [List.take_zero, List.drop_zero, List.nil_append]; exact H⟩ ?_
  rintro i f w3 N hag ⟨hi, h21, ps, H⟩ hN'
  have f20 : f 20 = .int .i64 nons := hag 20 (by decide)
  have f5 : f 5 = .int .i64 n := hag 5 (by decide)
  have f6 : f 6 = .slice (some ⟨b2, 0, none⟩) nons nons := hag 6 (by decide)
  have f2 : f 2 = ptrv b1 := hag 2 (by decide)
  have f1 : f 1 = .slice X ws.length cx := hag 1 (by decide)
  simp only [f20, f5, f6, h21, go_sem, Nat.reduceEqDiff]
  by_cases hlt : i < nons
  · simp only [show (i : Int) < nons from by omega, decide_true, go_sem, Nat.reduceEqDiff]
    rw [show (n : Int) * (n : Int) = ((n * n : Nat) : Int) from by push_cast; rfl, i64_of (by omega) (by omega)]
    refine makeH H (n := n * n) u161 inf4' (by omega) (by omega) fun b3 w4 H => ?_
    rw [show (Value.bool false).cells = #[.bool false] from rfl, madeCells_one, ← rowB_none n i] at H
    rw [ixn162 (fun _ => rfl) hlt]
    refine setRowVV H 1 2 i (by decide) rfl rfl (by rw [rowB_length]) (by decide) sz161 (by simp; omega) fun w5 ps' H => ?_
    have H := H.erase 2
    rw [set_td (by simp; omega) (by simp [hrl]) (by simp [rowsB, hlt])] at H
    rw [i64_of (by omega) (by omega)]
    exact hN' _ _ hlt ⟨hlt, rfl, ps', H⟩
  have hin : i = nons := by omega
  simp only [show ¬ ((i : Int) < nons) from by omega, decide_false, go_sem, Nat.reduceEqDiff]
  rw [hin, List.drop_eq_nil_of_le (by simp), List.append_nil, List.take_of_length_le (by rw [hrl]; exact Nat.le_refl _)] at H
  clear hN' hin h21 hi hlt
  refine loop_ghost (fun (s : Tab × Bool) f w' => tabSt gm.rules ws s ∧ f 8 = .bool s.2 ∧ ∃ (ps : Nat → Option Addr × Nat), Apt w w' [bx b1 [.int .i64 nons, .int .i64 gm.toks, .slice Y gm.rules.length cy] 37, vvi 161 4 (some ⟨b2, 0, none⟩) nons (rowsB s.1 nons n) ps]) (fun s => if s.2 = true then openT s.1 + 1 else 0) (noTab, true)
    ⟨by unfold tabSt; rw [if_pos rfl]; exact fun U h => h, rfl, ps, H⟩ ?_
  rintro ⟨T, more⟩ f7 w6 N2 hag2 ⟨hst, h8, ps, H⟩ hN2
  have f2' : f7 2 = ptrv b1 := (hag2 2 (by decide)).trans f2
  have f6' : f7 6 = .slice (some ⟨b2, 0, none⟩) nons nons := (hag2 6 (by decide)).trans f6
  have f5' : f7 5 = .int .i64 n := (hag2 5 (by decide)).trans f5
  have f1' : f7 1 = .slice X ws.length cx := (hag2 1 (by decide)).trans f1
  simp only [h8, f2', go_sem, Nat.reduceEqDiff]
  cases more
  · simp only [go_sem, Nat.reduceEqDiff]
    rw [f6']
    have hsp : T = spanT gm.rules ws := by
      unfold tabSt at hst
      rw [if_neg Bool.false_ne_true] at hst
      exact hst.eq
    rw [← hsp] at hk
    exact hk _ _ nons _ H.gr hnn ((H.vv 1 rfl).tab (by omega))
  simp only [go_sem, Nat.reduceEqDiff]
  rw [ldB35 (H.box 0 rfl) rfl]
  simp only [go_sem, Nat.reduceEqDiff]
  refine loop_to gm.rules.length 0 (fun q f w' => q ≤ gm.rules.length ∧ f 36 = .int .i64 q ∧ f 8 = .bool ((gm.rules.take q).foldl (ruleT ws) (T, false)).2 ∧ ∃ (ps : Nat → Option Addr × Nat), Apt w w' [bx b1 [.int .i64 nons, .int .i64 gm.toks, .slice Y gm.rules.length cy] 37, vvi 161 4 (some ⟨b2, 0, none⟩) nons (rowsB ((gm.rules.take q).foldl (ruleT ws) (T, false)).1 nons n) ps])
    ⟨Nat.zero_le _, rfl, rfl, ps, H⟩ ?_
  rintro q g1 w7 N3 hag3 ⟨hq, h36, h8', ps, H⟩ hN3
  have e34 : g1 34 = .slice Y gm.rules.length cy := hag3 34 (by decide)
  have e35 : g1 35 = .int .i64 gm.rules.length := hag3 35 (by decide)
  have e5 : g1 5 = .int .i64 n := (hag3 5 (by decide)).trans f5'
  have e6 : g1 6 = .slice (some ⟨b2, 0, none⟩) nons nons := (hag3 6 (by decide)).trans f6'
  have e1 : g1 1 = .slice X ws.length cx := (hag3 1 (by decide)).trans f1'
  simp only [e34, e35, h36, go_sem, Nat.reduceEqDiff]
  by_cases hlq : q < gm.rules.length
  case neg =>
    simp only [show ¬ ((q : Int) < gm.rules.length) from by omega, decide_false, go_sem, Nat.reduceEqDiff]
    rw [List.take_of_length_le (by omega)] at h8' H
    have hinc := passT_inc hleft6 hl (T, false)
    refine hN2 (passT gm.rules ws (T, false)) _ _ ⟨tabSt_next hst, h8', ps, H⟩ ?_
    rw [if_pos rfl]
    rcases hinc with he | ⟨h1, h2⟩
    · rw [he, if_neg Bool.false_ne_true]
      omega
    · rw [if_pos h1]
      dsimp only at h2 ⊢
      omega
  simp only [show ((q : Int) < gm.rules.length) from by omega, decide_true, go_sem, Nat.reduceEqDiff]
  obtain ⟨Z, cz, t1, t2, t3, t4⟩ := hy.row q hlq
  have hleft := good_left hg hlq
  have hright := good_right hg hlq
  have hR4 := good_rule hg q hlq
  generalize hr : rul gm.rules q = r at *
  obtain ⟨xl, hxl⟩ : ∃ x : Nat, r.1 = x := ⟨r.1.toNat, by omega⟩
  rw [hxl] at t1 hleft
  rw [ixn35 hy.ptr hlq, ld_agg agg77 sz77 (cs := [.int .i64 xl, .slice Z r.2.length cz]) rfl (fun j hj => by
    match j, hj with
    | 0, _ => rw [add_add, Nat.add_zero]; exact H.gr.cell t1
    | 1, _ => rw [add_add]; exact H.gr.cell t2)]
  refine allocH H inf77 fun b3 w8 H => ?_
  refine storeH H 2 rfl sz77 rfl rfl rfl fun w9 H => ?_
  simp only [List.nil_append, List.cons_append, List.set_cons_zero, List.set_cons_succ] at H
  generalize hs0 : (gm.rules.take q).foldl (ruleT ws) (T, false) = s0 at *
  refine loop_to n 0 (fun a f w' => a ≤ n ∧ f 11 = .int .i64 a ∧ f 8 = .bool ((List.range a).foldl (rowT ws r) s0).2 ∧ ∃ (ps : Nat → Option Addr × Nat), Apt w w' [bx b1 [.int .i64 nons, .int .i64 gm.toks, .slice Y gm.rules.length cy] 37, vvi 161 4 (some ⟨b2, 0, none⟩) nons (rowsB ((List.range a).foldl (rowT ws r) s0).1 nons n) ps, bx b3 [.int .i64 xl, .slice Z r.2.length cz] 77])
    ⟨Nat.zero_le _, rfl, h8', ps, H⟩ ?_
  rintro a g2 w10 N4 hag4 ⟨ha, h11, h8a, ps, H⟩ hN4
  have k5 : g2 5 = .int .i64 n := (hag4 5 (by decide)).trans e5
  have k6 : g2 6 = .slice (some ⟨b2, 0, none⟩) nons nons := (hag4 6 (by decide)).trans e6
  have k1 : g2 1 = .slice X ws.length cx := (hag4 1 (by decide)).trans e1
  have k10 : g2 10 = ptrv b3 := hag4 10 (by decide)
  have k36 : g2 36 = .int .i64 q := (hag4 36 (by decide)).trans h36
  simp only [k5, h11, k36, go_sem, Nat.reduceEqDiff]
  by_cases hla : a < n
  case neg =>
    simp only [show ¬ ((a : Int) < n) from by omega, decide_false, go_sem, Nat.reduceEqDiff]
    rw [i64_of (by omega) (by omega)]
    have han : a = n := by omega
    rw [han] at h8a H
    have hstep : (gm.rules.take (q + 1)).foldl (ruleT ws) (T, false) = (List.range n).foldl (rowT ws r) s0 := by
      rw [foldl_take _ _ _ hlq, hs0, hr, ← hN]
      rfl
    refine hN3 _ _ hlq ⟨hlq, rfl, ?_, ps, ?_⟩
    · rw [hstep]
      exact h8a
    · rw [hstep]
      exact H.take 2
  simp only [show ((a : Int) < n) from by omega, decide_true, go_sem, Nat.reduceEqDiff]
  generalize hs1 : (List.range a).foldl (rowT ws r) s0 = s1 at *
  refine loop_to n a (fun b f w' => a ≤ b ∧ b ≤ n ∧ f 12 = .int .i64 b ∧ f 8 = .bool ((List.range' a (b - a)).foldl (Sh.stepT ws r a) s1).2 ∧ ∃ (ps : Nat → Option Addr × Nat), Apt w w' [bx b1 [.int .i64 nons, .int .i64 gm.toks, .slice Y gm.rules.length cy] 37, vvi 161 4 (some ⟨b2, 0, none⟩) nons (rowsB ((List.range' a (b - a)).foldl (Sh.stepT ws r a) s1).1 nons n) ps, bx b3 [.int .i64 xl, .slice Z r.2.length cz] 77])
    ⟨Nat.le_refl _, by omega, rfl, by rw [Nat.sub_self]; exact h8a, ps, by rw [Nat.sub_self]; exact H⟩ ?_
  rintro b g3 w11 N5 hag5 ⟨hb1, hb2, h12, h8b, ps, H⟩ hN5
  have m5 : g3 5 = .int .i64 n := (hag5 5 (by decide)).trans k5
  have m6 : g3 6 = .slice (some ⟨b2, 0, none⟩) nons nons := (hag5 6 (by decide)).trans k6
  have m1 : g3 1 = .slice X ws.length cx := (hag5 1 (by decide)).trans k1
  have m10 : g3 10 = ptrv b3 := (hag5 10 (by decide)).trans k10
  have m11 : g3 11 = .int .i64 a := (hag5 11 (by decide)).trans h11
  simp only [m5, m6, m1, m10, m11, h12, go_sem, Nat.reduceEqDiff]
  by_cases hlb : b < n
  case neg =>
    simp only [show ¬ ((b : Int) < n) from by omega, decide_false, go_sem, Nat.reduceEqDiff]
    rw [i64_of (by omega) (by omega)]
    have hbn : b = n := by omega
    rw [hbn] at h8b H
    have hstep : (List.range (a + 1)).foldl (rowT ws r) s0 = (List.range' a (n - a)).foldl (Sh.stepT ws r a) s1 := by
      rw [foldl_range, hs1, ← hN]
      rfl
    refine hN4 _ _ hla ⟨hla, rfl, ?_, ps, ?_⟩
    · rw [hstep]
      exact h8b
    · rw [hstep]
      exact H
  simp only [show ((b : Int) < n) from by omega, decide_true, go_sem, Nat.reduceEqDiff]
  have hstep : (List.range' a (b + 1 - a)).foldl (Sh.stepT ws r a) s1 = Sh.stepT ws r a ((List.range' a (b - a)).foldl (Sh.stepT ws r a) s1) b := by
    rw [show b + 1 - a = b - a + 1 from by omega, foldl_range', show a + (b - a) = b from by omega]
  generalize hs2 : (List.range' a (b - a)).foldl (Sh.stepT ws r a) s1 = s2 at *
  have hxn : xl < nons := by omega
  have hab := place_lt (n := n) (show a < n by omega) hlb
  have hT := (H.vv 1 rfl).tab (by omega)
  have hxr : xl < (rowsB s2.1 nons n).length := by rw [rowsB_length]; exact hxn
  have hcell := (H.vv 1 rfl).cell hxr
  have hown := (H.vv 1 rfl).own xl hxr
  rw [vls_rowsB hxn, rowB_length] at hcell hown
  have hR0 : (ps xl).1 = some (ad (ps xl).1) := hown.ptr (by omega)
  have hab' : (a : Int) * (n : Int) = ((a * n : Nat) : Int) := by push_cast; rfl
  have hidx : IntKind.i64.wrap (IntKind.i64.wrap ((a : Int) * (n : Int)) + (b : Int)) = ((a * n + b : Nat) : Int) := by
    rw [hab', i64_of (n := ((a * n : Nat) : Int)) (by omega) (by omega), i64_of (by omega) (by omega)]
    rfl
  rw [hidx, ldB3 (H.box 2 rfl) rfl]
  refine rdi (ixn162 (fun _ => rfl) hxn) (rdi (ld161 hcell) (rdi (ixn161 (fun _ => hR0) hab) (rdi (ld4 (hown.src.cell _ _ (rowB_at hla hlb))) ?_)))
  simp only [go_sem, Nat.reduceEqDiff]
  have hstepT : Sh.stepT ws r a s2 b = if (!s2.1 xl a b && fitsT s2.1 ws r.2 a b) = true then (s2.1.put xl a b, true) else s2 := by
    unfold Sh.stepT
    rw [hxl, Int.toNat_natCast]
  have stay : Sh.stepT ws r a s2 b = s2 → ∀ f', f' 12 = .int .i64 (b + 1 : Nat) → f' 8 = .bool s2.2 → N5 f' w11 := fun he f' q12 q8 => hN5 f' w11 hlb ⟨by omega, hlb, q12, by rw [hstep, he]; exact q8, ps, by rw [hstep, he]; exact H⟩
  cases hc0 : s2.1 xl a b
  case true =>
    simp only [Bool.not_true, go_sem, Nat.reduceEqDiff]
    rw [i64_of (n := (b : Int) + 1) (by omega) (by omega)]
    exact stay (by rw [hstepT, hc0]; rfl) _ rfl h8b
  simp only [Bool.not_false, go_sem, Nat.reduceEqDiff]
  rw [ldB22 (H.box 2 rfl) rfl]
  rw [← hN] at hT
  refine l4Fits_c hl r.2 hT (hX.gr H.gr) (t4.is.gr H.gr) t3 (fun x hx => by have := hright x hx; omega) hb1 (by omega) ?_
  cases hft : fitsT s2.1 ws r.2 a b
  · simp only [go_sem, Nat.reduceEqDiff]
    rw [i64_of (n := (b : Int) + 1) (by omega) (by omega)]
    exact stay (by rw [hstepT, hc0, hft]; rfl) _ rfl h8b
  simp only [go_sem, Nat.reduceEqDiff]
  rw [ldB3 (H.box 2 rfl) rfl]
  refine rdi (ixn162 (fun _ => rfl) hxn) (rdi (ld161 hcell) (rdi (ixn161 (fun _ => hR0) hab) ?_))
  refine storeVV H 1 xl (m := a * n + b) rfl (by decide) sz4 rfl rfl hxr (by rw [vls_rowsB hxn, rowB_length]; exact hab) fun w12 H => ?_
  rw [rowsB_put hxn hla hlb] at H
  rw [i64_of (n := (b : Int) + 1) (by omega) (by omega)]
  refine hN5 _ _ hlb ⟨by omega, hlb, rfl, ?_, ps, ?_⟩
  · rw [hstep, hstepT, hc0, hft]
    rfl
  · rw [hstep, hstepT, hc0, hft]
    exact H
theorem l4In_c {F : Nat → Prop} {w : World} {v : Value} {gm : Gram} {X : Option Addr} {cx n0 : Nat} {ws : List Int} (hv : GramV F w v gm) (hg : goodG gm = true) (hX : Ints w X ws) (hn : n0 = ws.length) (hl : ws.length ≤ 10) {k : Value → World → Prop}
    (hk : ∀ w', Gr w w' → k (.bool (inL gm.rules ws)) w') : CallK Try.prog 102 [v, .int .i64 0, .slice X n0 cx] k w := by
  subst hn
  obtain ⟨Y, cy, rfl, hc, hy⟩ := hv
  have hn6 := good_nons hg
  refine enter102 ?_
  unfold S102
  have H := Apt.nil w
  refine boxH H fun b1 w1 H => ?_
  rw [ldB_agg agg37 sz37 rfl (H.box 0 rfl)]
  refine l4Table_c (gm := gm) ⟨Y, cy, rfl, hc, hy.gr H.gr⟩ hg (hX.gr H.gr) rfl hl fun w2 U c nons g2 hnn hT => ?_
  have hns : 0 < nons := by omega
  obtain ⟨R, cr, h1, h2, h3⟩ := hT.row 0 hns
  have := h3 0 ws.length (by omega) (by omega)
  rw [Nat.zero_mul, Nat.zero_add] at this
  rw [ix162_0 hT.ptr hns, ld161 h1]
  simp only [go_sem, Nat.reduceEqDiff]
  rw [ixn161 (fun _ => h2) (Nat.lt_of_lt_of_le (Nat.lt_succ_self _) (Nat.le_mul_of_pos_left _ (by omega))), ld4 this]
  exact hk _ (gr_trans H.gr g2)
end Go.Proofs.Ytiohaeckagjebaa

/- Contract: the program's table of what derives what. -/
set_option linter.unusedVariables false
set_option linter.unusedSimpArgs false
set_option maxRecDepth 100000
namespace Go.Sh
open Go
theorem map_const_range (n : Nat) (v : Value) : (List.range n).map (fun _ => v) = List.replicate n v := by
  rw [List.map_const', List.length_range]
theorem cellsT_none : cellsT noTab = List.replicate 726 (.bool false) := map_const_range 726 (.bool false)
theorem fill_one {place : Nat → Option (Nat × Nat)} {cells : Array Value} {v : Value} (hp : place 0 = some (0, 1)) (hv : v.cells = #[v]) (h0 : 0 < cells.size) : Instr.fill place cells [(0, v)] = some (cells.setIfInBounds 0 v) := by
  simp only [Instr.fill, hp, hv]
  have e : (decide ((#[v] : Array Value).size ≠ 1) || decide (0 + (#[v] : Array Value).size > cells.size)) = false := by
    rw [Bool.or_eq_false_iff]
    exact ⟨by simp, decide_eq_false (by show ¬ (0 + 1 > cells.size); omega)⟩
  rw [if_neg (by rw [e]; exact Bool.false_ne_true)]
  simp
theorem set_head {a v : Value} {R : Array Value} : (#[a] ++ R).setIfInBounds 0 v = #[v] ++ R := by
  apply Array.ext'
  simp
theorem agg_pos (v : Value) (R : Array Value) : 0 < (Value.agg (#[v] ++ R)).cells.size := by
  show 0 < (#[v] ++ R).size
  simp
  omega
theorem agg_list (v : Value) (R : Array Value) : (Value.agg (#[v] ++ R)).cells.toList = v :: R.toList := by
  show (#[v] ++ R).toList = _
  simp
theorem rep_list (n : Nat) (v : Value) : (Array.replicate n v).toList = List.replicate n v := Array.toList_replicate
end Go.Sh
namespace Go.Proofs.Ytiohaeckagjebaa
open Go Go.Sh Go.RowKit
theorem inf111' : Inf Try.prog 111 (.agg (#[.slice none 0 0] ++ Array.replicate 726 (.bool false))) 727 752 := inf_of (by kernel_rfl)
theorem sz109' : szOf Try.prog 109 726 := szOf_of (by kernel_rfl)
theorem bd111 (X : Option Addr) (n c : Nat) : ∃ z : Value, (∀ (S : WS) (k : Value → Prop), Rd Try.prog S (sBuild 111 [(0, .slice X n c)]) k = k z) ∧ z.cells.toList = .slice X n c :: cellsT noTab := by
  refine ⟨.agg (#[.slice X n c] ++ Array.replicate 726 (.bool false)), fun S k => ?_, ?_⟩
  · refine rd_buildN (ps := [(0, 1), (1, 726)]) Try.underlying111 inf111' ⟨⟨rfl, sz22⟩, ⟨rfl, sz109'⟩, trivial⟩ ((fill_one rfl rfl ?_).trans (congrArg some set_head))
    exact agg_pos _ _
  · rw [agg_list, cellsT_none]
    exact congrArg _ (rep_list _ _)

theorem spans_c {F : Nat → Prop} {w : World} {v : Value} {gm : Gram} {X : Option Addr} {cx n0 : Nat} {ws : List Int} (hv : GramV F w v gm) (hg : goodG gm = true) (hX : Ints w X ws) (hn : n0 = ws.length) (hl : ws.length ≤ 10) (hw : ∀ t ∈ ws, 0 ≤ t ∧ t ≤ 100) {k : Value → World → Prop}
    (hk : ∀ w' b, Apt w w' [bx b (.slice X ws.length cx :: cellsT (spanT gm.rules ws)) 111] → k (ptrv b) w') :
    CallK Try.prog 104 [v, .slice X n0 cx] k w := by
  subst hn
  obtain ⟨Y, cy, rfl, hc, hy⟩ := hv
  have hn6 := good_nons hg
  have hr16 := good_len hg
  have hleft6 := good_left6 hg
  refine enter104 ?_
  unfold S104
  have H := Apt.nil w
  refine boxH H fun b1 w1 H => ?_
  obtain ⟨z, hz1, hz2⟩ := bd111 X ws.length cx
  refine rdi (hz1 _ _) ?_
  refine boxH H fun b2 w2 H => ?_
  rw [hz2] at H
  simp only [List.nil_append, List.cons_append] at H
  refine loop_ghost (fun (s : Tab × Bool) f w' => tabSt gm.rules ws s ∧ f 6 = .bool s.2 ∧ Apt w w' [bx b1 [.int .i64 gm.nons, .int .i64 gm.toks, .slice Y gm.rules.length cy] 37, bx b2 (.slice X ws.length cx :: cellsT s.1) 111]) (fun s => if s.2 = true then openT s.1 + 1 else 0) (noTab, true)
    ⟨by unfold tabSt; rw [if_pos rfl]; exact fun U h => h, rfl, H⟩ ?_
  rintro ⟨T, more⟩ f7 w6 N2 hag2 ⟨hst, h8, H⟩ hN2
  have f2' : f7 2 = ptrv b1 := hag2 2 (by decide)
  have f5' : f7 5 = ptrv b2 := hag2 5 (by decide)
  have f1' : f7 1 = .slice X ws.length cx := hag2 1 (by decide)
  simp only [h8, f2', go_sem, Nat.reduceEqDiff]
  cases more
  · simp only [go_sem, Nat.reduceEqDiff]
    rw [f5']
    have hsp : T = spanT gm.rules ws := by
      unfold tabSt at hst
      rw [if_neg Bool.false_ne_true] at hst
      exact hst.eq
    rw [← hsp] at hk
    exact hk _ b2 (H.erase 0)
  simp only [go_sem, Nat.reduceEqDiff]
  rw [ldB35 (H.box 0 rfl) rfl]
  simp only [go_sem, Nat.reduceEqDiff]
  refine loop_to gm.rules.length 0 (fun q f w' => q ≤ gm.rules.length ∧ f 18 = .int .i64 q ∧ f 6 = .bool ((gm.rules.take q).foldl (ruleT ws) (T, false)).2 ∧ Apt w w' [bx b1 [.int .i64 gm.nons, .int .i64 gm.toks, .slice Y gm.rules.length cy] 37, bx b2 (.slice X ws.length cx :: cellsT ((gm.rules.take q).foldl (ruleT ws) (T, false)).1) 111])
    ⟨Nat.zero_le _, rfl, rfl, H⟩ ?_
  rintro q g1 w7 N3 hag3 ⟨hq, h36, h8', H⟩ hN3
  have e34 : g1 16 = .slice Y gm.rules.length cy := hag3 16 (by decide)
  have e35 : g1 17 = .int .i64 gm.rules.length := hag3 17 (by decide)
  have e5 : g1 5 = ptrv b2 := (hag3 5 (by decide)).trans f5'
  have e1 : g1 1 = .slice X ws.length cx := (hag3 1 (by decide)).trans f1'
  simp only [e34, e35, e1, h36, go_sem, Nat.reduceEqDiff]
  by_cases hlq : q < gm.rules.length
  case neg =>
    simp only [show ¬ ((q : Int) < gm.rules.length) from by omega, decide_false, go_sem, Nat.reduceEqDiff]
    rw [List.take_of_length_le (by omega)] at h8' H
    have hinc := passT_inc hleft6 hl (T, false)
    refine hN2 (passT gm.rules ws (T, false)) _ _ ⟨tabSt_next hst, h8', H⟩ ?_
    rw [if_pos rfl]
    rcases hinc with he | ⟨h1, h2⟩
    · rw [he, if_neg Bool.false_ne_true]
      omega
    · rw [if_pos h1]
      dsimp only at h2 ⊢
      omega
  simp only [show ((q : Int) < gm.rules.length) from by omega, decide_true, go_sem, Nat.reduceEqDiff]
  obtain ⟨Z, cz, t1, t2, t3, t4⟩ := hy.row q hlq
  have hleft := good_left hg hlq
  have hright := good_right hg hlq
  have hR4 := good_rule hg q hlq
  generalize hr : rul gm.rules q = r at *
  obtain ⟨xl, hxl⟩ : ∃ x : Nat, r.1 = x := ⟨r.1.toNat, by omega⟩
  rw [hxl] at t1 hleft
  rw [ixn35 hy.ptr hlq, ld_agg agg77 sz77 (cs := [.int .i64 xl, .slice Z r.2.length cz]) rfl (fun j hj => by
    match j, hj with
    | 0, _ => rw [add_add, Nat.add_zero]; exact H.gr.cell t1
    | 1, _ => rw [add_add]; exact H.gr.cell t2)]
  refine allocH H inf77 fun b3 w8 H => ?_
  refine storeH H 2 rfl sz77 rfl rfl rfl fun w9 H => ?_
  simp only [List.nil_append, List.cons_append, List.set_cons_zero, List.set_cons_succ] at H
  generalize hN : ws.length + 1 = n at *
  have hNi : ((ws.length : Int) + 1) = (n : Int) := by omega
  rw [hNi, i64_of (n := (n : Int)) (by omega) (by omega)]
  generalize hs0 : (gm.rules.take q).foldl (ruleT ws) (T, false) = s0 at *
  refine loop_to n 0 (fun a f w' => a ≤ n ∧ f 25 = .int .i64 a ∧ f 6 = .bool ((List.range a).foldl (rowT ws r) s0).2 ∧ Apt w w' [bx b1 [.int .i64 gm.nons, .int .i64 gm.toks, .slice Y gm.rules.length cy] 37, bx b2 (.slice X ws.length cx :: cellsT ((List.range a).foldl (rowT ws r) s0).1) 111, bx b3 [.int .i64 xl, .slice Z r.2.length cz] 77])
    ⟨Nat.zero_le _, rfl, h8', H⟩ ?_
  rintro a g2 w10 N4 hag4 ⟨ha, h11, h8a, H⟩ hN4
  have k24 : g2 24 = .int .i64 n := hag4 24 (by decide)
  have k5 : g2 5 = ptrv b2 := (hag4 5 (by decide)).trans e5
  have k1 : g2 1 = .slice X ws.length cx := (hag4 1 (by decide)).trans e1
  have k8 : g2 8 = ptrv b3 := hag4 8 (by decide)
  have k18 : g2 18 = .int .i64 q := (hag4 18 (by decide)).trans h36
  simp only [k24, h11, k18, go_sem, Nat.reduceEqDiff]
  by_cases hla : a < n
  case neg =>
    simp only [show ¬ ((a : Int) < n) from by omega, decide_false, go_sem, Nat.reduceEqDiff]
    rw [i64_of (by omega) (by omega)]
    have han : a = n := by omega
    rw [han] at h8a H
    have hstep : (gm.rules.take (q + 1)).foldl (ruleT ws) (T, false) = (List.range n).foldl (rowT ws r) s0 := by
      rw [foldl_take _ _ _ hlq, hs0, hr, ← hN]
      rfl
    refine hN3 _ _ hlq ⟨hlq, rfl, ?_, ?_⟩
    · rw [hstep]
      exact h8a
    · rw [hstep]
      exact H.take 2
  simp only [show ((a : Int) < n) from by omega, decide_true, go_sem, Nat.reduceEqDiff]
  generalize hs1 : (List.range a).foldl (rowT ws r) s0 = s1 at *
  refine loop_to n a (fun b f w' => a ≤ b ∧ b ≤ n ∧ f 10 = .int .i64 b ∧ f 6 = .bool ((List.range' a (b - a)).foldl (Sh.stepT ws r a) s1).2 ∧ Apt w w' [bx b1 [.int .i64 gm.nons, .int .i64 gm.toks, .slice Y gm.rules.length cy] 37, bx b2 (.slice X ws.length cx :: cellsT ((List.range' a (b - a)).foldl (Sh.stepT ws r a) s1).1) 111, bx b3 [.int .i64 xl, .slice Z r.2.length cz] 77])
    ⟨Nat.le_refl _, by omega, rfl, by rw [Nat.sub_self]; exact h8a, by rw [Nat.sub_self]; exact H⟩ ?_
  rintro b g3 w11 N5 hag5 ⟨hb1, hb2, h12, h8b, H⟩ hN5
  have m5 : g3 5 = ptrv b2 := (hag5 5 (by decide)).trans k5
  have m1 : g3 1 = .slice X ws.length cx := (hag5 1 (by decide)).trans k1
  have m8 : g3 8 = ptrv b3 := (hag5 8 (by decide)).trans k8
  have m9 : g3 9 = .int .i64 a := hag5 9 (by decide)
  have m25 : g3 25 = .int .i64 a := (hag5 25 (by decide)).trans h11
  simp only [m5, m1, m8, m9, m25, h12, go_sem, Nat.reduceEqDiff]
  by_cases hlb : b < n
  case neg =>
    simp only [show ¬ ((b : Int) ≤ ws.length) from by omega, decide_false, go_sem, Nat.reduceEqDiff]
    rw [i64_of (by omega) (by omega)]
    have hbn : b = n := by omega
    rw [hbn] at h8b H
    have hstep : (List.range (a + 1)).foldl (rowT ws r) s0 = (List.range' a (n - a)).foldl (Sh.stepT ws r a) s1 := by
      rw [foldl_range, hs1, ← hN]
      rfl
    refine hN4 _ _ hla ⟨hla, rfl, ?_, ?_⟩
    · rw [hstep]
      exact h8b
    · rw [hstep]
      exact H
  simp only [show ((b : Int) ≤ ws.length) from by omega, decide_true, go_sem, Nat.reduceEqDiff]
  have hstep : (List.range' a (b + 1 - a)).foldl (Sh.stepT ws r a) s1 = Sh.stepT ws r a ((List.range' a (b - a)).foldl (Sh.stepT ws r a) s1) b := by
    rw [show b + 1 - a = b - a + 1 from by omega, foldl_range', show a + (b - a) = b from by omega]
  generalize hs2 : (List.range' a (b - a)).foldl (Sh.stepT ws r a) s1 = s2 at *
  have hxn : xl < 6 := by omega
  have hstepT : Sh.stepT ws r a s2 b = if (!s2.1 xl a b && fitsT s2.1 ws r.2 a b) = true then (s2.1.put xl a b, true) else s2 := by
    unfold Sh.stepT
    rw [hxl, Int.toNat_natCast]
  have H := H.drew
  have stay : Sh.stepT ws r a s2 b = s2 → ∀ f', f' 10 = .int .i64 (b + 1 : Nat) → f' 6 = .bool s2.2 → N5 f' w11.drew := fun he f' q12 q8 => hN5 f' w11.drew hlb ⟨by omega, hlb, q12, by rw [hstep, he]; exact q8, by rw [hstep, he]; exact H⟩
  rw [ldB3 (H.box 2 rfl) rfl]
  rw [ixa109 (by omega) (by omega), ixa108 (by omega) (by omega), ixa107 (by omega) (by omega)]
  simp only [Int.toNat_natCast, go_sem, Nat.reduceEqDiff]
  have hoff : 0 + 1 + xl * 121 + a * 11 + b = xl * 121 + a * 11 + b + 1 := by omega
  rw [hoff, ldB4 (H.box 1 rfl) (cellsT_at hxn (by omega) (by omega))]
  simp only [go_sem, Nat.reduceEqDiff]
  cases hc0 : s2.1 xl a b
  case true =>
    simp only [Bool.not_true, go_sem, Nat.reduceEqDiff]
    rw [i64_of (n := (b : Int) + 1) (by omega) (by omega)]
    exact stay (by rw [hstepT, hc0]; rfl) _ rfl h8b
  simp only [Bool.not_false, go_sem, Nat.reduceEqDiff]
  rw [ldB22 (H.box 2 rfl) rfl]
  refine sequence_c hl hw r.2 (H.box 1 rfl) (hX.gr H.gr) (t4.is.gr H.gr) t3 (fun x hx => by have := hright x hx; omega) hb1 (by omega) ?_
  cases hft : fitsT s2.1 ws r.2 a b
  · simp only [go_sem, Nat.reduceEqDiff]
    rw [i64_of (n := (b : Int) + 1) (by omega) (by omega)]
    exact stay (by rw [hstepT, hc0, hft]; rfl) _ rfl h8b
  simp only [go_sem, Nat.reduceEqDiff]
  have H := H.drew
  rw [ldB3 (H.box 2 rfl) rfl]
  rw [ixa109 (by omega) (by omega), ixa108 (by omega) (by omega), ixa107 (by omega) (by omega)]
  simp only [Int.toNat_natCast, go_sem, Nat.reduceEqDiff]
  rw [hoff]
  refine storeH H 1 rfl sz4 rfl rfl (by rw [Nat.ble_eq, List.length_cons, cellsT_length]; omega) fun w12 H => ?_
  have hset : List.take (xl * 121 + a * 11 + b + 1) (.slice X ws.length cx :: cellsT s2.1) ++ (Value.bool true).cells.toList ++ List.drop (xl * 121 + a * 11 + b + 1 + 1) (.slice X ws.length cx :: cellsT s2.1) = .slice X ws.length cx :: cellsT (s2.1.put xl a b) := by
    rw [show (Value.bool true).cells.toList = [.bool true] from rfl, take_put_drop (by rw [List.length_cons, cellsT_length]; omega)]
    exact cellsT_put hxn (by omega) (by omega)
  rw [hset] at H
  rw [i64_of (n := (b : Int) + 1) (by omega) (by omega)]
  refine hN5 _ _ hlb ⟨by omega, hlb, rfl, ?_, ?_⟩
  · rw [hstep, hstepT, hc0, hft]
    rfl
  · rw [hstep, hstepT, hc0, hft]
    exact H
end Go.Proofs.Ytiohaeckagjebaa

/- Contracts of what PumpWord reaches, third part. -/
set_option linter.unusedVariables false
set_option linter.unusedSimpArgs false
set_option maxRecDepth 100000
namespace Go.Sh
open Go
theorem inB_iff {n lo hi : Int} : inB n lo hi = true ↔ lo ≤ n ∧ n ≤ hi := by simp [inB]
end Go.Sh
namespace Go.Proofs.Ytiohaeckagjebaa
open Go Go.Sh Go.RowKit

theorem pumpWord1_p {w : World} : Pred 4 (.func (.func 130) [].toArray [].toArray) (fun x => !inB x 0 1000000) w :=
  fun w1 g1 x k hk => callV0 (pumpWord1_c (hk w1 (Gr.refl w1)))
theorem implPumpWord_c {w : World} {X Y : Option Addr} {c d : Nat} {xs cs : List Int} {many : Int} (hx : Ints w X xs) (hc : xs.length ≤ c) (hy : Ints w Y cs) {k : Value → World → Prop}
    (hk : ∀ X' c' w', Gr w w' → match pumpW xs cs many with
      | some l => Own 3 w' w.heap.size X' c' l → k (.tuple #[.slice X' l.length c', .bool true]) w'
      | none => k (.tuple #[.slice none 0 0, .bool false]) w') :
    CallK Try.prog 79 [.slice X xs.length c, .slice Y cs.length d, .int .i64 many] k w := by
  refine enter79 ?_
  unfold S79
  have hno : ∀ w', Gr w w' → pumpW xs cs many = none → k (.tuple #[.slice none 0 0, .bool false]) w' := fun w' g e => by
    have := hk none 0 w' g
    rwa [e] at this
  simp only [go_sem, Nat.reduceEqDiff]
  by_cases h60 : (60 : Int) < xs.length
  · simp only [h60, decide_true, go_sem, Nat.reduceEqDiff]
    exact hno w (Gr.refl w) (if_neg fun h => by omega)
  simp only [h60, decide_false, go_sem, Nat.reduceEqDiff]
  by_cases h4' : cs.length = 4
  rotate_left
  · have h4 : ¬ (cs.length : Int) = 4 := by omega
    simp only [h4, decide_false, Bool.not_false, go_sem, Nat.reduceEqDiff]
    exact hno w (Gr.refl w) (if_neg fun h => h4' h.2.2.1.len)
  have h4 : (cs.length : Int) = 4 := by omega
  simp only [h4, decide_true, Bool.not_true, go_sem, Nat.reduceEqDiff]
  refine in_c ?_
  simp only [go_sem, Nat.reduceEqDiff]
  cases hm : inB many 0 4
  · simp only [Bool.not_false, go_sem, Nat.reduceEqDiff]
    exact hno w (Gr.refl w) (if_neg fun h => by rw [hm] at h; exact absurd h.2.2.2 (by decide))
  simp only [Bool.not_true, go_sem, Nat.reduceEqDiff]
  refine containsFunc_c (p := fun x => !inB x 0 1000000) hx pumpWord1_p fun w1 g1 => ?_
  have hany : xs.any (fun x => !inB x 0 1000000) = !allB xs 0 1000000 := by
    unfold allB
    rw [List.not_all_eq_any_not]
  rw [hany]
  cases ha : allB xs 0 1000000
  · simp only [Bool.not_false, go_sem, Nat.reduceEqDiff]
    exact hno w1 g1 (if_neg fun h => by rw [ha] at h; exact absurd h.2.1 (by decide))
  simp only [Bool.not_true, go_sem, Nat.reduceEqDiff]
  refine ⟨fun f w' => ∃ i : Nat, i ≤ 4 ∧ f 31 = .int .i64 i ∧ f 8 = .int .i64 (if i = 0 then 0 else cs.getD (i - 1) 0) ∧ Gr w w' ∧ (∀ j, j < i → (if j = 0 then 0 else cs.getD (j - 1) 0) ≤ cs.getD j 0 ∧ cs.getD j 0 ≤ xs.length), fun f _ => 4 - (intOf (f 31)).toNat,
    ⟨0, by omega, rfl, rfl, g1, fun j hj => absurd hj (Nat.not_lt_zero j)⟩, ?_⟩
  rintro f w2 hag ⟨i, hi, h31, h8, g2, hpre⟩
  have f0 : f 0 = .slice X xs.length c := hag 0 (by decide)
  have f1 : f 1 = .slice Y cs.length d := hag 1 (by decide)
  have f2 : f 2 = .int .i64 many := hag 2 (by decide)
  have f29 : f 29 = .slice Y cs.length d := hag 29 (by decide)
  have f30 : f 30 = .int .i64 4 := hag 30 (by decide)
  simp only [f0, f1, f2, f29, f30, h31, h8, go_sem, Nat.reduceEqDiff]
  by_cases hlt : i < 4
  · have hlt' : (i : Int) < 4 := by omega
    simp only [hlt', decide_true, go_sem, Nat.reduceEqDiff]
    rw [ixn22 hy.ptr (by omega), ld3 ((hy.gr g2).cell i (by omega))]
    refine in_c ?_
    simp only [go_sem, Nat.reduceEqDiff]
    cases hb : inB (cs.getD i 0) (if i = 0 then 0 else cs.getD (i - 1) 0) xs.length
    · simp only [Bool.not_false, go_sem, Nat.reduceEqDiff]
      refine hno w2 g2 (if_neg fun h => ?_)
      obtain ⟨_, c0, c1, c2, c3, c4⟩ := h.2.2.1
      have : inB (cs.getD i 0) (if i = 0 then 0 else cs.getD (i - 1) 0) xs.length = true := inB_iff.2 (by
        rcases (show i = 0 ∨ i = 1 ∨ i = 2 ∨ i = 3 by omega) with rfl | rfl | rfl | rfl
        · exact ⟨c0, by omega⟩
        · exact ⟨c1, by omega⟩
        · exact ⟨c2, by omega⟩
        · exact ⟨c3, by omega⟩)
      rw [hb] at this
      cases this
    · simp only [Bool.not_true, go_sem, Nat.reduceEqDiff]
      rw [i64_of (by omega) (by omega)]
      have hb' := inB_iff.1 hb
      refine ⟨⟨i + 1, hlt, rfl, by rw [if_neg (by omega)]; rfl, g2, fun j hj => ?_⟩, ?_⟩
      · rcases Nat.lt_succ_iff_lt_or_eq.1 hj with h | rfl
        · exact hpre j h
        · exact hb'
      · simp only [intOf]
        omega
  have hi4 : i = 4 := by omega
  subst hi4
  have e0 := hpre 0 (by omega)
  have e1 := hpre 1 (by omega)
  have e2 := hpre 2 (by omega)
  have e3 := hpre 3 (by omega)
  simp only [if_true, Nat.one_ne_zero, if_false, show (2 : Nat) ≠ 0 by decide, show (3 : Nat) ≠ 0 by decide, Nat.sub_self, show (2 - 1 : Nat) = 1 from rfl, show (3 - 1 : Nat) = 2 from rfl] at e0 e1 e2 e3
  have hcs : Cuts cs xs.length := ⟨h4', e0.1, e1.1, e2.1, e3.1, e3.2⟩
  have hm' := inB_iff.1 hm
  obtain ⟨m, rfl⟩ := Int.eq_ofNat_of_zero_le hm'.1
  have e : pumpW xs cs m = if (pumpL xs cs m).length ≤ 60 then some (pumpL xs cs m) else none := if_pos ⟨by omega, ha, hcs, hm⟩
  obtain ⟨_, c0, c1, c2, c3, c4⟩ := hcs
  simp only [show ¬ ((4 : Nat) : Int) < 4 by decide, decide_false, go_sem, Nat.reduceEqDiff]
  obtain ⟨p0, l0⟩ := Ints_seg hx hc (Int.le_refl 0) c0 (by omega)
  obtain ⟨p1, l1⟩ := Ints_seg hx hc c0 c1 (by omega)
  obtain ⟨p2, l2⟩ := Ints_seg hx hc (by omega) c2 (by omega)
  obtain ⟨p3, l3⟩ := Ints_seg hx hc (by omega) c3 (by omega)
  obtain ⟨p4, l4⟩ := Ints_seg hx hc (a := cs.getD 3 0) (b := xs.length) (by omega) c4 (Int.le_refl _)
  refine bs22 [] (by decide) (by simp [Instr.fill, madeCells]) rfl fun b w3 hb1 hb2 g3 hbox hrow => ?_
  have g3' := gr_trans g2 g3
  rw [ix22_0 hy.ptr (by omega), ld3 ((hy.gr g3').cell 0 (by omega)), slh22 c0 (by omega)]
  refine apI (xs := []) (hrow w.heap.size g2.size) (p0.gr g3') rfl (by rw [l0]; simp) (by rw [l0, List.length_nil]; omega) g3'.size fun X1 d1 w4 o1 g4 => ?_
  rw [List.nil_append] at o1
  have g4' := gr_mod g3' g4 fun q hq => by simp [blk] at hq; have := g2.size; omega
  have hl : xs.length ≤ 100 := by omega
  have hm4 : m ≤ 4 := by omega
  clear hag hpre e0 e1 e2 e3 h31 h8 f29 f30 hno
  have hb1 : (seg xs 0 (cs.getD 0 0)).length ≤ 100 := by omega
  refine ⟨fun f w' => ∃ (i : Nat) (X' : Option Addr) (c' : Nat), i ≤ m ∧ f 51 = .int .i64 i ∧ f 11 = .slice X' (seg xs 0 (cs.getD 0 0) ++ rep i (seg xs (cs.getD 0 0) (cs.getD 1 0))).length c' ∧ Gr w w' ∧ Own 3 w' w.heap.size X' c' (seg xs 0 (cs.getD 0 0) ++ rep i (seg xs (cs.getD 0 0) (cs.getD 1 0))), fun f _ => m - (intOf (f 51)).toNat,
    ⟨0, X1, d1, Nat.zero_le _, rfl, by simp [rep]; rfl, g4', by simpa [rep] using o1⟩, ?_⟩
  rintro f w2 hag ⟨i, X2, d2, him, h8, h7, g2, o2⟩
  have f0 : f 0 = .slice X xs.length c := (hag 0 (by decide)).trans f0
  have f1 : f 1 = .slice Y cs.length d := (hag 1 (by decide)).trans f1
  have f50 : f 50 = .int .i64 m := (hag 50 (by decide)).trans (by simp only [upd_at, Nat.reduceEqDiff, ite_T, ite_F, f2])
  have f2 : f 2 = .int .i64 m := (hag 2 (by decide)).trans f2
  simp only [f0, f1, f2, f50, h7, h8, go_sem, Nat.reduceEqDiff]
  by_cases hlt : i < m
  · have hlt' : (i : Int) < m := by omega
    have gd := gr_trans g2 (gr_drew w2)
    simp only [hlt', decide_true, go_sem, Nat.reduceEqDiff]
    rw [ix22_0 hy.ptr (by omega), ld3 ((hy.gr gd).cell 0 (by omega)), ix22_1 hy.ptr (by omega), ld3 ((hy.gr gd).cell 1 (by omega)), sl22 c0 c1 (by omega)]
    have hlen : (seg xs 0 (cs.getD 0 0) ++ rep i (seg xs (cs.getD 0 0) (cs.getD 1 0))).length ≤ 100 + 4 * 100 := by
      rw [List.length_append, rep_length]
      have := Nat.mul_le_mul (show i ≤ 4 by omega) (show (seg xs (cs.getD 0 0) (cs.getD 1 0)).length ≤ 100 by omega)
      omega
    refine apI (o2.gr (gr_drew w2)) (p1.gr gd) rfl (by rw [l1]) (by omega) gd.size fun X3 d3 w3 o3 g3 => ?_
    rw [i64_of (by omega) (by omega)]
    have g3' := gr_mod gd g3 fun q hq => (Row.ge o2 hq).1
    rw [List.append_assoc, ← rep_succ] at o3
    refine ⟨⟨i + 1, X3, d3, hlt, rfl, by rw [List.append_assoc, ← rep_succ], g3', o3⟩, ?_⟩
    simp only [intOf]
    omega
  · have him' : i = m := by omega
    subst him'
    simp only [show ¬ (i : Int) < i from by omega, decide_false, go_sem, Nat.reduceEqDiff]
    have gd := gr_trans g2 (gr_drew w2)
    rw [ix22_1 hy.ptr (by omega), ld3 ((hy.gr gd).cell 1 (by omega)), ix22_2 hy.ptr (by omega), ld3 ((hy.gr gd).cell 2 (by omega)), sl22 (by omega) c2 (by omega)]
    have hlen : (seg xs 0 (cs.getD 0 0) ++ rep i (seg xs (cs.getD 0 0) (cs.getD 1 0))).length ≤ 100 + 4 * 100 := by
      rw [List.length_append, rep_length]
      have := Nat.mul_le_mul (show i ≤ 4 by omega) (show (seg xs (cs.getD 0 0) (cs.getD 1 0)).length ≤ 100 by omega)
      omega
    refine apI (o2.gr (gr_drew w2)) (p2.gr gd) rfl (by rw [l2]) (by omega) gd.size fun X3 d3 w3 o3 g3 => ?_
    have g3' := gr_mod gd g3 fun q hq => (Row.ge o2 hq).1
    have hlen3 : (seg xs 0 (cs.getD 0 0) ++ rep i (seg xs (cs.getD 0 0) (cs.getD 1 0)) ++ seg xs (cs.getD 1 0) (cs.getD 2 0)).length ≤ 600 := by
      rw [List.length_append]
      omega
    refine ⟨fun f w' => ∃ (j : Nat) (X' : Option Addr) (c' : Nat), j ≤ i ∧ f 75 = .int .i64 j ∧ f 11 = .slice X' (seg xs 0 (cs.getD 0 0) ++ rep i (seg xs (cs.getD 0 0) (cs.getD 1 0)) ++ seg xs (cs.getD 1 0) (cs.getD 2 0) ++ rep j (seg xs (cs.getD 2 0) (cs.getD 3 0))).length c' ∧ Gr w w' ∧ Own 3 w' w.heap.size X' c' (seg xs 0 (cs.getD 0 0) ++ rep i (seg xs (cs.getD 0 0) (cs.getD 1 0)) ++ seg xs (cs.getD 1 0) (cs.getD 2 0) ++ rep j (seg xs (cs.getD 2 0) (cs.getD 3 0))), fun f _ => i - (intOf (f 75)).toNat,
      ⟨0, X3, d3, Nat.zero_le _, rfl, by simp [rep]; rfl, g3', by simpa [rep] using o3⟩, ?_⟩
    rintro f' w4 hag' ⟨j, X4, d4, hji, h9, h7', g4, o4⟩
    have f0' : f' 0 = .slice X xs.length c := (hag' 0 (by decide)).trans f0
    have f1' : f' 1 = .slice Y cs.length d := (hag' 1 (by decide)).trans f1
    have f74' : f' 74 = .int .i64 i := (hag' 74 (by decide)).trans (by simp only [upd_at, Nat.reduceEqDiff, ite_T, ite_F, f2])
    simp only [f0', f1', f74', h7', h9, go_sem, Nat.reduceEqDiff]
    have hlen4 : (seg xs 0 (cs.getD 0 0) ++ rep i (seg xs (cs.getD 0 0) (cs.getD 1 0)) ++ seg xs (cs.getD 1 0) (cs.getD 2 0) ++ rep j (seg xs (cs.getD 2 0) (cs.getD 3 0))).length ≤ 600 + 4 * 100 := by
      rw [List.length_append, rep_length j]
      have := Nat.mul_le_mul (show j ≤ 4 by omega) (show (seg xs (cs.getD 2 0) (cs.getD 3 0)).length ≤ 100 by omega)
      omega
    by_cases hlt2 : j < i
    · have hlt' : (j : Int) < i := by omega
      have gd4 := gr_trans g4 (gr_drew w4)
      simp only [hlt', decide_true, go_sem, Nat.reduceEqDiff]
      rw [ix22_2 hy.ptr (by omega), ld3 ((hy.gr gd4).cell 2 (by omega)), ix22_3 hy.ptr (by omega), ld3 ((hy.gr gd4).cell 3 (by omega)), sl22 (by omega) c3 (by omega)]
      refine apI (o4.gr (gr_drew w4)) (p3.gr gd4) rfl (by rw [l3]) (by omega) gd4.size fun X5 d5 w5 o5 g5 => ?_
      rw [i64_of (by omega) (by omega)]
      have g5' := gr_mod gd4 g5 fun q hq => (Row.ge o4 hq).1
      rw [List.append_assoc, ← rep_succ] at o5
      refine ⟨⟨j + 1, X5, d5, hlt2, rfl, by rw [List.append_assoc, ← rep_succ], g5', o5⟩, ?_⟩
      simp only [intOf]
      omega
    · have hji' : j = i := by omega
      subst hji'
      simp only [show ¬ (j : Int) < j from by omega, decide_false, go_sem, Nat.reduceEqDiff]
      rw [ix22_3 hy.ptr (by omega), ld3 ((hy.gr g4).cell 3 (by omega)), sll22 (by omega) c4]
      refine apI o4 (p4.gr g4) rfl (by rw [l4]; simp) (by omega) g4.size fun X5 d5 w5 o5 g5 => ?_
      have g5' := gr_mod g4 g5 fun q hq => (Row.ge o4 hq).1
      have hk' := hk X5 d5 w5 g5'
      rw [e] at hk'
      simp only [go_sem, Nat.reduceEqDiff]
      change CondK (.bool (decide ((60 : Int) < (pumpL xs cs j).length))) (k (.tuple #[.slice none 0 0, .bool false]) w5) (k (.tuple #[.slice X5 (pumpL xs cs j).length d5, .bool true]) w5)
      by_cases hl' : (pumpL xs cs j).length ≤ 60
      · simp only [show (Int.ofNat j).toNat = j from rfl, hl', if_true] at hk'
        have := hk' o5
        simp only [show ¬ (60 : Int) < (pumpL xs cs j).length by omega, decide_false, go_sem, Nat.reduceEqDiff]
        exact this
      · rw [if_neg hl'] at hk'
        simp only [show (60 : Int) < (pumpL xs cs j).length by omega, decide_true, go_sem, Nat.reduceEqDiff]
        exact hk'

theorem ImplPumpWord_c {w : World} {X Y : Option Addr} {c d : Nat} {xs cs : List Int} {many : Int} (hx : Ints w X xs) (hc : xs.length ≤ c) (hy : Ints w Y cs) {k : Value → World → Prop}
    (hk : ∀ X' c' w', Gr w w' → match pumpW xs cs many with
      | some l => Own 3 w' w.heap.size X' c' l → k (.tuple #[.slice X' l.length c', .bool true]) w'
      | none => k (.tuple #[.slice none 0 0, .bool false]) w') :
    CallK Try.prog 25 [.slice X xs.length c, .slice Y cs.length d, .int .i64 many] k w := by
  refine enter25 ?_
  unfold S25
  refine implPumpWord_c hx hc hy fun X' c' w' g => ?_
  have := hk X' c' w' g
  cases e : pumpW xs cs many with
  | none =>
    rw [e] at this
    simp only [go_sem, Nat.reduceEqDiff]
    exact this
  | some l =>
    rw [e] at this
    simp only [go_sem, Nat.reduceEqDiff]
    exact this
end Go.Proofs.Ytiohaeckagjebaa

/- The law of PumpWord, over its contracts. -/
set_option linter.unusedVariables false
set_option linter.unusedSimpArgs false
set_option maxRecDepth 100000
namespace Go.Proofs.Ytiohaeckagjebaa
open Go Go.Sh Go.RowKit

theorem specPumpWord_u {w : World} {X Y : Option Addr} {c d : Nat} {xs cs : List Int} {many : Int} (hx : Ints w X xs) (hc : xs.length ≤ c) (hy : Ints w Y cs) {k : Value → World → Prop}
    (hk : ∀ X' c' w', Gr w w' → Own 3 w' w.heap.size X' c' ((pumpW xs cs many).getD []) → k (.tuple #[.slice X' ((pumpW xs cs many).getD []).length c', .bool (pumpW xs cs many).isSome]) w') :
    CallK Try.prog 23 [.slice X xs.length c, .slice Y cs.length d, .int .i64 many] k w := by
  refine specPumpWord_c hx hc hy fun X' c' w' g => ?_
  cases h : pumpW xs cs many with
  | none =>
    rw [h] at hk
    exact hk none 0 w' g (Row.nil _ _ _ _)
  | some l =>
    intro ho
    rw [h] at hk
    exact hk X' c' w' g ho
theorem implPumpWord_u {w : World} {X Y : Option Addr} {c d : Nat} {xs cs : List Int} {many : Int} (hx : Ints w X xs) (hc : xs.length ≤ c) (hy : Ints w Y cs) {k : Value → World → Prop}
    (hk : ∀ X' c' w', Gr w w' → Own 3 w' w.heap.size X' c' ((pumpW xs cs many).getD []) → k (.tuple #[.slice X' ((pumpW xs cs many).getD []).length c', .bool (pumpW xs cs many).isSome]) w') :
    CallK Try.prog 25 [.slice X xs.length c, .slice Y cs.length d, .int .i64 many] k w := by
  refine ImplPumpWord_c hx hc hy fun X' c' w' g => ?_
  cases h : pumpW xs cs many with
  | none =>
    rw [h] at hk
    exact hk none 0 w' g (Row.nil _ _ _ _)
  | some l =>
    intro ho
    rw [h] at hk
    exact hk X' c' w' g ho
theorem pumpW_le (xs cs : List Int) (many : Int) : ((pumpW xs cs many).getD []).length ≤ 60 := by
  unfold pumpW
  split
  · split
    · simpa
    · simp
  · simp

theorem law_PumpWord {w : World} {X Y : Option Addr} {c d : Nat} {xs cs : List Int} {many : Int} (hx : Ints w X xs) (hc : xs.length ≤ c) (hy : Ints w Y cs) (hd : cs.length ≤ d) {k : Value → World → Prop} (hk : ∀ w', Gr w w' → k (.bool true) w') :
    CallK Try.prog 3 [.slice X xs.length c, .slice Y cs.length d, .int .i64 many] k w := by
  refine enter3 ?_
  unfold S3
  simp only [go_sem, Nat.reduceEqDiff]
  refine cond_split (fun _ => hk w (Gr.refl w)) fun h1 => ?_
  refine cond_split (fun _ => hk w (Gr.refl w)) fun h2 => ?_
  have hxl' : (xs.length : Int) ≤ 1048576 := by simpa using h1
  have hxl : xs.length ≤ 1048576 := by omega
  have hyl' : (cs.length : Int) ≤ 1048576 := by simpa using h2
  have hyl : cs.length ≤ 1048576 := by omega
  clear h1 h2 hxl' hyl'
  refine toIntS_c hx rfl (by omega) fun X1 c1 w1 g1 o1 => ?_
  refine toIntS_c (hy.gr g1) rfl (by omega) fun Y1 d1 w2 g2 p1 => ?_
  have G2 := gr_trans g1 g2
  refine specPumpWord_u (Own.ints (Row.gr o1 g2)) (Row.cap o1).1 (Own.ints p1) fun Z1 e1 w3 g3 r1 => ?_
  have G3 := gr_trans G2 g3
  simp only [go_sem, Nat.reduceEqDiff]
  generalize hL : (pumpW xs cs many).getD [] = L at *
  generalize hok : (pumpW xs cs many).isSome = ok at *
  have hLl : L.length ≤ 60 := hL ▸ pumpW_le xs cs many
  refine toIntS_c (hx.gr G3) rfl (by omega) fun X2 c2 w4 g4 o2 => ?_
  refine toIntS_c (hy.gr (gr_trans G3 g4)) rfl (by omega) fun Y2 d2 w5 g5 p2 => ?_
  have G5 := gr_trans (gr_trans G3 g4) g5
  refine implPumpWord_u (Own.ints (Row.gr o2 g5)) (Row.cap o2).1 (Own.ints p2) fun Z2 e2 w6 g6 r2 => ?_
  rw [hL] at r2 ⊢
  rw [hok]
  have G6 := gr_trans G5 g6
  have R1 : Own 3 w6 w2.heap.size Z1 e1 L := Row.gr r1 (gr_trans (gr_trans g4 g5) g6)
  have O2 : Own 3 w6 w3.heap.size X2 c2 xs := Row.gr o2 (gr_trans g5 g6)
  have P2 : Own 3 w6 w4.heap.size Y2 d2 cs := Row.gr p2 g6
  simp only [go_sem, Nat.reduceEqDiff]
  refine eqIntS_c (Own.ints r2) (Own.ints R1) fun w7 g7 => ?_
  simp only [decide_true, Bool.not_true, beq_self_eq_true, go_sem, Nat.reduceEqDiff]
  rw [bin_neq_bool (by kernel_rfl)]
  simp only [beq_self_eq_true, Bool.not_true, go_sem, Nat.reduceEqDiff]
  refine toIntS_c (hx.gr (gr_trans G6 g7)) rfl (by omega) fun X3 c3 w8 g8 o3 => ?_
  refine eqIntS_c ((Own.ints (Row.gr O2 (gr_trans g7 g8)))) (Own.ints o3) fun w9 g9 => ?_
  simp only [decide_true, Bool.not_true, go_sem, Nat.reduceEqDiff]
  refine toIntS_c (hy.gr (gr_trans (gr_trans (gr_trans G6 g7) g8) g9)) rfl (by omega) fun Y3 d3 w10 g10 p3 => ?_
  have H6 := gr_trans (gr_trans (gr_trans g7 g8) g9) g10
  refine eqIntS_c ((Own.ints (Row.gr P2 H6))) (Own.ints p3) fun w11 g11 => ?_
  simp only [decide_true, Bool.not_true, go_sem, Nat.reduceEqDiff]
  have H6' := gr_trans H6 g11
  have O2' := Row.gr O2 H6'
  have P2' := Row.gr P2 H6'
  have R1' := Row.gr R1 H6'
  have r2' := Row.gr r2 H6'
  refine markIntS_c O2' rfl (by decide) (by omega) fun w12 m12 O12 => ?_
  have P12 := Row.kept P2' m12 (apart' o2 P2' (Nat.le_refl _))
  have R12 := Row.kept R1' m12 (apart r1 O2' (Nat.le_refl _))
  have r12 := Row.kept r2' m12 (apart' (Row.gr o2 g5) r2' (Nat.le_refl _))
  refine markIntS_c P12 rfl (by omega) (by omega) fun w13 m13 P13 => ?_
  have R13 := Row.kept R12 m13 (apart (Row.gr r1 g4) P12 (Nat.le_refl _))
  have r13 := Row.kept r12 m13 (apart' p2 r12 (Nat.le_refl _))
  have G13 : Gr w w13 := by
    have a := gr_trans (gr_trans G6 H6') (Gr.refl w11)
    have b := gr_mod a m12 fun q hq => Nat.le_trans G3.size (Row.ge O2' hq).1
    exact gr_mod b m13 fun q hq => Nat.le_trans (gr_trans G3 g4).size (Row.ge P12 hq).1
  simp only [show ¬ (1 : Int) + xs.length + cs.length < 0 by omega, decide_false, go_sem, Nat.reduceEqDiff]
  refine eqIntS_c (Own.ints r13) (Own.ints R13) fun w14 g14 => ?_
  simp only [decide_true, Bool.not_true, beq_self_eq_true, go_sem, Nat.reduceEqDiff]
  rw [bin_neq_bool (by kernel_rfl)]
  simp only [beq_self_eq_true, Bool.not_true, go_sem, Nat.reduceEqDiff]
  have r14 := Row.gr r13 g14
  have R14 := Row.gr R13 g14
  refine markIntS_c r14 rfl (by decide) (by omega) fun w15 m15 q15 => ?_
  have R15 := Row.kept R14 m15 (apart (Row.gr r1 (gr_trans g4 g5)) r14 (Nat.le_refl _))
  have G15 : Gr w w15 := gr_mod (gr_trans G13 g14) m15 fun q hq => Nat.le_trans G5.size (Row.ge r14 hq).1
  refine heldIntS_c (Own.ints q15) rfl (by decide) (by omega) fun w16 g16 => ?_
  simp only [show ¬ (1 : Int) + L.length < 0 by omega, decide_false, decide_true, Bool.not_true, go_sem, Nat.reduceEqDiff]
  have G16 := gr_trans G15 g16
  refine toIntS_c (hx.gr G16) rfl (by omega) fun X4 c4 w17 g17 o4 => ?_
  refine toIntS_c (hy.gr (gr_trans G16 g17)) rfl (by omega) fun Y4 d4 w18 g18 p4 => ?_
  refine implPumpWord_u (Own.ints (Row.gr o4 g18)) (Row.cap o4).1 (Own.ints p4) fun Z3 e3 w19 g19 r3 => ?_
  rw [hL] at r3 ⊢
  rw [hok]
  have H15 := gr_trans (gr_trans (gr_trans g16 g17) g18) g19
  simp only [go_sem, Nat.reduceEqDiff]
  refine eqIntS_c (Own.ints r3) (Own.ints (Row.gr R15 H15)) fun w20 g20 => ?_
  simp only [decide_true, Bool.not_true, beq_self_eq_true, go_sem, Nat.reduceEqDiff]
  rw [bin_neq_bool (by kernel_rfl)]
  simp only [beq_self_eq_true, Bool.not_true, go_sem, Nat.reduceEqDiff]
  refine heldIntS_c (Own.ints (Row.gr q15 (gr_trans H15 g20))) rfl (by decide) (by omega) fun w21 g21 => ?_
  simp only [show ¬ (1 : Int) + L.length < 0 by omega, decide_false, decide_true, Bool.not_true, go_sem, Nat.reduceEqDiff]
  exact hk w21 (gr_trans (gr_trans (gr_trans G15 H15) g20) g21)
end Go.Proofs.Ytiohaeckagjebaa

/- Contracts: words of tokens, by the reference and by the program; what can be pumped at given places. -/
set_option linter.unusedVariables false
set_option linter.unusedSimpArgs false
set_option maxRecDepth 100000
namespace Go.Sh
open Go
def wordB (toks : Int) (ws : List Int) : Bool := decide (ws.length ≤ 10) && allB ws 0 (toks - 1)
theorem wordB_len {toks : Int} {ws : List Int} (h : wordB toks ws = true) : ws.length ≤ 10 := by
  simp only [wordB, Bool.and_eq_true, decide_eq_true_eq] at h
  exact h.1
theorem wordB_tok {toks : Int} {ws : List Int} (h : wordB toks ws = true) (ht : toks ≤ 4) : ∀ t ∈ ws, 0 ≤ t ∧ t ≤ 100 := fun t hm => by
  simp only [wordB, Bool.and_eq_true, decide_eq_true_eq, allB, List.all_eq_true, inB] at h
  have := h.2 t hm
  omega
theorem mem_seg {xs : List Int} {a b x : Int} (h : x ∈ seg xs a b) : x ∈ xs := List.mem_of_mem_drop (List.mem_of_mem_take h)
theorem mem_rep {m : Nat} {l : List Int} {x : Int} (h : x ∈ rep m l) : x ∈ l := by
  unfold rep at h
  rw [List.mem_flatten] at h
  obtain ⟨l', h1, h2⟩ := h
  rw [List.eq_of_mem_replicate h1] at h2
  exact h2
theorem mem_pumpL {xs cs : List Int} {m : Nat} {x : Int} (h : x ∈ pumpL xs cs m) : x ∈ xs := by
  unfold pumpL at h
  rcases List.mem_append.1 h with h | h
  · rcases List.mem_append.1 h with h | h
    · rcases List.mem_append.1 h with h | h
      · rcases List.mem_append.1 h with h | h
        · exact mem_seg h
        · exact mem_seg (mem_rep h)
      · exact mem_seg h
    · exact mem_seg (mem_rep h)
  · exact mem_seg h
/-- Whether what is pumped so many times is told of. -/
def fineP (ws cs : List Int) (k : Nat) : Bool := match pumpW ws cs k with
  | some x => decide (x.length ≤ 10)
  | none => false
noncomputable def isPumpV (gm : Gram) (ws cs : List Int) (m : Int) : Bool × Bool :=
  if (goodG gm && wordB gm.toks ws) = true ∧ Cuts cs ws.length ∧ ¬ (cs.getD 0 0 = cs.getD 1 0 ∧ cs.getD 2 0 = cs.getD 3 0) ∧ inB m 0 4 = true then
    (if (List.range (m.toNat + 1)).all (fineP ws cs) = true then ((List.range (m.toNat + 1)).all (fun k => inL gm.rules (pumpL ws cs k)), true) else (false, false))
  else (false, false)
theorem pumpW_eq {xs cs : List Int} {m : Int} {x : List Int} (h : pumpW xs cs m = some x) : x = pumpL xs cs m.toNat := by
  unfold pumpW at h
  split at h
  · split at h
    · exact (Option.some.inj h).symm
    · cases h
  · cases h
theorem range_all_succ {p : Nat → Bool} {n : Nat} : (List.range (n + 1)).all p = ((List.range n).all p && p n) := by
  rw [List.range_succ, List.all_append]
  simp
theorem fineP_cuts {ws cs : List Int} {k : Nat} (h : fineP ws cs k = true) : Cuts cs ws.length := by
  unfold fineP at h
  cases hp : pumpW ws cs k with
  | none => rw [hp] at h; cases h
  | some x =>
    unfold pumpW at hp
    split at hp
    · rename_i hh
      exact hh.2.2.1
    · cases hp
theorem range_all_not {p : Nat → Bool} {n i : Nat} (hi : i < n) (h : p i = false) : (List.range n).all p = false := by
  rw [List.all_eq_false]
  exact ⟨i, List.mem_range.2 hi, by rw [h]; decide⟩
end Go.Sh
namespace Go.Proofs.Ytiohaeckagjebaa
open Go Go.Sh Go.RowKit

theorem l1Word_c {F : Nat → Prop} {w : World} {v : Value} {gm : Gram} {X : Option Addr} {n cx : Nat} {ws : List Int} (hv : GramV F w v gm) (hg : goodG gm = true) (hX : Ints w X ws) (hn : n = ws.length) {k : Value → World → Prop} (hk : ∀ w', Gr w w' → k (.bool (wordB gm.toks ws)) w') :
    CallK Try.prog 112 [v, .slice X n cx] k w := by
  subst hn
  obtain ⟨Y, cy, rfl, hc, hy⟩ := hv
  have ht := good_toks hg
  refine enter112 ?_
  unfold S112
  have H := Apt.nil w
  refine boxH H fun b1 w1 H => ?_
  simp only [go_sem, Nat.reduceEqDiff]
  unfold wordB at hk
  by_cases hl : ws.length ≤ 10
  case neg =>
    simp only [show ¬ ((ws.length : Int) ≤ 10) from by omega, decide_false, go_sem, Nat.reduceEqDiff]
    simpa only [hl, decide_false, Bool.false_and] using hk _ H.gr
  simp only [show ((ws.length : Int) ≤ 10) from by omega, decide_true, go_sem, Nat.reduceEqDiff]
  rw [ldB3 (H.box 0 rfl) rfl]
  simp only [go_sem, Nat.reduceEqDiff]
  rw [i64_of (by omega) (by omega)]
  refine l1All_c (hX.gr H.gr) fun w2 g2 => ?_
  have H := H.step g2
  simpa only [hl, decide_true, Bool.true_and] using hk _ H.gr
theorem goodWord_c {F : Nat → Prop} {w : World} {v : Value} {gm : Gram} {X : Option Addr} {n cx : Nat} {ws : List Int} (hv : GramV F w v gm) (hX : Ints w X ws) (hn : n = ws.length) {k : Value → World → Prop} (hk : ∀ w', Gr w w' → k (.bool (goodG gm && wordB gm.toks ws)) w') :
    CallK Try.prog 101 [v, .slice X n cx] k w := by
  subst hn
  obtain ⟨Y, cy, rfl, hc, hy⟩ := hv
  refine enter101 ?_
  unfold S101
  have H := Apt.nil w
  refine boxH H fun b1 w1 H => ?_
  rw [ldB_agg agg37 sz37 rfl (H.box 0 rfl)]
  refine goodGrammar_c (gm := gm) ⟨Y, cy, rfl, hc, hy.gr H.gr⟩ fun w2 g2 => ?_
  have H := H.step g2
  cases hg : goodG gm
  · simp only [go_sem, Nat.reduceEqDiff]
    simpa only [hg, Bool.false_and] using hk _ H.gr
  simp only [go_sem, Nat.reduceEqDiff]
  rw [ldB_agg agg37 sz37 rfl (H.box 0 rfl)]
  refine l1Word_c (gm := gm) ⟨Y, cy, rfl, hc, hy.gr H.gr⟩ hg (hX.gr H.gr) rfl fun w3 g3 => ?_
  have H := H.step g3
  simpa only [hg, Bool.true_and] using hk _ H.gr
theorem isWord1_c {x toks : Int} {w : World} {b t : Nat} (hB : Box w b [.int .i64 toks] t) (h1 : 1 ≤ toks) (h4 : toks ≤ 4) {k : Value → World → Prop} (hk : k (.bool (!inB x 0 (toks - 1))) w) : CallK Try.prog 146 [.int .i64 x, ptrv b] k w := by
  refine enter146 ?_
  unfold S146
  rw [ldB3 hB rfl]
  simp only [go_sem, Nat.reduceEqDiff]
  rw [i64_of (by omega) (by omega)]
  refine in_c ?_
  simp only [go_sem, Nat.reduceEqDiff]
  exact hk
theorem isWord_c {w : World} {X : Option Addr} {n cx : Nat} {toks : Int} {ws : List Int} (hX : Ints w X ws) (hn : n = ws.length) (h1 : 1 ≤ toks) (h4 : toks ≤ 4) {k : Value → World → Prop} (hk : ∀ w', Gr w w' → k (.bool (wordB toks ws)) w') :
    CallK Try.prog 99 [.int .i64 toks, .slice X n cx] k w := by
  subst hn
  refine enter99 ?_
  unfold S99
  have H := Apt.nil w
  refine boxH H fun b1 w1 H => ?_
  simp only [go_sem, Nat.reduceEqDiff]
  unfold wordB at hk
  by_cases hl : ws.length ≤ 10
  case neg =>
    simp only [show ¬ ((ws.length : Int) ≤ 10) from by omega, decide_false, go_sem, Nat.reduceEqDiff]
    simpa only [hl, decide_false, Bool.false_and] using hk _ H.gr
  simp only [show ((ws.length : Int) ≤ 10) from by omega, decide_true, go_sem, Nat.reduceEqDiff]
  have hb : Box w1 b1 [.int .i64 toks] 3 := H.box 0 rfl
  have hp : Pred 4 (.func (.func 146) [].toArray [ptrv b1].toArray) (fun x => !inB x 0 (toks - 1)) w1 := fun w3 g3 x k hk =>
    callVc (isWord1_c (hb.gr g3) h1 h4 (hk w3 (Gr.refl w3)))
  refine containsFunc_c (hX.gr H.gr) hp fun w3 g3 => ?_
  have H := H.step g3
  simp only [go_sem, Nat.reduceEqDiff]
  have := hk _ H.gr
  simp only [hl, decide_true, Bool.true_and] at this
  rwa [show allB ws 0 (toks - 1) = !ws.any (fun x => !inB x 0 (toks - 1)) from by simp [allB, List.not_any_eq_all_not]] at this
theorem specIsPump_c {F : Nat → Prop} {w : World} {v : Value} {gm : Gram} {X C : Option Addr} {n cx nc cc : Nat} {ws cs : List Int} {m : Int} (hv : GramV F w v gm) (hX : Ints w X ws) (hn : n = ws.length) (hcx : ws.length ≤ cx) (hC : Ints w C cs) (hnc : nc = cs.length) {k : Value → World → Prop}
    (hk : ∀ w', Gr w w' → k (.tuple #[.bool (isPumpV gm ws cs m).1, .bool (isPumpV gm ws cs m).2]) w') : CallK Try.prog 51 [v, .slice X n cx, .slice C nc cc, .int .i64 m] k w := by
  subst hn hnc
  obtain ⟨Y, cy, rfl, hc, hy⟩ := hv
  refine enter51 ?_
  unfold S51
  have H := Apt.nil w
  refine boxH H fun b1 w1 H => ?_
  have H := H.drew
  refine ⟨fun w' => Gr w1.drew w', Gr.refl _, ?_⟩
  rw [rdG_agg agg37 sz37 rfl (H.box 0 rfl)]
  have G0 := H.gr
  refine goodWord_c (gm := gm) ⟨Y, cy, rfl, hc, hy.gr H.gr⟩ (hX.gr H.gr) rfl fun w2 g2 => ?_
  refine ⟨g2, ?_⟩
  have H := H.step g2
  have no : ¬ ((goodG gm && wordB gm.toks ws) = true ∧ Cuts cs ws.length ∧ ¬ (cs.getD 0 0 = cs.getD 1 0 ∧ cs.getD 2 0 = cs.getD 3 0) ∧ inB m 0 4 = true) → ∀ w', Gr w w' → k (.tuple #[.bool false, .bool false]) w' := fun h w' g => by
    have := hk w' g
    rwa [isPumpV, if_neg h] at this
  cases hgw : goodG gm && wordB gm.toks ws
  · simp only [Bool.not_false, go_sem, Nat.reduceEqDiff]
    exact ⟨g2, no (fun h => by rw [hgw] at h; exact absurd h.1 Bool.false_ne_true) _ H.gr⟩
  simp only [Bool.not_true, go_sem, Nat.reduceEqDiff]
  refine l18Cuts_c (hC.gr H.gr) fun w3 g3 => ?_
  refine ⟨gr_trans g2 g3, ?_⟩
  have H := H.step g3
  by_cases hcuts : Cuts cs ws.length
  case neg =>
    simp only [hcuts, decide_false, Bool.not_false, go_sem, Nat.reduceEqDiff]
    exact no (fun h => hcuts h.2.1) _ H.gr
  simp only [hcuts, decide_true, Bool.not_true, go_sem, Nat.reduceEqDiff]
  have hc4 := hcuts.len
  have hCp : C = some (ad C) := hC.ptr (by omega)
  have rdc : ∀ (j : Nat), j < 4 → ∀ w', Gr w1.drew w' → w'.cell? ((ad C).add j) = some (.int .i64 (cs.getD j 0)) := fun j hj w' g' => (hC.gr (gr_trans G0 g')).cell j (by omega)
  rw [ix22_0 (fun _ => hCp) (by omega), ldS3 (fun w' g' => rdc 0 (by decide) w' g'), ix22_1 (fun _ => hCp) (by omega), ldS3 (fun w' g' => rdc 1 (by decide) w' g')]
  simp only [go_sem, Nat.reduceEqDiff]
  have hg1 : goodG gm = true := by
    simp only [Bool.and_eq_true] at hgw
    exact hgw.1
  by_cases h01 : cs.getD 0 0 = cs.getD 1 0
  · simp only [h01, decide_true, go_sem, Nat.reduceEqDiff]
    rw [ix22_2 (fun _ => hCp) (by omega), ldS3 (fun w' g' => rdc 2 (by decide) w' g'), ix22_3 (fun _ => hCp) (by omega), ldS3 (fun w' g' => rdc 3 (by decide) w' g')]
    simp only [go_sem, Nat.reduceEqDiff]
    by_cases h23 : cs.getD 2 0 = cs.getD 3 0
    · simp only [h23, decide_true, go_sem, Nat.reduceEqDiff]
      exact no (fun h => h.2.2.1 ⟨h01, h23⟩) _ H.gr
    simp only [h23, decide_false, go_sem, Nat.reduceEqDiff]
    have hd : ¬ (cs.getD 0 0 = cs.getD 1 0 ∧ cs.getD 2 0 = cs.getD 3 0) := fun h => h23 h.2
    refine l1In_c ?_
    cases hm : inB m 0 4
    · simp only [Bool.not_false, go_sem, Nat.reduceEqDiff]
      exact no (fun h => by rw [hm] at h; exact absurd h.2.2.2 Bool.false_ne_true) _ H.gr
    have hV : isPumpV gm ws cs m = (if (List.range (m.toNat + 1)).all (fineP ws cs) = true then ((List.range (m.toNat + 1)).all (fun k => inL gm.rules (pumpL ws cs k)), true) else (false, false)) := by
      rw [isPumpV, if_pos ⟨hgw, hcuts, hd, hm⟩]
    rw [hV] at hk
    obtain ⟨m, rfl⟩ : ∃ m' : Nat, m = m' := by
      simp only [inB, Bool.and_eq_true, decide_eq_true_eq] at hm
      exact ⟨m.toNat, by omega⟩
    have hm4 : m ≤ 4 := by
      simp only [inB, Bool.and_eq_true, decide_eq_true_eq] at hm
      omega
    rw [Int.toNat_natCast] at hk
    simp only [Bool.not_true, go_sem, Nat.reduceEqDiff]
    refine loop_to (m + 1) 0 (fun r f w' => r ≤ m + 1 ∧ f 11 = .int .i64 r ∧ (∀ r', r' < r → fineP ws cs r' = true) ∧ f 10 = .bool ((List.range r).all (fun k => inL gm.rules (pumpL ws cs k))) ∧ Apt w w' [bx b1 [.int .i64 gm.nons, .int .i64 gm.toks, .slice Y gm.rules.length cy] 37]) ⟨Nat.zero_le _, rfl, fun r' h => absurd h (Nat.not_lt_zero _), rfl, H⟩ ?_
    rintro r f w5 N hag ⟨hr, h11, hfine, h10, H⟩ hN
    have f1 : f 1 = .slice X ws.length cx := hag 1 (by decide)
    have f2 : f 2 = .slice C cs.length cc := hag 2 (by decide)
    have f3 : f 3 = .int .i64 m := hag 3 (by decide)
    have f4 : f 4 = ptrv b1 := hag 4 (by decide)
    simp only [f1, f2, f3, f4, h11, h10, go_sem, Nat.reduceEqDiff]
    by_cases hlt : r ≤ m
    case neg =>
      simp only [show ¬ ((r : Int) ≤ m) from by omega, decide_false, go_sem, Nat.reduceEqDiff]
      obtain rfl : r = m + 1 := by omega
      rw [if_pos (range_all fun j hj => hfine j hj)] at hk
      exact hk _ H.gr
    simp only [show ((r : Int) ≤ m) from by omega, decide_true, go_sem, Nat.reduceEqDiff]
    have bad : fineP ws cs r = false → ∀ w', Gr w w' → k (.tuple #[.bool false, .bool false]) w' := fun hf w' g => by
      have := hk w' g
      rwa [if_neg (by rw [range_all_not (i := r) (by omega) hf]; exact Bool.false_ne_true)] at this
    have G5 := H.gr
    refine specPumpWord_c (hX.gr H.gr) hcx (hC.gr H.gr) fun X' c' w6 g6 => ?_
    have H := H.step g6
    cases hp : pumpW ws cs r with
    | none =>
      simp only [Bool.not_false, go_sem, Nat.reduceEqDiff]
      exact bad (by simp only [fineP, hp]) _ H.gr
    | some x =>
      dsimp only
      intro o
      simp only [Bool.not_true, go_sem, Nat.reduceEqDiff]
      have hxe := pumpW_eq hp
      rw [Int.toNat_natCast] at hxe
      by_cases hx10 : x.length ≤ 10
      case neg =>
        simp only [show ((10 : Int) < x.length) from by omega, decide_true, go_sem, Nat.reduceEqDiff]
        exact bad (by simp only [fineP, hp, hx10, decide_false]) _ H.gr
      simp only [show ¬ ((10 : Int) < x.length) from by omega, decide_false, go_sem, Nat.reduceEqDiff]
      have hf : fineP ws cs r = true := by simp only [fineP, hp, hx10, decide_true]
      have hfine' : ∀ r', r' < r + 1 → fineP ws cs r' = true := fun r' h => by
        by_cases e : r' = r
        · rw [e]; exact hf
        · exact hfine r' (by omega)
      cases hacc : (List.range r).all (fun k => inL gm.rules (pumpL ws cs k))
      · simp only [go_sem, Nat.reduceEqDiff]
        rw [i64_of (by omega) (by omega)]
        exact hN _ _ (by omega) ⟨by omega, rfl, hfine', by rw [range_all_succ, hacc]; rfl, H⟩
      · simp only [go_sem, Nat.reduceEqDiff]
        rw [ldB_agg agg37 sz37 rfl (H.box 0 rfl)]
        refine l4In_c (gm := gm) ⟨Y, cy, rfl, hc, hy.gr H.gr⟩ hg1 (Own.ints o) rfl hx10 fun w7 g7 => ?_
        have H := H.step g7
        rw [i64_of (by omega) (by omega)]
        exact hN _ _ (by omega) ⟨by omega, rfl, hfine', by rw [range_all_succ, hacc, ← hxe]; rfl, H⟩

  · simp only [h01, decide_false, go_sem, Nat.reduceEqDiff]
    have hd : ¬ (cs.getD 0 0 = cs.getD 1 0 ∧ cs.getD 2 0 = cs.getD 3 0) := fun h => h01 h.1
    refine l1In_c ?_
    cases hm : inB m 0 4
    · simp only [Bool.not_false, go_sem, Nat.reduceEqDiff]
      exact no (fun h => by rw [hm] at h; exact absurd h.2.2.2 Bool.false_ne_true) _ H.gr
    have hV : isPumpV gm ws cs m = (if (List.range (m.toNat + 1)).all (fineP ws cs) = true then ((List.range (m.toNat + 1)).all (fun k => inL gm.rules (pumpL ws cs k)), true) else (false, false)) := by
      rw [isPumpV, if_pos ⟨hgw, hcuts, hd, hm⟩]
    rw [hV] at hk
    obtain ⟨m, rfl⟩ : ∃ m' : Nat, m = m' := by
      simp only [inB, Bool.and_eq_true, decide_eq_true_eq] at hm
      exact ⟨m.toNat, by omega⟩
    have hm4 : m ≤ 4 := by
      simp only [inB, Bool.and_eq_true, decide_eq_true_eq] at hm
      omega
    rw [Int.toNat_natCast] at hk
    simp only [Bool.not_true, go_sem, Nat.reduceEqDiff]
    refine loop_to (m + 1) 0 (fun r f w' => r ≤ m + 1 ∧ f 11 = .int .i64 r ∧ (∀ r', r' < r → fineP ws cs r' = true) ∧ f 10 = .bool ((List.range r).all (fun k => inL gm.rules (pumpL ws cs k))) ∧ Apt w w' [bx b1 [.int .i64 gm.nons, .int .i64 gm.toks, .slice Y gm.rules.length cy] 37]) ⟨Nat.zero_le _, rfl, fun r' h => absurd h (Nat.not_lt_zero _), rfl, H⟩ ?_
    rintro r f w5 N hag ⟨hr, h11, hfine, h10, H⟩ hN
    have f1 : f 1 = .slice X ws.length cx := hag 1 (by decide)
    have f2 : f 2 = .slice C cs.length cc := hag 2 (by decide)
    have f3 : f 3 = .int .i64 m := hag 3 (by decide)
    have f4 : f 4 = ptrv b1 := hag 4 (by decide)
    simp only [f1, f2, f3, f4, h11, h10, go_sem, Nat.reduceEqDiff]
    by_cases hlt : r ≤ m
    case neg =>
      simp only [show ¬ ((r : Int) ≤ m) from by omega, decide_false, go_sem, Nat.reduceEqDiff]
      obtain rfl : r = m + 1 := by omega
      rw [if_pos (range_all fun j hj => hfine j hj)] at hk
      exact hk _ H.gr
    simp only [show ((r : Int) ≤ m) from by omega, decide_true, go_sem, Nat.reduceEqDiff]
    have bad : fineP ws cs r = false → ∀ w', Gr w w' → k (.tuple #[.bool false, .bool false]) w' := fun hf w' g => by
      have := hk w' g
      rwa [if_neg (by rw [range_all_not (i := r) (by omega) hf]; exact Bool.false_ne_true)] at this
    have G5 := H.gr
    refine specPumpWord_c (hX.gr H.gr) hcx (hC.gr H.gr) fun X' c' w6 g6 => ?_
    have H := H.step g6
    cases hp : pumpW ws cs r with
    | none =>
      simp only [Bool.not_false, go_sem, Nat.reduceEqDiff]
      exact bad (by simp only [fineP, hp]) _ H.gr
    | some x =>
      dsimp only
      intro o
      simp only [Bool.not_true, go_sem, Nat.reduceEqDiff]
      have hxe := pumpW_eq hp
      rw [Int.toNat_natCast] at hxe
      by_cases hx10 : x.length ≤ 10
      case neg =>
        simp only [show ((10 : Int) < x.length) from by omega, decide_true, go_sem, Nat.reduceEqDiff]
        exact bad (by simp only [fineP, hp, hx10, decide_false]) _ H.gr
      simp only [show ¬ ((10 : Int) < x.length) from by omega, decide_false, go_sem, Nat.reduceEqDiff]
      have hf : fineP ws cs r = true := by simp only [fineP, hp, hx10, decide_true]
      have hfine' : ∀ r', r' < r + 1 → fineP ws cs r' = true := fun r' h => by
        by_cases e : r' = r
        · rw [e]; exact hf
        · exact hfine r' (by omega)
      cases hacc : (List.range r).all (fun k => inL gm.rules (pumpL ws cs k))
      · simp only [go_sem, Nat.reduceEqDiff]
        rw [i64_of (by omega) (by omega)]
        exact hN _ _ (by omega) ⟨by omega, rfl, hfine', by rw [range_all_succ, hacc]; rfl, H⟩
      · simp only [go_sem, Nat.reduceEqDiff]
        rw [ldB_agg agg37 sz37 rfl (H.box 0 rfl)]
        refine l4In_c (gm := gm) ⟨Y, cy, rfl, hc, hy.gr H.gr⟩ hg1 (Own.ints o) rfl hx10 fun w7 g7 => ?_
        have H := H.step g7
        rw [i64_of (by omega) (by omega)]
        exact hN _ _ (by omega) ⟨by omega, rfl, hfine', by rw [range_all_succ, hacc, ← hxe]; rfl, H⟩

theorem implIsPump_c {F : Nat → Prop} {w : World} {v : Value} {gm : Gram} {X C : Option Addr} {n cx nc cc : Nat} {ws cs : List Int} {m : Int} (hv : GramV F w v gm) (hX : Ints w X ws) (hn : n = ws.length) (hcx : ws.length ≤ cx) (hC : Ints w C cs) (hnc : nc = cs.length) {k : Value → World → Prop}
    (hk : ∀ w', Gr w w' → k (.tuple #[.bool (isPumpV gm ws cs m).1, .bool (isPumpV gm ws cs m).2]) w') : CallK Try.prog 52 [v, .slice X n cx, .slice C nc cc, .int .i64 m] k w := by
  subst hn hnc
  obtain ⟨Y, cy, rfl, hc, hy⟩ := hv
  refine enter52 ?_
  unfold S52
  have H := Apt.nil w
  refine boxH H fun b1 w1 H => ?_
  have H := H.drew
  refine ⟨fun w' => Gr w1.drew w', Gr.refl _, ?_⟩
  rw [rdG_agg agg37 sz37 rfl (H.box 0 rfl)]
  have G0 := H.gr
  have hb1 : Box w1.drew b1 [.int .i64 gm.nons, .int .i64 gm.toks, .slice Y gm.rules.length cy] 37 := H.box 0 rfl
  refine isGrammar_c (gm := gm) ⟨Y, cy, rfl, hc, hy.gr H.gr⟩ fun w2 g2 => ?_
  refine ⟨g2, ?_⟩
  have H := H.step g2
  have no : ¬ ((goodG gm && wordB gm.toks ws) = true ∧ Cuts cs ws.length ∧ ¬ (cs.getD 0 0 = cs.getD 1 0 ∧ cs.getD 2 0 = cs.getD 3 0) ∧ inB m 0 4 = true) → ∀ w', Gr w w' → k (.tuple #[.bool false, .bool false]) w' := fun h w' g => by
    have := hk w' g
    rwa [isPumpV, if_neg h] at this
  cases hg1 : goodG gm
  · simp only [Bool.not_false, go_sem, Nat.reduceEqDiff]
    exact ⟨g2, no (fun h => by rw [hg1, Bool.false_and] at h; exact absurd h.1 Bool.false_ne_true) _ H.gr⟩
  simp only [Bool.not_true, go_sem, Nat.reduceEqDiff]
  have ht := good_toks hg1
  rw [rdG one3 hb1 rfl]
  refine isWord_c (hX.gr H.gr) rfl ht.1 ht.2 fun w3 g3 => ?_
  refine ⟨gr_trans g2 g3, ?_⟩
  have H := H.step g3
  cases hw1 : wordB gm.toks ws
  · simp only [Bool.not_false, go_sem, Nat.reduceEqDiff]
    exact no (fun h => by rw [hw1, Bool.and_false] at h; exact absurd h.1 Bool.false_ne_true) _ H.gr
  have hgw : (goodG gm && wordB gm.toks ws) = true := by rw [hg1, hw1]; rfl
  have hlen := wordB_len hw1
  have htok := wordB_tok hw1 ht.2
  simp only [Bool.not_true, go_sem, Nat.reduceEqDiff]
  by_cases hc4 : cs.length = 4
  case neg =>
    simp only [show ¬ ((cs.length : Int) = 4) from by omega, decide_false, Bool.not_false, go_sem, Nat.reduceEqDiff]
    exact no (fun h => hc4 h.2.1.len) _ H.gr
  simp only [show ((cs.length : Int) = 4) from by omega, decide_true, Bool.not_true, go_sem, Nat.reduceEqDiff]
  have hCp : C = some (ad C) := hC.ptr (by omega)
  have rdc : ∀ (j : Nat), j < 4 → ∀ w', Gr w1.drew w' → w'.cell? ((ad C).add j) = some (.int .i64 (cs.getD j 0)) := fun j hj w' g' => (hC.gr (gr_trans G0 g')).cell j (by omega)
  rw [ix22_0 (fun _ => hCp) (by omega), ldS3 (fun w' g' => rdc 0 (by decide) w' g'), ix22_1 (fun _ => hCp) (by omega), ldS3 (fun w' g' => rdc 1 (by decide) w' g')]
  simp only [go_sem, Nat.reduceEqDiff]
  by_cases h01 : cs.getD 1 0 ≤ cs.getD 0 0
  · simp only [h01, decide_true, go_sem, Nat.reduceEqDiff]
    rw [ix22_2 (fun _ => hCp) (by omega), ldS3 (fun w' g' => rdc 2 (by decide) w' g'), ix22_3 (fun _ => hCp) (by omega), ldS3 (fun w' g' => rdc 3 (by decide) w' g')]
    simp only [go_sem, Nat.reduceEqDiff]
    by_cases h23 : cs.getD 3 0 ≤ cs.getD 2 0
    · simp only [h23, decide_true, go_sem, Nat.reduceEqDiff]
      exact no (fun h => h.2.2.1 ⟨by have := h.2.1.h01; omega, by have := h.2.1.h23; omega⟩) _ H.gr
    simp only [h23, decide_false, go_sem, Nat.reduceEqDiff]
    have hd : Cuts cs ws.length → ¬ (cs.getD 0 0 = cs.getD 1 0 ∧ cs.getD 2 0 = cs.getD 3 0) := fun hcu h => by omega
    refine in_c ?_
    cases hm : inB m 0 4
    · simp only [Bool.not_false, go_sem, Nat.reduceEqDiff]
      exact no (fun h => by rw [hm] at h; exact absurd h.2.2.2 Bool.false_ne_true) _ H.gr
    obtain ⟨m, rfl⟩ : ∃ m' : Nat, m = m' := by
      simp only [inB, Bool.and_eq_true, decide_eq_true_eq] at hm
      exact ⟨m.toNat, by omega⟩
    have hm4 : m ≤ 4 := by
      simp only [inB, Bool.and_eq_true, decide_eq_true_eq] at hm
      omega
    have hV : Cuts cs ws.length → isPumpV gm ws cs (m : Nat) = (if (List.range (m + 1)).all (fineP ws cs) = true then ((List.range (m + 1)).all (fun k => inL gm.rules (pumpL ws cs k)), true) else (false, false)) := fun hcuts => by
      rw [isPumpV, if_pos ⟨hgw, hcuts, hd hcuts, hm⟩, Int.toNat_natCast]
    simp only [Bool.not_true, go_sem, Nat.reduceEqDiff]
    rw [i64_of (by omega) (by omega)]
    refine loop_to (m + 1) 0 (fun r f w' => r ≤ m + 1 ∧ f 54 = .int .i64 r ∧ (∀ r', r' < r → fineP ws cs r' = true) ∧ f 10 = .bool ((List.range r).all (fun k => inL gm.rules (pumpL ws cs k))) ∧ Apt w w' [bx b1 [.int .i64 gm.nons, .int .i64 gm.toks, .slice Y gm.rules.length cy] 37]) ⟨Nat.zero_le _, rfl, fun r' h => absurd h (Nat.not_lt_zero _), rfl, H⟩ ?_
    rintro r f w5 N hag ⟨hr, h11, hfine, h10, H⟩ hN
    have f1 : f 1 = .slice X ws.length cx := hag 1 (by decide)
    have f2 : f 2 = .slice C cs.length cc := hag 2 (by decide)
    have f53 : f 53 = .int .i64 ((m : Int) + 1) := hag 53 (by decide)
    have f4 : f 4 = ptrv b1 := hag 4 (by decide)
    simp only [f1, f2, f53, f4, h11, h10, go_sem, Nat.reduceEqDiff]
    by_cases hlt : r ≤ m
    case neg =>
      simp only [show ¬ ((r : Int) < (m : Int) + 1) from by omega, decide_false, go_sem, Nat.reduceEqDiff]
      obtain rfl : r = m + 1 := by omega
      have hcuts : Cuts cs ws.length := fineP_cuts (hfine 0 (by omega))
      rw [hV hcuts, if_pos (range_all fun j hj => hfine j hj)] at hk
      exact hk _ H.gr
    simp only [show ((r : Int) < (m : Int) + 1) from by omega, decide_true, go_sem, Nat.reduceEqDiff]
    have bad : fineP ws cs r = false → ∀ w', Gr w w' → k (.tuple #[.bool false, .bool false]) w' := fun hf w' g => by
      by_cases hcuts : Cuts cs ws.length
      · have := hk w' g
        rwa [hV hcuts, if_neg (by rw [range_all_not (i := r) (by omega) hf]; exact Bool.false_ne_true)] at this
      · exact no (fun h => hcuts h.2.1) w' g
    have G5 := H.gr
    refine implPumpWord_c (hX.gr H.gr) hcx (hC.gr H.gr) fun X' c' w6 g6 => ?_
    have H := H.step g6
    cases hp : pumpW ws cs r with
    | none =>
      simp only [Bool.not_false, go_sem, Nat.reduceEqDiff]
      exact bad (by simp only [fineP, hp]) _ H.gr
    | some x =>
      dsimp only
      intro o
      simp only [Bool.not_true, go_sem, Nat.reduceEqDiff]
      have hxe := pumpW_eq hp
      rw [Int.toNat_natCast] at hxe
      by_cases hx10 : x.length ≤ 10
      case neg =>
        simp only [show ((10 : Int) < x.length) from by omega, decide_true, go_sem, Nat.reduceEqDiff]
        exact bad (by simp only [fineP, hp, hx10, decide_false]) _ H.gr
      simp only [show ¬ ((10 : Int) < x.length) from by omega, decide_false, go_sem, Nat.reduceEqDiff]
      have hf : fineP ws cs r = true := by simp only [fineP, hp, hx10, decide_true]
      have hfine' : ∀ r', r' < r + 1 → fineP ws cs r' = true := fun r' h => by
        by_cases e : r' = r
        · rw [e]; exact hf
        · exact hfine r' (by omega)
      cases hacc : (List.range r).all (fun k => inL gm.rules (pumpL ws cs k))
      · simp only [go_sem, Nat.reduceEqDiff]
        rw [i64_of (by omega) (by omega)]
        exact hN _ _ (by omega) ⟨by omega, rfl, hfine', by rw [range_all_succ, hacc]; rfl, H⟩
      · simp only [go_sem, Nat.reduceEqDiff]
        rw [ldB_agg agg37 sz37 rfl (H.box 0 rfl)]
        have hxt : ∀ t ∈ x, 0 ≤ t ∧ t ≤ 100 := fun t hmem => htok t (mem_pumpL (hxe ▸ hmem))
        refine spans_c (gm := gm) ⟨Y, cy, rfl, hc, hy.gr H.gr⟩ hg1 (Own.ints o) rfl hx10 hxt fun w7 bT HT => ?_
        have G6 := H.gr
        simp only [go_sem, Nat.reduceEqDiff]
        rw [ixa109 (by decide) (by decide), ixa108 (by decide) (by decide), ixa107 (by omega) (by omega)]
        simp only [Int.toNat_natCast, go_sem, Nat.reduceEqDiff]
        have hoff : 0 + (0 + 1) + Int.toNat 0 * 121 + Int.toNat 0 * 11 + x.length = 0 * 121 + 0 * 11 + x.length + 1 := by
          rw [show Int.toNat 0 = 0 from rfl]
          omega
        rw [hoff, ldB4 (HT.box 0 rfl) (cellsT_at (by decide) (by decide) (by omega))]
        have H := H.step HT.gr
        rw [i64_of (by omega) (by omega)]
        refine hN _ _ (by omega) ⟨by omega, rfl, hfine', ?_, H⟩
        rw [range_all_succ, hacc, ← hxe]
        rfl

  · simp only [h01, decide_false, go_sem, Nat.reduceEqDiff]
    have hd : Cuts cs ws.length → ¬ (cs.getD 0 0 = cs.getD 1 0 ∧ cs.getD 2 0 = cs.getD 3 0) := fun hcu h => by omega
    refine in_c ?_
    cases hm : inB m 0 4
    · simp only [Bool.not_false, go_sem, Nat.reduceEqDiff]
      exact no (fun h => by rw [hm] at h; exact absurd h.2.2.2 Bool.false_ne_true) _ H.gr
    obtain ⟨m, rfl⟩ : ∃ m' : Nat, m = m' := by
      simp only [inB, Bool.and_eq_true, decide_eq_true_eq] at hm
      exact ⟨m.toNat, by omega⟩
    have hm4 : m ≤ 4 := by
      simp only [inB, Bool.and_eq_true, decide_eq_true_eq] at hm
      omega
    have hV : Cuts cs ws.length → isPumpV gm ws cs (m : Nat) = (if (List.range (m + 1)).all (fineP ws cs) = true then ((List.range (m + 1)).all (fun k => inL gm.rules (pumpL ws cs k)), true) else (false, false)) := fun hcuts => by
      rw [isPumpV, if_pos ⟨hgw, hcuts, hd hcuts, hm⟩, Int.toNat_natCast]
    simp only [Bool.not_true, go_sem, Nat.reduceEqDiff]
    rw [i64_of (by omega) (by omega)]
    refine loop_to (m + 1) 0 (fun r f w' => r ≤ m + 1 ∧ f 54 = .int .i64 r ∧ (∀ r', r' < r → fineP ws cs r' = true) ∧ f 10 = .bool ((List.range r).all (fun k => inL gm.rules (pumpL ws cs k))) ∧ Apt w w' [bx b1 [.int .i64 gm.nons, .int .i64 gm.toks, .slice Y gm.rules.length cy] 37]) ⟨Nat.zero_le _, rfl, fun r' h => absurd h (Nat.not_lt_zero _), rfl, H⟩ ?_
    rintro r f w5 N hag ⟨hr, h11, hfine, h10, H⟩ hN
    have f1 : f 1 = .slice X ws.length cx := hag 1 (by decide)
    have f2 : f 2 = .slice C cs.length cc := hag 2 (by decide)
    have f53 : f 53 = .int .i64 ((m : Int) + 1) := hag 53 (by decide)
    have f4 : f 4 = ptrv b1 := hag 4 (by decide)
    simp only [f1, f2, f53, f4, h11, h10, go_sem, Nat.reduceEqDiff]
    by_cases hlt : r ≤ m
    case neg =>
      simp only [show ¬ ((r : Int) < (m : Int) + 1) from by omega, decide_false, go_sem, Nat.reduceEqDiff]
      obtain rfl : r = m + 1 := by omega
      have hcuts : Cuts cs ws.length := fineP_cuts (hfine 0 (by omega))
      rw [hV hcuts, if_pos (range_all fun j hj => hfine j hj)] at hk
      exact hk _ H.gr
    simp only [show ((r : Int) < (m : Int) + 1) from by omega, decide_true, go_sem, Nat.reduceEqDiff]
    have bad : fineP ws cs r = false → ∀ w', Gr w w' → k (.tuple #[.bool false, .bool false]) w' := fun hf w' g => by
      by_cases hcuts : Cuts cs ws.length
      · have := hk w' g
        rwa [hV hcuts, if_neg (by rw [range_all_not (i := r) (by omega) hf]; exact Bool.false_ne_true)] at this
      · exact no (fun h => hcuts h.2.1) w' g
    have G5 := H.gr
    refine implPumpWord_c (hX.gr H.gr) hcx (hC.gr H.gr) fun X' c' w6 g6 => ?_
    have H := H.step g6
    cases hp : pumpW ws cs r with
    | none =>
      simp only [Bool.not_false, go_sem, Nat.reduceEqDiff]
      exact bad (by simp only [fineP, hp]) _ H.gr
    | some x =>
      dsimp only
      intro o
      simp only [Bool.not_true, go_sem, Nat.reduceEqDiff]
      have hxe := pumpW_eq hp
      rw [Int.toNat_natCast] at hxe
      by_cases hx10 : x.length ≤ 10
      case neg =>
        simp only [show ((10 : Int) < x.length) from by omega, decide_true, go_sem, Nat.reduceEqDiff]
        exact bad (by simp only [fineP, hp, hx10, decide_false]) _ H.gr
      simp only [show ¬ ((10 : Int) < x.length) from by omega, decide_false, go_sem, Nat.reduceEqDiff]
      have hf : fineP ws cs r = true := by simp only [fineP, hp, hx10, decide_true]
      have hfine' : ∀ r', r' < r + 1 → fineP ws cs r' = true := fun r' h => by
        by_cases e : r' = r
        · rw [e]; exact hf
        · exact hfine r' (by omega)
      cases hacc : (List.range r).all (fun k => inL gm.rules (pumpL ws cs k))
      · simp only [go_sem, Nat.reduceEqDiff]
        rw [i64_of (by omega) (by omega)]
        exact hN _ _ (by omega) ⟨by omega, rfl, hfine', by rw [range_all_succ, hacc]; rfl, H⟩
      · simp only [go_sem, Nat.reduceEqDiff]
        rw [ldB_agg agg37 sz37 rfl (H.box 0 rfl)]
        have hxt : ∀ t ∈ x, 0 ≤ t ∧ t ≤ 100 := fun t hmem => htok t (mem_pumpL (hxe ▸ hmem))
        refine spans_c (gm := gm) ⟨Y, cy, rfl, hc, hy.gr H.gr⟩ hg1 (Own.ints o) rfl hx10 hxt fun w7 bT HT => ?_
        have G6 := H.gr
        simp only [go_sem, Nat.reduceEqDiff]
        rw [ixa109 (by decide) (by decide), ixa108 (by decide) (by decide), ixa107 (by omega) (by omega)]
        simp only [Int.toNat_natCast, go_sem, Nat.reduceEqDiff]
        have hoff : 0 + (0 + 1) + Int.toNat 0 * 121 + Int.toNat 0 * 11 + x.length = 0 * 121 + 0 * 11 + x.length + 1 := by
          rw [show Int.toNat 0 = 0 from rfl]
          omega
        rw [hoff, ldB4 (HT.box 0 rfl) (cellsT_at (by decide) (by decide) (by omega))]
        have H := H.step HT.gr
        rw [i64_of (by omega) (by omega)]
        refine hN _ _ (by omega) ⟨by omega, rfl, hfine', ?_, H⟩
        rw [range_all_succ, hacc, ← hxe]
        rfl

end Go.Proofs.Ytiohaeckagjebaa

/- Bn: bodies of functions as terms of the frame calculus, printed by shgen.py of this repository. -/
set_option linter.unusedVariables false
set_option maxRecDepth 100000
namespace Go.Proofs.Ytiohaeckagjebaa
open Go Go.Sh

/-! loop.example/g00758/spec.l17Word -/
def pl97 : Plans := fun _ => ⟨false, [], .nil⟩
def S97 (v0 v1 : Value) (k : Value → World → Prop) (w : World) : Prop :=
 Do Try.prog (sBox 37 v0) (fun t1 w2 =>
 Rd Try.prog (WS.at w2) (sLoad 37 t1) fun t3 =>
 CallK Try.prog 101 [t3, v1] (fun t4 w5 =>
 GuardK t4 true (fun k w' => k v1 w') (fun t6 w7 =>
 GuardK t4 true (fun k w' => Rd Try.prog (WS.at w7) (sBuiltin .len #[22] 3 [false] [t6]) fun v => k v w') (fun t8 w9 =>
 GuardK t4 true (fun k w' => Rd Try.prog (WS.at w9) (sBin .leq 3 true t8 (.int .i64 8)) fun v => k v w') (fun t10 w11 =>
 Rd Try.prog (WS.at w11) (sPick t4 t10 (.bool false)) fun t12 =>
 k t12 w11) w9) w7) w5) w2) w
theorem body97 : Try.f97.body = some (bodyOf Try.f97) := by kernel_rfl
theorem same97 (v0 v1 : Value) (k : Value → World → Prop) (w : World) : wpF Try.prog pl97 (bodyOf Try.f97) (bodyQ Try.prog Try.f97.results.toList k) (initF [v0, v1]) w = S97 v0 v1 k w := by kernel_rfl
theorem enter97 {v0 v1 : Value} {k : Value → World → Prop} {w : World} (h : S97 v0 v1 k w) : CallK Try.prog 97 [v0, v1] k w :=
  call_of_wpF (pl := pl97) mixed Try.func97 body97 (by kernel_rfl) (of_decide_eq_true (by kernel_rfl)) (by kernel_rfl) (by kernel_rfl) (same97 v0 v1 k w ▸ h)

end Go.Proofs.Ytiohaeckagjebaa

/- Contract: words that may be mended (the reference's l17Word). -/
set_option linter.unusedVariables false
set_option linter.unusedSimpArgs false
set_option maxRecDepth 100000
namespace Go.Proofs.Ytiohaeckagjebaa
open Go Go.Sh Go.RowKit
theorem l17Word_c {F : Nat → Prop} {w : World} {v : Value} {gm : Gram} {X : Option Addr} {n cx : Nat} {ws : List Int} (hv : GramV F w v gm) (hX : Ints w X ws) (hn : n = ws.length) {k : Value → World → Prop} (hk : ∀ w', Gr w w' → k (.bool (goodG gm && wordB gm.toks ws && decide (ws.length ≤ 8))) w') :
    CallK Try.prog 97 [v, .slice X n cx] k w := by
  subst hn
  obtain ⟨Y, cy, rfl, hc, hy⟩ := hv
  refine enter97 ?_
  unfold S97
  have H := Apt.nil w
  refine boxH H fun b1 w1 H => ?_
  refine rdi (ldB_agg agg37 sz37 rfl (H.box 0 rfl)) ?_
  refine goodWord_c (gm := gm) ⟨Y, cy, rfl, hc, hy.gr H.gr⟩ (hX.gr H.gr) rfl fun w2 g2 => ?_
  have H := H.step g2
  have := hk w2 H.gr
  cases hg : goodG gm && wordB gm.toks ws
  · simp only [go_sem, Nat.reduceEqDiff]
    rwa [hg, Bool.false_and] at this
  · simp only [go_sem, Nat.reduceEqDiff]
    rw [hg, Bool.true_and] at this
    by_cases hl : ws.length ≤ 8
    · simp only [show ((ws.length : Int) ≤ 8) from by omega, decide_true]
      simpa [hl] using this
    · simp only [show ¬ ((ws.length : Int) ≤ 8) from by omega, decide_false]
      simpa [hl] using this
end Go.Proofs.Ytiohaeckagjebaa

/- Bi: bodies of functions as terms of the frame calculus, printed by shgen.py of this repository. -/
set_option linter.unusedVariables false
set_option maxRecDepth 100000
namespace Go.Proofs.Ytiohaeckagjebaa
open Go Go.Sh

/-! loop.example/g00758/laws.FnExactChangeWord -/
def pl17 : Plans := fun i => match i with
  | 13 => ⟨true, [3], .step 0 .held (.step 1 .held (.step 2 .one (.step 3 .last (.step 4 .any (.nil)))))⟩
  | _ => ⟨false, [], .nil⟩
def S17 (v0 v1 v2 v3 v4 : Value) (k : Value → World → Prop) (w : World) : Prop :=
 Do Try.prog (sBox 31 v0) (fun t1 w2 =>
 Rd Try.prog (WS.at w2) (sBuiltin .len #[22] 3 [false] [v1]) fun t3 =>
 Rd Try.prog (WS.at w2) (sBin .gtr 3 true t3 (.int .i64 1048576)) fun t4 =>
 CondK t4
  (k (.bool true) w2)
  (Rd Try.prog (WS.at w2) (sLoad 31 t1) fun t5 =>
  CallK Try.prog 29 [t5, (.int .i64 1048576)] (fun t6 w7 =>
  Rd Try.prog (WS.at w7) (sBin .lss 3 true t6 (.int .i64 0)) fun t8 =>
  CondK t8
   (k (.bool true) w7)
   (Rd Try.prog (WS.at w7) (sLoad 31 t1) fun t9 =>
   CallK Try.prog 31 [t9] (fun t10 w11 =>
   CallK Try.prog 24 [v1] (fun t12 w13 =>
   CallK Try.prog 63 [t10, t12, v2, v3, v4] (fun t14 w15 =>
   Rd Try.prog (WS.at w15) (sExtract t14 0) fun t16 =>
   Rd Try.prog (WS.at w15) (sExtract t14 1) fun t17 =>
   Rd Try.prog (WS.at w15) (sLoad 31 t1) fun t18 =>
   CallK Try.prog 31 [t18] (fun t19 w20 =>
   Do Try.prog (sAlloc 37) (fun t21 w22 =>
   Do Try.prog (sStore 37 t21 t19) (fun _ w23 =>
   CallK Try.prog 24 [v1] (fun t24 w25 =>
   Rd Try.prog (WS.at w25) (sLoad 37 t21) fun t26 =>
   CallK Try.prog 64 [t26, t24, v2, v3, v4] (fun t27 w28 =>
   Rd Try.prog (WS.at w28) (sExtract t27 0) fun t29 =>
   Rd Try.prog (WS.at w28) (sExtract t27 1) fun t30 =>
   CallK Try.prog 26 [t29, t16] (fun t31 w32 =>
   Rd Try.prog (WS.at w32) (sUn .not t31) fun t33 =>
   GuardK t33 false (fun k w' => k t30 w') (fun t34 w35 =>
   GuardK t33 false (fun k w' => k t17 w') (fun t36 w37 =>
   GuardK t33 false (fun k w' => Rd Try.prog (WS.at w37) (sBin .neq 4 false t34 t36) fun v => k v w') (fun t38 w39 =>
   Rd Try.prog (WS.at w39) (sPick t33 (.bool true) t38) fun t40 =>
   CondK t40
    (k (.bool false) w39)
    (∃ S41 : World → Prop, ∃ h42 : S41 w39.drew,
    Rd Try.prog ⟨S41, w39.drew, h42⟩ (sLoad 37 t21) fun t43 =>
    Rd Try.prog ⟨S41, w39.drew, h42⟩ (sLoad 31 t1) fun t44 =>
    CallK Try.prog 31 [t44] (fun t45 w46 =>
    S41 w46 ∧ CallK Try.prog 33 [t43, t45] (fun t47 w48 =>
    Rd Try.prog WS.any (sUn .not t47) fun t49 =>
    CondK t49
     (k (.bool false) w48)
     (CallK Try.prog 24 [v1] (fun t50 w51 =>
     CallK Try.prog 26 [t24, t50] (fun t52 w53 =>
     Rd Try.prog (WS.at w53) (sUn .not t52) fun t54 =>
     CondK t54
      (k (.bool false) w53)
      (Rd Try.prog (WS.at w53) (sLoad 37 t21) fun t55 =>
      CallK Try.prog 36 [t55, (.int .i64 1)] (fun t56 w57 =>
      CallK Try.prog 27 [t24, t56] (fun t58 w59 =>
      Rd Try.prog (WS.at w59) (sBin .lss 3 true t58 (.int .i64 0)) fun t60 =>
      GuardK t60 false (fun k w' => k t29 w') (fun t61 w62 =>
      GuardK t60 false (fun k w' => k t16 w') (fun t63 w64 =>
      GuardK t60 false (fun k w' => CallK Try.prog 26 [t61, t63] k w') (fun t65 w66 =>
      GuardK t60 false (fun k w' => Rd Try.prog (WS.at w66) (sUn .not t65) fun v => k v w') (fun t67 w68 =>
      Rd Try.prog (WS.at w68) (sPick t60 (.bool true) t67) fun t69 =>
      GuardK t69 false (fun k w' => k t30 w') (fun t70 w71 =>
      GuardK t69 false (fun k w' => k t17 w') (fun t72 w73 =>
      GuardK t69 false (fun k w' => Rd Try.prog (WS.at w73) (sBin .neq 4 false t70 t72) fun v => k v w') (fun t74 w75 =>
      Rd Try.prog (WS.at w75) (sPick t69 (.bool true) t74) fun t76 =>
      CondK t76
       (k (.bool false) w75)
       (CallK Try.prog 27 [t29, (.int .i64 1)] (fun t77 w78 =>
       CallK Try.prog 28 [t29, (.int .i64 1)] (fun t79 w80 =>
       Rd Try.prog (WS.at w80) (sBin .lss 3 true t79 (.int .i64 0)) fun t81 =>
       CondK t81
        (k (.bool false) w80)
        (Rd Try.prog (WS.at w80) (sBin .neq 3 false t79 t77) fun t82 =>
        CondK t82
         (k (.bool false) w80)
         (Rd Try.prog (WS.at w80) (sLoad 31 t1) fun t83 =>
         CallK Try.prog 31 [t83] (fun t84 w85 =>
         CallK Try.prog 24 [v1] (fun t86 w87 =>
         CallK Try.prog 64 [t84, t86, v2, v3, v4] (fun t88 w89 =>
         Rd Try.prog (WS.at w89) (sExtract t88 0) fun t90 =>
         Rd Try.prog (WS.at w89) (sExtract t88 1) fun t91 =>
         CallK Try.prog 26 [t90, t16] (fun t92 w93 =>
         Rd Try.prog (WS.at w93) (sUn .not t92) fun t94 =>
         GuardK t94 false (fun k w' => k t91 w') (fun t95 w96 =>
         GuardK t94 false (fun k w' => k t17 w') (fun t97 w98 =>
         GuardK t94 false (fun k w' => Rd Try.prog (WS.at w98) (sBin .neq 4 false t95 t97) fun v => k v w') (fun t99 w100 =>
         Rd Try.prog (WS.at w100) (sPick t94 (.bool true) t99) fun t101 =>
         CondK t101
          (k (.bool false) w100)
          (CallK Try.prog 28 [t29, (.int .i64 1)] (fun t102 w103 =>
          Rd Try.prog (WS.at w103) (sBin .lss 3 true t102 (.int .i64 0)) fun t104 =>
          CondK t104
           (k (.bool false) w103)
           (Rd Try.prog (WS.at w103) (sBin .neq 3 false t102 t77) fun t105 =>
           CondK t105
            (k (.bool false) w103)
            (k (.bool true) w103))) w100)) w98) w96) w93) w89) w87) w85) w80))) w78) w75)) w73) w71) w68) w66) w64) w62) w59) w57) w53)) w51) w48)) w46) w39.drew)) w37) w35) w32) w28) w25) w23) w22) w20) w15) w13) w11) w7)) w2)) w
theorem body17 : Try.f17.body = some (bodyOf Try.f17) := by kernel_rfl
theorem same17 (v0 v1 v2 v3 v4 : Value) (k : Value → World → Prop) (w : World) : wpF Try.prog pl17 (bodyOf Try.f17) (bodyQ Try.prog Try.f17.results.toList k) (initF [v0, v1, v2, v3, v4]) w = S17 v0 v1 v2 v3 v4 k w := by kernel_rfl
theorem enter17 {v0 v1 v2 v3 v4 : Value} {k : Value → World → Prop} {w : World} (h : S17 v0 v1 v2 v3 v4 k w) : CallK Try.prog 17 [v0, v1, v2, v3, v4] k w :=
  call_of_wpF (pl := pl17) mixed Try.func17 body17 (by kernel_rfl) (of_decide_eq_true (by kernel_rfl)) (by kernel_rfl) (by kernel_rfl) (same17 v0 v1 v2 v3 v4 k w ▸ h)

/-! loop.example/g00758/spec.ChangeWord -/
def pl63 : Plans := fun _ => ⟨false, [], .nil⟩
def S63 (v0 v1 v2 v3 v4 : Value) (k : Value → World → Prop) (w : World) : Prop :=
 Do Try.prog (sBox 37 v0) (fun t1 w2 =>
 Rd Try.prog (WS.at w2) (sLoad 37 t1) fun t3 =>
 CallK Try.prog 97 [t3, v1] (fun t4 w5 =>
 Rd Try.prog (WS.at w5) (sUn .not t4) fun t6 =>
 GuardK t6 false (fun k w' => k v2 w') (fun t7 w8 =>
 GuardK t6 false (fun k w' => CallK Try.prog 77 [t7, (.int .i64 0), (.int .i64 2)] k w') (fun t9 w10 =>
 GuardK t6 false (fun k w' => Rd Try.prog (WS.at w10) (sUn .not t9) fun v => k v w') (fun t11 w12 =>
 Rd Try.prog (WS.at w12) (sPick t6 (.bool true) t11) fun t13 =>
 GuardK t13 false (fun k w' => k v3 w') (fun t14 w15 =>
 GuardK t13 false (fun k w' => k v1 w') (fun t16 w17 =>
 GuardK t13 false (fun k w' => Rd Try.prog (WS.at w17) (sBuiltin .len #[22] 3 [false] [t16]) fun v => k v w') (fun t18 w19 =>
 GuardK t13 false (fun k w' => CallK Try.prog 77 [t14, (.int .i64 0), t18] k w') (fun t20 w21 =>
 GuardK t13 false (fun k w' => Rd Try.prog (WS.at w21) (sUn .not t20) fun v => k v w') (fun t22 w23 =>
 Rd Try.prog (WS.at w23) (sPick t13 (.bool true) t22) fun t24 =>
 GuardK t24 false (fun k w' => k v2 w') (fun t25 w26 =>
 GuardK t24 false (fun k w' => Rd Try.prog (WS.at w26) (sBin .neq 3 true t25 (.int .i64 1)) fun v => k v w') (fun t27 w28 =>
 GuardK t24 false (fun k w' => k t27 w') (fun t29 w30 =>
 GuardK t29 true (fun k w' => k v3 w') (fun t31 w32 =>
 GuardK t29 true (fun k w' => k v1 w') (fun t33 w34 =>
 GuardK t29 true (fun k w' => Rd Try.prog (WS.at w34) (sBuiltin .len #[22] 3 [false] [t33]) fun v => k v w') (fun t35 w36 =>
 GuardK t29 true (fun k w' => Rd Try.prog (WS.at w36) (sBin .eql 3 false t31 t35) fun v => k v w') (fun t37 w38 =>
 GuardK t24 false (fun k w' => Rd Try.prog (WS.at w38) (sPick t29 t37 (.bool false)) fun v => k v w') (fun t39 w40 =>
 Rd Try.prog (WS.at w40) (sPick t24 (.bool true) t39) fun t41 =>
 GuardK t41 false (fun k w' => k v4 w') (fun t42 w43 =>
 GuardK t41 false (fun k w' => Rd Try.prog (WS.at w43) (sFieldAddr 37 t1 1) fun v => k v w') (fun t44 w45 =>
 GuardK t41 false (fun k w' => Rd Try.prog (WS.at w45) (sLoad 3 t44) fun v => k v w') (fun t46 w47 =>
 GuardK t41 false (fun k w' => Rd Try.prog (WS.at w47) (sBin .sub 3 true t46 (.int .i64 1)) fun v => k v w') (fun t48 w49 =>
 GuardK t41 false (fun k w' => CallK Try.prog 77 [t42, (.int .i64 0), t48] k w') (fun t50 w51 =>
 GuardK t41 false (fun k w' => Rd Try.prog (WS.at w51) (sUn .not t50) fun v => k v w') (fun t52 w53 =>
 Rd Try.prog (WS.at w53) (sPick t41 (.bool true) t52) fun t54 =>
 GuardK t54 false (fun k w' => k v2 w') (fun t55 w56 =>
 GuardK t54 false (fun k w' => Rd Try.prog (WS.at w56) (sBin .eql 3 true t55 (.int .i64 0)) fun v => k v w') (fun t57 w58 =>
 GuardK t54 false (fun k w' => k t57 w') (fun t59 w60 =>
 GuardK t59 true (fun k w' => k v4 w') (fun t61 w62 =>
 GuardK t59 true (fun k w' => Rd Try.prog (WS.at w62) (sBin .neq 3 true t61 (.int .i64 0)) fun v => k v w') (fun t63 w64 =>
 GuardK t54 false (fun k w' => Rd Try.prog (WS.at w64) (sPick t59 t63 (.bool false)) fun v => k v w') (fun t65 w66 =>
 Rd Try.prog (WS.at w66) (sPick t54 (.bool true) t65) fun t67 =>
 CondK t67
  (k (.tuple #[(.slice none 0 0), (.bool false)]) w66)
  (Rd Try.prog (WS.at w66) (sSlice 22 v1 none (some v3) none) fun t68 =>
  CallK Try.prog 116 [t68] (fun t69 w70 =>
  Join (fun K71 =>
  Rd Try.prog (WS.at w70) (sBin .gtr 3 true v2 (.int .i64 0)) fun t74 =>
  CondK t74
   (Do Try.prog (sBuildSlice 22 1 [(0, v4)]) (fun t75 w76 =>
   Do Try.prog (sBuiltin .append #[22, 22] 22 [false, false] [t69, t75]) (fun t77 w78 =>
   K71 (F.upd (F.upd (F.upd (F.upd (F.upd (F.upd (F.upd (F.upd (F.upd (F.upd (F.upd (F.upd (F.upd (F.upd (F.upd (F.upd (F.upd (F.upd (F.upd (F.upd (F.upd (F.upd (F.upd (F.upd (F.upd (F.upd (F.upd (F.upd (F.upd (F.upd (F.upd (F.upd (F.upd (F.upd (F.upd (F.upd (F.upd (F.upd (F.upd (F.upd (F.upd (F.upd (F.upd (F.upd (F.upd (F.upd (F.upd (F.upd (F.upd (F.upd (F.upd (F.upd (F.upd (F.upd (F.upd (F.upd (F.upd (initF [v0, v1, v2, v3, v4]) 5 t1) 10 (.slice none 0 0)) 11 (.bool false)) 13 t3) 14 v1) 15 t4) 16 t6) 17 t6) 18 t7) 19 t9) 20 t11) 21 t13) 22 t13) 23 t14) 24 t16) 25 t18) 26 t20) 27 t22) 28 t24) 29 t24) 30 t25) 31 t27) 32 t29) 33 t31) 34 t33) 35 t35) 36 t37) 37 t39) 38 t41) 39 t41) 40 t42) 41 t44) 42 t46) 43 t48) 44 t50) 45 t52) 46 t54) 47 t54) 48 t55) 49 t57) 50 t59) 51 t61) 52 t63) 53 t65) 54 t67) 55 v1) 56 v3) 57 t68) 58 t69) 12 t69) 59 v2) 60 t74) 61 t69) 62 v4) 63 t75) 64 t77) 12 t77) w78) w76) w70)
   (K71 (F.upd (F.upd (F.upd (F.upd (F.upd (F.upd (F.upd (F.upd (F.upd (F.upd (F.upd (F.upd (F.upd (F.upd (F.upd (F.upd (F.upd (F.upd (F.upd (F.upd (F.upd (F.upd (F.upd (F.upd (F.upd (F.upd (F.upd (F.upd (F.upd (F.upd (F.upd (F.upd (F.upd (F.upd (F.upd (F.upd (F.upd (F.upd (F.upd (F.upd (F.upd (F.upd (F.upd (F.upd (F.upd (F.upd (F.upd (F.upd (F.upd (F.upd (F.upd (F.upd (initF [v0, v1, v2, v3, v4]) 5 t1) 10 (.slice none 0 0)) 11 (.bool false)) 13 t3) 14 v1) 15 t4) 16 t6) 17 t6) 18 t7) 19 t9) 20 t11) 21 t13) 22 t13) 23 t14) 24 t16) 25 t18) 26 t20) 27 t22) 28 t24) 29 t24) 30 t25) 31 t27) 32 t29) 33 t31) 34 t33) 35 t35) 36 t37) 37 t39) 38 t41) 39 t41) 40 t42) 41 t44) 42 t46) 43 t48) 44 t50) 45 t52) 46 t54) 47 t54) 48 t55) 49 t57) 50 t59) 51 t61) 52 t63) 53 t65) 54 t67) 55 v1) 56 v3) 57 t68) 58 t69) 12 t69) 59 v2) 60 t74) w70)) (fun f72 w73 =>
  Join (fun K79 =>
  Rd Try.prog (WS.at w73) (sBin .eql 3 true (f72 2) (.int .i64 1)) fun t82 =>
  CondK t82
   (Rd Try.prog (WS.at w73) (sSlice 22 (f72 1) (some (f72 3)) none none) fun t83 =>
   Do Try.prog (sBuiltin .append #[22, 22] 22 [false, false] [(f72 12), t83]) (fun t84 w85 =>
   K79 (F.upd (F.upd (F.upd (F.upd (F.upd (F.upd (F.upd (F.upd f72 65 (f72 2)) 66 t82) 67 (f72 12)) 68 (f72 1)) 69 (f72 3)) 70 t83) 71 t84) 12 t84) w85) w73)
   (Rd Try.prog (WS.at w73) (sBin .add 3 true (f72 3) (.int .i64 1)) fun t86 =>
   Rd Try.prog (WS.at w73) (sSlice 22 (f72 1) (some t86) none none) fun t87 =>
   Do Try.prog (sBuiltin .append #[22, 22] 22 [false, false] [(f72 12), t87]) (fun t88 w89 =>
   K79 (F.upd (F.upd (F.upd (F.upd (F.upd (F.upd (F.upd (F.upd (F.upd f72 65 (f72 2)) 66 t82) 72 (f72 12)) 73 (f72 1)) 74 (f72 3)) 75 t86) 76 t87) 77 t88) 12 t88) w89) w73)) (fun f80 w81 =>
  Rd Try.prog (WS.at w81) (sBuiltin .len #[22] 3 [false] [(f80 12)]) fun t90 =>
  Rd Try.prog (WS.at w81) (sBin .gtr 3 true t90 (.int .i64 8)) fun t91 =>
  CondK t91
   (k (.tuple #[(.slice none 0 0), (.bool false)]) w81)
   (k (.tuple #[(f80 12), (.bool true)]) w81)))) w66)) w64) w62) w60) w58) w56) w53) w51) w49) w47) w45) w43) w40) w38) w36) w34) w32) w30) w28) w26) w23) w21) w19) w17) w15) w12) w10) w8) w5) w2) w
theorem body63 : Try.f63.body = some (bodyOf Try.f63) := by kernel_rfl
theorem same63 (v0 v1 v2 v3 v4 : Value) (k : Value → World → Prop) (w : World) : wpF Try.prog pl63 (bodyOf Try.f63) (bodyQ Try.prog Try.f63.results.toList k) (initF [v0, v1, v2, v3, v4]) w = S63 v0 v1 v2 v3 v4 k w := by kernel_rfl
theorem enter63 {v0 v1 v2 v3 v4 : Value} {k : Value → World → Prop} {w : World} (h : S63 v0 v1 v2 v3 v4 k w) : CallK Try.prog 63 [v0, v1, v2, v3, v4] k w :=
  call_of_wpF (pl := pl63) mixed Try.func63 body63 (by kernel_rfl) (of_decide_eq_true (by kernel_rfl)) (by kernel_rfl) (by kernel_rfl) (same63 v0 v1 v2 v3 v4 k w ▸ h)

/-! loop.example/g00758/impl.ChangeWord -/
def pl64 : Plans := fun _ => ⟨false, [], .nil⟩
def S64 (v0 v1 v2 v3 v4 : Value) (k : Value → World → Prop) (w : World) : Prop :=
 Do Try.prog (sBox 37 v0) (fun t1 w2 =>
 Rd Try.prog (WS.at w2) (sLoad 37 t1) fun t3 =>
 CallK Try.prog 84 [t3] (fun t4 w5 =>
 Rd Try.prog (WS.at w5) (sUn .not t4) fun t6 =>
 GuardK t6 false (fun k w' => Rd Try.prog (WS.at w5) (sFieldAddr 37 t1 1) fun v => k v w') (fun t7 w8 =>
 GuardK t6 false (fun k w' => Rd Try.prog (WS.at w8) (sLoad 3 t7) fun v => k v w') (fun t9 w10 =>
 GuardK t6 false (fun k w' => k v1 w') (fun t11 w12 =>
 GuardK t6 false (fun k w' => CallK Try.prog 99 [t9, t11] k w') (fun t13 w14 =>
 GuardK t6 false (fun k w' => Rd Try.prog (WS.at w14) (sUn .not t13) fun v => k v w') (fun t15 w16 =>
 Rd Try.prog (WS.at w16) (sPick t6 (.bool true) t15) fun t17 =>
 GuardK t17 false (fun k w' => k v1 w') (fun t18 w19 =>
 GuardK t17 false (fun k w' => Rd Try.prog (WS.at w19) (sBuiltin .len #[22] 3 [false] [t18]) fun v => k v w') (fun t20 w21 =>
 GuardK t17 false (fun k w' => Rd Try.prog (WS.at w21) (sBin .gtr 3 true t20 (.int .i64 8)) fun v => k v w') (fun t22 w23 =>
 Rd Try.prog (WS.at w23) (sPick t17 (.bool true) t22) fun t24 =>
 GuardK t24 false (fun k w' => k v4 w') (fun t25 w26 =>
 GuardK t24 false (fun k w' => Rd Try.prog (WS.at w26) (sFieldAddr 37 t1 1) fun v => k v w') (fun t27 w28 =>
 GuardK t24 false (fun k w' => Rd Try.prog (WS.at w28) (sLoad 3 t27) fun v => k v w') (fun t29 w30 =>
 GuardK t24 false (fun k w' => Rd Try.prog (WS.at w30) (sBin .sub 3 true t29 (.int .i64 1)) fun v => k v w') (fun t31 w32 =>
 GuardK t24 false (fun k w' => CallK Try.prog 103 [t25, (.int .i64 0), t31] k w') (fun t33 w34 =>
 GuardK t24 false (fun k w' => Rd Try.prog (WS.at w34) (sUn .not t33) fun v => k v w') (fun t35 w36 =>
 Rd Try.prog (WS.at w36) (sPick t24 (.bool true) t35) fun t37 =>
 GuardK t37 false (fun k w' => k v3 w') (fun t38 w39 =>
 GuardK t37 false (fun k w' => k v1 w') (fun t40 w41 =>
 GuardK t37 false (fun k w' => Rd Try.prog (WS.at w41) (sBuiltin .len #[22] 3 [false] [t40]) fun v => k v w') (fun t42 w43 =>
 GuardK t37 false (fun k w' => CallK Try.prog 103 [t38, (.int .i64 0), t42] k w') (fun t44 w45 =>
 GuardK t37 false (fun k w' => Rd Try.prog (WS.at w45) (sUn .not t44) fun v => k v w') (fun t46 w47 =>
 Rd Try.prog (WS.at w47) (sPick t37 (.bool true) t46) fun t48 =>
 CondK t48
  (k (.tuple #[(.slice none 0 0), (.bool false)]) w47)
  (Do Try.prog (sBuildSlice 22 0 []) (fun t49 w50 =>
  Do Try.prog (sBuiltin .append #[22, 22] 22 [false, false] [t49, v1]) (fun t51 w52 =>
  Join (fun K53 =>
  Rd Try.prog (WS.at w52) (sBin .eql 3 true v2 (.int .i64 0)) fun t56 =>
  GuardK t56 true (fun k w' => k v4 w') (fun t57 w58 =>
  GuardK t56 true (fun k w' => Rd Try.prog (WS.at w58) (sBin .eql 3 true t57 (.int .i64 0)) fun v => k v w') (fun t59 w60 =>
  Rd Try.prog (WS.at w60) (sPick t56 t59 (.bool false)) fun t61 =>
  GuardK t61 true (fun k w' => k v3 w') (fun t62 w63 =>
  GuardK t61 true (fun k w' => k v1 w') (fun t64 w65 =>
  GuardK t61 true (fun k w' => Rd Try.prog (WS.at w65) (sBuiltin .len #[22] 3 [false] [t64]) fun v => k v w') (fun t66 w67 =>
  GuardK t61 true (fun k w' => Rd Try.prog (WS.at w67) (sBin .lss 3 false t62 t66) fun v => k v w') (fun t68 w69 =>
  Rd Try.prog (WS.at w69) (sPick t61 t68 (.bool false)) fun t70 =>
  CondK t70
   (Rd Try.prog (WS.at w69) (sBin .add 3 true v3 (.int .i64 1)) fun t71 =>
   CallK Try.prog 119 [t51, v3, t71] (fun t72 w73 =>
   K53 (F.upd (F.upd (F.upd (F.upd (F.upd (F.upd (F.upd (F.upd (F.upd (F.upd (F.upd (F.upd (F.upd (F.upd (F.upd (F.upd (F.upd (F.upd (F.upd (F.upd (F.upd (F.upd (F.upd (F.upd (F.upd (F.upd (F.upd (F.upd (F.upd (F.upd (F.upd (F.upd (F.upd (F.upd (F.upd (F.upd (F.upd (F.upd (F.upd (F.upd (F.upd (F.upd (F.upd (F.upd (F.upd (F.upd (F.upd (F.upd (F.upd (F.upd (F.upd (F.upd (F.upd (F.upd (F.upd (F.upd (initF [v0, v1, v2, v3, v4]) 5 t1) 10 (.slice none 0 0)) 11 (.bool false)) 13 t3) 14 t4) 15 t6) 16 t6) 17 t7) 18 t9) 19 t11) 20 t13) 21 t15) 22 t17) 23 t17) 24 t18) 25 t20) 26 t22) 27 t24) 28 t24) 29 t25) 30 t27) 31 t29) 32 t31) 33 t33) 34 t35) 35 t37) 36 t37) 37 t38) 38 t40) 39 t42) 40 t44) 41 t46) 42 t48) 43 t49) 44 v1) 45 t51) 12 t51) 47 v2) 48 t56) 49 t56) 50 t57) 51 t59) 52 t61) 53 t61) 54 t62) 55 t64) 56 t66) 57 t68) 58 t70) 46 t70) 59 t51) 60 v3) 61 v3) 62 t71) 63 t72) 12 t72) w73) w69)
   (Rd Try.prog (WS.at w69) (sBin .eql 3 true v2 (.int .i64 1)) fun t74 =>
   GuardK t74 true (fun k w' => k v1 w') (fun t75 w76 =>
   GuardK t74 true (fun k w' => Rd Try.prog (WS.at w76) (sBuiltin .len #[22] 3 [false] [t75]) fun v => k v w') (fun t77 w78 =>
   GuardK t74 true (fun k w' => Rd Try.prog (WS.at w78) (sBin .lss 3 true t77 (.int .i64 8)) fun v => k v w') (fun t79 w80 =>
   Rd Try.prog (WS.at w80) (sPick t74 t79 (.bool false)) fun t81 =>
   CondK t81
    (Do Try.prog (sBuildSlice 22 1 [(0, v4)]) (fun t82 w83 =>
    CallK Try.prog 120 [t51, v3, t82] (fun t84 w85 =>
    K53 (F.upd (F.upd (F.upd (F.upd (F.upd (F.upd (F.upd (F.upd (F.upd (F.upd (F.upd (F.upd (F.upd (F.upd (F.upd (F.upd (F.upd (F.upd (F.upd (F.upd (F.upd (F.upd (F.upd (F.upd (F.upd (F.upd (F.upd (F.upd (F.upd (F.upd (F.upd (F.upd (F.upd (F.upd (F.upd (F.upd (F.upd (F.upd (F.upd (F.upd (F.upd (F.upd (F.upd (F.upd (F.upd (F.upd (F.upd (F.upd (F.upd (F.upd (F.upd (F.upd (F.upd (F.upd (F.upd (F.upd (F.upd (F.upd (F.upd (F.upd (F.upd (F.upd (F.upd (F.upd (initF [v0, v1, v2, v3, v4]) 5 t1) 10 (.slice none 0 0)) 11 (.bool false)) 13 t3) 14 t4) 15 t6) 16 t6) 17 t7) 18 t9) 19 t11) 20 t13) 21 t15) 22 t17) 23 t17) 24 t18) 25 t20) 26 t22) 27 t24) 28 t24) 29 t25) 30 t27) 31 t29) 32 t31) 33 t33) 34 t35) 35 t37) 36 t37) 37 t38) 38 t40) 39 t42) 40 t44) 41 t46) 42 t48) 43 t49) 44 v1) 45 t51) 12 t51) 47 v2) 48 t56) 49 t56) 50 t57) 51 t59) 52 t61) 53 t61) 54 t62) 55 t64) 56 t66) 57 t68) 58 t70) 46 t70) 65 v2) 66 t74) 67 t74) 68 t75) 69 t77) 70 t79) 71 t81) 64 t81) 72 t51) 73 v3) 74 v4) 75 t82) 76 t84) 12 t84) w85) w83) w80)
    (Rd Try.prog (WS.at w80) (sBin .eql 3 true v2 (.int .i64 2)) fun t86 =>
    GuardK t86 true (fun k w' => k v3 w') (fun t87 w88 =>
    GuardK t86 true (fun k w' => k v1 w') (fun t89 w90 =>
    GuardK t86 true (fun k w' => Rd Try.prog (WS.at w90) (sBuiltin .len #[22] 3 [false] [t89]) fun v => k v w') (fun t91 w92 =>
    GuardK t86 true (fun k w' => Rd Try.prog (WS.at w92) (sBin .lss 3 false t87 t91) fun v => k v w') (fun t93 w94 =>
    Rd Try.prog (WS.at w94) (sPick t86 t93 (.bool false)) fun t95 =>
    CondK t95
     (Rd Try.prog (WS.at w94) (sIndexAddr 22 t51 v3) fun t96 =>
     Do Try.prog (sStore 3 t96 v4) (fun _ w97 =>
     K53 (F.upd (F.upd (F.upd (F.upd (F.upd (F.upd (F.upd (F.upd (F.upd (F.upd (F.upd (F.upd (F.upd (F.upd (F.upd (F.upd (F.upd (F.upd (F.upd (F.upd (F.upd (F.upd (F.upd (F.upd (F.upd (F.upd (F.upd (F.upd (F.upd (F.upd (F.upd (F.upd (F.upd (F.upd (F.upd (F.upd (F.upd (F.upd (F.upd (F.upd (F.upd (F.upd (F.upd (F.upd (F.upd (F.upd (F.upd (F.upd (F.upd (F.upd (F.upd (F.upd (F.upd (F.upd (F.upd (F.upd (F.upd (F.upd (F.upd (F.upd (F.upd (F.upd (F.upd (F.upd (F.upd (F.upd (F.upd (F.upd (F.upd (F.upd (F.upd (initF [v0, v1, v2, v3, v4]) 5 t1) 10 (.slice none 0 0)) 11 (.bool false)) 13 t3) 14 t4) 15 t6) 16 t6) 17 t7) 18 t9) 19 t11) 20 t13) 21 t15) 22 t17) 23 t17) 24 t18) 25 t20) 26 t22) 27 t24) 28 t24) 29 t25) 30 t27) 31 t29) 32 t31) 33 t33) 34 t35) 35 t37) 36 t37) 37 t38) 38 t40) 39 t42) 40 t44) 41 t46) 42 t48) 43 t49) 44 v1) 45 t51) 12 t51) 47 v2) 48 t56) 49 t56) 50 t57) 51 t59) 52 t61) 53 t61) 54 t62) 55 t64) 56 t66) 57 t68) 58 t70) 46 t70) 65 v2) 66 t74) 67 t74) 68 t75) 69 t77) 70 t79) 71 t81) 64 t81) 78 v2) 79 t86) 80 t86) 81 t87) 82 t89) 83 t91) 84 t93) 85 t95) 77 t95) 86 t51) 87 v3) 88 v4) 89 t96) w97) w94)
     (k (.tuple #[(.slice none 0 0), (.bool false)]) w94)) w92) w90) w88) w80)) w78) w76) w69)) w67) w65) w63) w60) w58) w52) (fun f54 w55 =>
  k (.tuple #[(f54 12), (.bool true)]) w55)) w50) w47)) w45) w43) w41) w39) w36) w34) w32) w30) w28) w26) w23) w21) w19) w16) w14) w12) w10) w8) w5) w2) w
theorem body64 : Try.f64.body = some (bodyOf Try.f64) := by kernel_rfl
theorem same64 (v0 v1 v2 v3 v4 : Value) (k : Value → World → Prop) (w : World) : wpF Try.prog pl64 (bodyOf Try.f64) (bodyQ Try.prog Try.f64.results.toList k) (initF [v0, v1, v2, v3, v4]) w = S64 v0 v1 v2 v3 v4 k w := by kernel_rfl
theorem enter64 {v0 v1 v2 v3 v4 : Value} {k : Value → World → Prop} {w : World} (h : S64 v0 v1 v2 v3 v4 k w) : CallK Try.prog 64 [v0, v1, v2, v3, v4] k w :=
  call_of_wpF (pl := pl64) mixed Try.func64 body64 (by kernel_rfl) (of_decide_eq_true (by kernel_rfl)) (by kernel_rfl) (by kernel_rfl) (same64 v0 v1 v2 v3 v4 k w ▸ h)

/-! slices.Delete[[]int,int] -/
def pl119 : Plans := fun i => match i with
  | 5 => ⟨false, [6], .step 0 .any (.step 1 .any (.step 2 .any (.step 3 .any (.step 4 .any (.step 5 .any (.step 6 .last (.step 7 .any (.nil))))))))⟩
  | _ => ⟨false, [], .nil⟩
def S119 (v0 v1 v2 : Value) (k : Value → World → Prop) (w : World) : Prop :=
 Rd Try.prog (WS.at w) (sBuiltin .len #[22] 3 [false] [v0]) fun t1 =>
 Rd Try.prog (WS.at w) (sSlice 22 v0 (some v1) (some v2) (some t1)) fun t2 =>
 Rd Try.prog (WS.at w) (sBin .eql 3 false v1 v2) fun t3 =>
 CondK t3
  (k v0 w)
  (Rd Try.prog (WS.at w) (sBuiltin .len #[22] 3 [false] [v0]) fun t4 =>
  Rd Try.prog WS.any (sSlice 22 v0 none (some v1) none) fun t5 =>
  Rd Try.prog WS.any (sSlice 22 v0 (some v2) none none) fun t6 =>
  Do Try.prog (sBuiltin .append #[22, 22] 22 [false, false] [t5, t6]) (fun t7 w8 =>
  Rd Try.prog (WS.at w8) (sBuiltin .len #[22] 3 [false] [t7]) fun t9 =>
  Rd Try.prog (WS.at w8) (sSlice 22 t7 (some t9) (some t4) none) fun t10 =>
  Do Try.prog (sBuiltin .clear #[22] 0 [false] [t10]) (fun _ w11 =>
  k t7 w11) w8) w.drew)
theorem body119 : Try.f119.body = some (bodyOf Try.f119) := by kernel_rfl
theorem same119 (v0 v1 v2 : Value) (k : Value → World → Prop) (w : World) : wpF Try.prog pl119 (bodyOf Try.f119) (bodyQ Try.prog Try.f119.results.toList k) (initF [v0, v1, v2]) w = S119 v0 v1 v2 k w := by kernel_rfl
theorem enter119 {v0 v1 v2 : Value} {k : Value → World → Prop} {w : World} (h : S119 v0 v1 v2 k w) : CallK Try.prog 119 [v0, v1, v2] k w :=
  call_of_wpF (pl := pl119) mixed Try.func119 body119 (by kernel_rfl) (of_decide_eq_true (by kernel_rfl)) (by kernel_rfl) (by kernel_rfl) (same119 v0 v1 v2 k w ▸ h)

/-! slices.Insert[[]int,int] -/
def pl120 : Plans := fun i => match i with
  | 11 => ⟨false, [8], .step 0 .any (.step 1 .any (.step 2 .any (.step 3 .any (.step 4 .any (.step 5 .any (.step 6 .any (.step 7 .any (.step 8 .last (.nil)))))))))⟩
  | 15 => ⟨false, [8], .step 0 .any (.step 1 .any (.step 2 .any (.step 3 .any (.step 4 .any (.step 5 .any (.step 6 .any (.step 7 .any (.step 8 .last (.nil)))))))))⟩
  | _ => ⟨false, [], .nil⟩
def S120 (v0 v1 v2 : Value) (k : Value → World → Prop) (w : World) : Prop :=
 Rd Try.prog (WS.at w) (sSlice 22 v0 (some v1) none none) fun t1 =>
 Rd Try.prog (WS.at w) (sBuiltin .len #[22] 3 [false] [v2]) fun t2 =>
 Rd Try.prog (WS.at w) (sBin .eql 3 true t2 (.int .i64 0)) fun t3 =>
 CondK t3
  (k v0 w)
  (Rd Try.prog (WS.at w) (sBuiltin .len #[22] 3 [false] [v0]) fun t4 =>
  Rd Try.prog (WS.at w) (sBin .eql 3 false v1 t4) fun t5 =>
  CondK t5
   (Do Try.prog (sBuiltin .append #[22, 22] 22 [false, false] [v0, v2]) (fun t6 w7 =>
   k t6 w7) w)
   (Rd Try.prog (WS.at w) (sBin .add 3 false t4 t2) fun t8 =>
   Rd Try.prog (WS.at w) (sBuiltin .cap #[22] 3 [false] [v0]) fun t9 =>
   Rd Try.prog (WS.at w) (sBin .gtr 3 false t8 t9) fun t10 =>
   CondK t10
    (Rd Try.prog (WS.at w) (sSlice 22 v0 none (some v1) none) fun t11 =>
    Rd Try.prog (WS.at w) (sBin .add 3 false t4 t2) fun t12 =>
    Rd Try.prog (WS.at w) (sBin .sub 3 false t12 v1) fun t13 =>
    Do Try.prog (sBuiltin .append #[22, 3] 22 [false, false] [t11, t13]) (fun t14 w15 =>
    Rd Try.prog (WS.at w15) (sSlice 22 t14 (some v1) none none) fun t16 =>
    Do Try.prog (sBuiltin .copy #[22, 22] 3 [false, false] [t16, v2]) (fun t17 w18 =>
    Rd Try.prog WS.any (sBin .add 3 false v1 t2) fun t19 =>
    Rd Try.prog WS.any (sSlice 22 t14 (some t19) none none) fun t20 =>
    Rd Try.prog WS.any (sSlice 22 v0 (some v1) none none) fun t21 =>
    Do Try.prog (sBuiltin .copy #[22, 22] 3 [false, false] [t20, t21]) (fun t22 w23 =>
    k t14 w23) w18.drew) w15) w)
    (Rd Try.prog (WS.at w) (sBin .add 3 false t4 t2) fun t24 =>
    Rd Try.prog (WS.at w) (sSlice 22 v0 none (some t24) none) fun t25 =>
    Rd Try.prog (WS.at w) (sBin .add 3 false v1 t2) fun t26 =>
    Rd Try.prog (WS.at w) (sSlice 22 t25 (some t26) none none) fun t27 =>
    CallK Try.prog 159 [v2, t27] (fun t28 w29 =>
    Rd Try.prog (WS.at w29) (sUn .not t28) fun t30 =>
    CondK t30
     (Rd Try.prog WS.any (sBin .add 3 false v1 t2) fun t31 =>
     Rd Try.prog WS.any (sSlice 22 t25 (some t31) none none) fun t32 =>
     Rd Try.prog WS.any (sSlice 22 t25 (some v1) none none) fun t33 =>
     Do Try.prog (sBuiltin .copy #[22, 22] 3 [false, false] [t32, t33]) (fun t34 w35 =>
     Rd Try.prog (WS.at w35) (sSlice 22 t25 (some v1) none none) fun t36 =>
     Do Try.prog (sBuiltin .copy #[22, 22] 3 [false, false] [t36, v2]) (fun t37 w38 =>
     k t25 w38) w35) w29.drew)
     (Rd Try.prog (WS.at w29) (sSlice 22 t25 (some t4) none none) fun t39 =>
     Do Try.prog (sBuiltin .copy #[22, 22] 3 [false, false] [t39, v2]) (fun t40 w41 =>
     Rd Try.prog (WS.at w41) (sSlice 22 t25 (some v1) none none) fun t42 =>
     CallK Try.prog 160 [t42, t2] (fun t43 w44 =>
     k t25 w44) w41) w29)) w)))
theorem body120 : Try.f120.body = some (bodyOf Try.f120) := by kernel_rfl
theorem same120 (v0 v1 v2 : Value) (k : Value → World → Prop) (w : World) : wpF Try.prog pl120 (bodyOf Try.f120) (bodyQ Try.prog Try.f120.results.toList k) (initF [v0, v1, v2]) w = S120 v0 v1 v2 k w := by kernel_rfl
theorem enter120 {v0 v1 v2 : Value} {k : Value → World → Prop} {w : World} (h : S120 v0 v1 v2 k w) : CallK Try.prog 120 [v0, v1, v2] k w :=
  call_of_wpF (pl := pl120) mixed Try.func120 body120 (by kernel_rfl) (of_decide_eq_true (by kernel_rfl)) (by kernel_rfl) (by kernel_rfl) (same120 v0 v1 v2 k w ▸ h)

/-! slices.rotateRight[int] -/
def pl160 : Plans := fun _ => ⟨false, [], .nil⟩
def S160 (v0 v1 : Value) (k : Value → World → Prop) (w : World) : Prop :=
 Rd Try.prog (WS.at w) (sBuiltin .len #[22] 3 [false] [v0]) fun t1 =>
 Rd Try.prog (WS.at w) (sBin .sub 3 false t1 v1) fun t2 =>
 CallK Try.prog 186 [v0, t2] (fun t3 w4 =>
 k (.tuple #[]) w4) w
theorem body160 : Try.f160.body = some (bodyOf Try.f160) := by kernel_rfl
theorem same160 (v0 v1 : Value) (k : Value → World → Prop) (w : World) : wpF Try.prog pl160 (bodyOf Try.f160) (bodyQ Try.prog Try.f160.results.toList k) (initF [v0, v1]) w = S160 v0 v1 k w := by kernel_rfl
theorem enter160 {v0 v1 : Value} {k : Value → World → Prop} {w : World} (h : S160 v0 v1 k w) : CallK Try.prog 160 [v0, v1] k w :=
  call_of_wpF (pl := pl160) mixed Try.func160 body160 (by kernel_rfl) (of_decide_eq_true (by kernel_rfl)) (by kernel_rfl) (by kernel_rfl) (same160 v0 v1 k w ▸ h)

/-! slices.rotateLeft[int] -/
def pl186 : Plans := fun _ => ⟨false, [], .nil⟩
def S186 (v0 v1 : Value) (k : Value → World → Prop) (w : World) : Prop :=
 Rd Try.prog (WS.at w) (sSlice 22 v0 none (some v1) none) fun t1 =>
 CallK Try.prog 193 [t1] (fun t2 w3 =>
 Rd Try.prog (WS.at w3) (sSlice 22 v0 (some v1) none none) fun t4 =>
 CallK Try.prog 193 [t4] (fun t5 w6 =>
 CallK Try.prog 193 [v0] (fun t7 w8 =>
 k (.tuple #[]) w8) w6) w3) w
theorem body186 : Try.f186.body = some (bodyOf Try.f186) := by kernel_rfl
theorem same186 (v0 v1 : Value) (k : Value → World → Prop) (w : World) : wpF Try.prog pl186 (bodyOf Try.f186) (bodyQ Try.prog Try.f186.results.toList k) (initF [v0, v1]) w = S186 v0 v1 k w := by kernel_rfl
theorem enter186 {v0 v1 : Value} {k : Value → World → Prop} {w : World} (h : S186 v0 v1 k w) : CallK Try.prog 186 [v0, v1] k w :=
  call_of_wpF (pl := pl186) mixed Try.func186 body186 (by kernel_rfl) (of_decide_eq_true (by kernel_rfl)) (by kernel_rfl) (by kernel_rfl) (same186 v0 v1 k w ▸ h)

/-! slices.Reverse[[]int,int] -/
def pl193 : Plans := fun i => match i with
  | 3 => ⟨false, [13, 15], .step 0 .any (.step 1 .any (.step 2 .any (.step 3 .any (.step 4 .any (.step 5 .any (.step 6 .any (.step 7 .held (.step 8 .any (.step 9 .any (.step 10 .any (.step 11 .held (.step 12 .any (.step 13 .last (.step 14 .any (.step 15 .last (.nil))))))))))))))))⟩
  | _ => ⟨false, [], .nil⟩
def S193 (v0 : Value) (k : Value → World → Prop) (w : World) : Prop :=
 Rd Try.prog (WS.at w) (sBuiltin .len #[22] 3 [false] [v0]) fun t1 =>
 Rd Try.prog (WS.at w) (sBin .sub 3 true t1 (.int .i64 1)) fun t2 =>
 LoopF [7, 8, 9, 14, 15, 16, 17, 18, 19, 20, 21, 22, 23, 24, 25, 26, 27, 10, 11, 12, 13, 2, 3] (fun Q3 f4 w5 =>
  Rd Try.prog (WS.at w5) (sBin .lss 3 false (f4 2) (f4 3)) fun t6 =>
  CondK t6
   (Rd Try.prog WS.any (sIndexAddr 22 (f4 0) (f4 3)) fun t7 =>
   Rd Try.prog (WS.at w5.drew) (sLoad 3 t7) fun t8 =>
   Rd Try.prog WS.any (sIndexAddr 22 (f4 0) (f4 2)) fun t9 =>
   Rd Try.prog (WS.at w5.drew) (sLoad 3 t9) fun t10 =>
   Rd Try.prog WS.any (sIndexAddr 22 (f4 0) (f4 2)) fun t11 =>
   Do Try.prog (sStore 3 t11 t8) (fun _ w12 =>
   Rd Try.prog WS.any (sIndexAddr 22 (f4 0) (f4 3)) fun t13 =>
   Do Try.prog (sStore 3 t13 t10) (fun _ w14 =>
   Rd Try.prog (WS.at w14) (sBin .add 3 true (f4 2) (.int .i64 1)) fun t15 =>
   Rd Try.prog (WS.at w14) (sBin .sub 3 true (f4 3) (.int .i64 1)) fun t16 =>
   Q3 .normal (F.upd (F.upd (F.upd (F.upd (F.upd (F.upd (F.upd (F.upd (F.upd (F.upd (F.upd (F.upd (F.upd (F.upd (F.upd (F.upd (F.upd (F.upd (F.upd (F.upd (F.upd (F.upd (F.upd f4 7 (f4 2)) 8 (f4 3)) 9 t6) 14 (f4 0)) 15 (f4 2)) 16 (f4 0)) 17 (f4 3)) 18 (f4 0)) 19 (f4 3)) 20 t7) 21 t8) 22 (f4 0)) 23 (f4 2)) 24 t9) 25 t10) 26 t11) 27 t13) 10 (f4 2)) 11 t15) 12 (f4 3)) 13 t16) 2 t15) 3 t16) w14) w12) w5.drew)
   (Q3 (.exit 0) (F.upd (F.upd (F.upd f4 7 (f4 2)) 8 (f4 3)) 9 t6) w5))
  (blockQ 0 (bodyQ Try.prog [] k))
  (F.upd (F.upd (F.upd (F.upd (F.upd (initF [v0]) 4 v0) 5 t1) 6 t2) 2 (.int .i64 0)) 3 t2) w
theorem body193 : Try.f193.body = some (bodyOf Try.f193) := by kernel_rfl
theorem same193 (v0 : Value) (k : Value → World → Prop) (w : World) : wpF Try.prog pl193 (bodyOf Try.f193) (bodyQ Try.prog Try.f193.results.toList k) (initF [v0]) w = S193 v0 k w := by kernel_rfl
theorem enter193 {v0 : Value} {k : Value → World → Prop} {w : World} (h : S193 v0 k w) : CallK Try.prog 193 [v0] k w :=
  call_of_wpF (pl := pl193) mixed Try.func193 body193 (by kernel_rfl) (of_decide_eq_true (by kernel_rfl)) (by kernel_rfl) (by kernel_rfl) (same193 v0 k w ▸ h)

end Go.Proofs.Ytiohaeckagjebaa

/- Contract: one change of a word, by the reference. -/
set_option linter.unusedVariables false
set_option linter.unusedSimpArgs false
set_option maxRecDepth 100000
namespace Go.Sh
open Go
theorem initF_1 (a b : Value) (l : List Value) : initF (a :: b :: l) 1 = b := rfl
theorem initF_2 (a b c : Value) (l : List Value) : initF (a :: b :: c :: l) 2 = c := rfl
theorem initF_3 (a b c d : Value) (l : List Value) : initF (a :: b :: c :: d :: l) 3 = d := rfl
theorem inB_dec (n lo hi : Int) : inB n lo hi = decide (lo ≤ n ∧ n ≤ hi) := by simp [inB, Bool.decide_and]
def ChgOk (gm : Gram) (ws : List Int) (kd pt tok : Int) : Prop := goodG gm = true ∧ wordB gm.toks ws = true ∧ ws.length ≤ 8 ∧ (0 ≤ tok ∧ tok ≤ gm.toks - 1) ∧ (0 ≤ pt ∧ pt ≤ ws.length) ∧ ((kd = 0 ∧ tok = 0 ∧ pt < ws.length) ∨ (kd = 1 ∧ ws.length < 8) ∨ (kd = 2 ∧ pt < ws.length))
def chgL (ws : List Int) (kd : Int) (p : Nat) (tok : Int) : List Int := ws.take p ++ ((if 0 < kd then [tok] else []) ++ (if kd = 1 then ws.drop p else ws.drop (p + 1)))
open Classical in
noncomputable def changeV (gm : Gram) (ws : List Int) (kd pt tok : Int) : List Int × Bool := if ChgOk gm ws kd pt tok then (chgL ws kd pt.toNat tok, true) else ([], false)
theorem changeV_len (gm : Gram) (ws : List Int) (kd pt tok : Int) : (changeV gm ws kd pt tok).1.length ≤ 1000000 := by
  unfold changeV
  split
  · rename_i h
    have := h.2.2.1
    unfold chgL
    dsimp only
    simp only [List.length_append, List.length_take]
    have h1 : (if 0 < kd then [tok] else []).length ≤ 1 := by split <;> simp
    have h2 : (if kd = 1 then ws.drop pt.toNat else ws.drop (pt.toNat + 1)).length ≤ ws.length := by split <;> simp
    omega
  · simp
end Go.Sh
namespace Go.Proofs.Ytiohaeckagjebaa
open Go Go.Sh Go.RowKit
theorem specChangeWord_c {F : Nat → Prop} {w : World} {v : Value} {gm : Gram} {kd pt tok : Int} {X : Option Addr} {n cx : Nat} {ws : List Int} (hv : GramV F w v gm) (hX : Ints w X ws) (hn : n = ws.length) (hcx : ws.length ≤ cx) {k : Value → World → Prop}
    (hk : ∀ w' U d, Gr w w' → Own 3 w' w.heap.size U d (changeV gm ws kd pt tok).1 → k (.tuple #[.slice U (changeV gm ws kd pt tok).1.length d, .bool (changeV gm ws kd pt tok).2]) w') :
    CallK Try.prog 63 [v, .slice X n cx, .int .i64 kd, .int .i64 pt, .int .i64 tok] k w := by
  subst hn
  obtain ⟨Y, cy, rfl, hc, hy⟩ := hv
  refine enter63 ?_
  unfold S63
  have H := Apt.nil w
  refine boxH H fun b1 w1 H => ?_
  refine rdi (ldB_agg agg37 sz37 rfl (H.box 0 rfl)) ?_
  have no : ¬ ChgOk gm ws kd pt tok → ∀ w', Gr w w' → k (.tuple #[.slice none 0 0, .bool false]) w' := fun h w' g => by
    rw [changeV, if_neg h] at hk
    exact hk w' none 0 g (Row.nil _ _ _ _)
  refine l17Word_c (gm := gm) ⟨Y, cy, rfl, hc, hy.gr H.gr⟩ (hX.gr H.gr) rfl fun w2 g2 => ?_
  have H := H.step g2
  cases h1 : goodG gm && wordB gm.toks ws && decide (ws.length ≤ 8)
  · simp only [Bool.not_false, go_sem, Nat.reduceEqDiff]
    exact no (fun h => by rw [h.1, h.2.1, decide_eq_true h.2.2.1] at h1; cases h1) _ H.gr
  simp only [Bool.not_true, go_sem, Nat.reduceEqDiff]
  simp only [Bool.and_eq_true, decide_eq_true_eq] at h1
  obtain ⟨⟨hg, hw⟩, h8⟩ := h1
  have htk := good_toks hg
  refine l1In_c ?_
  rw [inB_dec]
  by_cases hkd : 0 ≤ kd ∧ kd ≤ 2
  case neg =>
    rw [decide_eq_false hkd]
    simp only [Bool.not_false, go_sem, Nat.reduceEqDiff]
    exact no (fun h => hkd (by rcases h.2.2.2.2.2 with h | h | h <;> omega)) _ H.gr
  rw [decide_eq_true hkd]
  simp only [Bool.not_true, go_sem, Nat.reduceEqDiff]
  refine l1In_c ?_
  rw [inB_dec]
  by_cases hpt : 0 ≤ pt ∧ pt ≤ ws.length
  case neg =>
    rw [decide_eq_false hpt]
    simp only [Bool.not_false, go_sem, Nat.reduceEqDiff]
    exact no (fun h => hpt h.2.2.2.2.1) _ H.gr
  rw [decide_eq_true hpt]
  obtain ⟨p, rfl⟩ : ∃ p : Nat, pt = p := ⟨pt.toNat, by omega⟩
  have hp : p ≤ ws.length := by omega
  rcases (show kd = 0 ∨ kd = 1 ∨ kd = 2 by omega) with rfl | rfl | rfl
  · simp only [Bool.not_true, show ¬ ((0 : Int) = 1) from by decide, show  ((0 : Int) = 0) from by decide, show ¬ ((0 : Int) < 0) from by decide, decide_true, decide_false, Bool.not_false, go_sem, Nat.reduceEqDiff]
    by_cases hpl : p < ws.length
    case neg =>
      simp only [show ((p : Int) = ws.length) from by omega, decide_true, go_sem, Nat.reduceEqDiff]
      exact no (fun h => by rcases h.2.2.2.2.2 with h | h | h <;> omega) _ H.gr
    simp only [show ¬ ((p : Int) = ws.length) from by omega, decide_false, go_sem, Nat.reduceEqDiff]
    refine rdi (ldB3 (H.box 0 rfl) rfl) ?_
    simp only [go_sem, Nat.reduceEqDiff]
    rw [i64_of (by omega) (by omega)]
    refine l1In_c ?_
    rw [inB_dec]
    by_cases htok : 0 ≤ tok ∧ tok ≤ gm.toks - 1
    case neg =>
      rw [decide_eq_false htok]
      simp only [Bool.not_false, go_sem, Nat.reduceEqDiff]
      exact no (fun h => htok h.2.2.2.1) _ H.gr
    rw [decide_eq_true htok]
    simp only [Bool.not_true, show ¬ ((0 : Int) = 1) from by decide, show  ((0 : Int) = 0) from by decide, show ¬ ((0 : Int) < 0) from by decide, decide_true, decide_false, Bool.not_false, go_sem, Nat.reduceEqDiff]
    by_cases ht0 : tok = 0
    case neg =>
      simp only [ht0, decide_false, Bool.not_false, go_sem, Nat.reduceEqDiff]
      exact no (fun h => by rcases h.2.2.2.2.2 with h | h | h <;> omega) _ H.gr
    simp only [ht0, decide_true, Bool.not_true, go_sem, Nat.reduceEqDiff]
    refine rdi (slh22 (by omega) (by omega)) ?_
    have ht : Ints w2 (sub X 0 cx 1) (ws.take p) := by
      have := (hX.gr H.gr).sub (l := 0) (c := cx) (Nat.zero_le _) hcx p
      rwa [List.drop_zero] at this
    have hlt : (ws.take p).length = p := by rw [List.length_take]; omega
    refine l1Own_c ht (by rw [hlt]; omega) (by omega) fun X1 d1 w3 g3 o1 => ?_
    have H := H.addRow g3 o1
    simp only [List.nil_append, List.cons_append] at H
    simp only [initF_1, initF_2, initF_3, show ¬ ((0 : Int) = 1) from by decide, show  ((0 : Int) = 0) from by decide, show ¬ ((0 : Int) < 0) from by decide, decide_true, decide_false, go_sem, Nat.reduceEqDiff]
    rw [i64_of (by omega) (by omega)]
    refine rdi (sll22 (by omega) (by omega)) ?_
    have hr := (hX.gr H.gr).sub (l := (p + 1)) (c := cx) (by omega) hcx ws.length
    rw [List.take_of_length_le (by rw [List.length_drop]; omega)] at hr
    have hlr : (ws.drop (p + 1)).length = ws.length - (p + 1) := List.length_drop
    rw [show Int.toNat ((p : Int) + 1) = (p + 1) from by omega]
    refine apH H 1 rfl hr rfl hlr.symm (by first | omega | (simp only [List.length_append, List.length_cons, List.length_nil]; omega)) fun X2 d2 w4 H => ?_
    simp only [List.set_cons_zero, List.set_cons_succ] at H
    have hL : ws.take p ++ ws.drop (p + 1) = chgL ws 0 p tok := by
      unfold chgL
      rw [if_neg (by decide), if_neg (by decide), List.nil_append]
    have hCL : (chgL ws 0 p tok).length = ws.length - 1 := by
      rw [← hL]
      simp only [List.length_append, List.length_cons, List.length_nil]
      omega
    rw [hL] at H ⊢
    simp only [show ¬ ((8 : Int) < (chgL ws 0 p tok).length) from by omega, decide_false, go_sem, Nat.reduceEqDiff]
    rw [changeV, if_pos ⟨hg, hw, h8, htok, hpt, by omega⟩, Int.toNat_natCast] at hk
    exact hk _ _ _ H.gr (H.own 1 rfl)
  · simp only [Bool.not_true, show  ((1 : Int) = 1) from by decide, show ¬ ((1 : Int) = 0) from by decide, show  ((0 : Int) < 1) from by decide, decide_true, decide_false, Bool.not_false, go_sem, Nat.reduceEqDiff]
    refine rdi (ldB3 (H.box 0 rfl) rfl) ?_
    simp only [go_sem, Nat.reduceEqDiff]
    rw [i64_of (by omega) (by omega)]
    refine l1In_c ?_
    rw [inB_dec]
    by_cases htok : 0 ≤ tok ∧ tok ≤ gm.toks - 1
    case neg =>
      rw [decide_eq_false htok]
      simp only [Bool.not_false, go_sem, Nat.reduceEqDiff]
      exact no (fun h => htok h.2.2.2.1) _ H.gr
    rw [decide_eq_true htok]
    simp only [Bool.not_true, show  ((1 : Int) = 1) from by decide, show ¬ ((1 : Int) = 0) from by decide, show  ((0 : Int) < 1) from by decide, decide_true, decide_false, Bool.not_false, go_sem, Nat.reduceEqDiff]
    refine rdi (slh22 (by omega) (by omega)) ?_
    have ht : Ints w2 (sub X 0 cx 1) (ws.take p) := by
      have := (hX.gr H.gr).sub (l := 0) (c := cx) (Nat.zero_le _) hcx p
      rwa [List.drop_zero] at this
    have hlt : (ws.take p).length = p := by rw [List.length_take]; omega
    refine l1Own_c ht (by rw [hlt]; omega) (by omega) fun X1 d1 w3 g3 o1 => ?_
    have H := H.addRow g3 o1
    simp only [List.nil_append, List.cons_append] at H
    refine pushH H 1 rfl rfl (by omega) fun t1 X1 d1 w3 H => ?_
    simp only [List.set_cons_zero, List.set_cons_succ] at H
    simp only [initF_1, initF_2, initF_3, show  ((1 : Int) = 1) from by decide, show ¬ ((1 : Int) = 0) from by decide, show  ((0 : Int) < 1) from by decide, decide_true, decide_false, go_sem, Nat.reduceEqDiff]
    refine rdi (sll22 (by omega) (by omega)) ?_
    have hr := (hX.gr H.gr).sub (l := p) (c := cx) (by omega) hcx ws.length
    rw [List.take_of_length_le (by rw [List.length_drop]; omega)] at hr
    have hlr : (ws.drop p).length = ws.length - p := List.length_drop
    rw [show Int.toNat (p : Int) = p from by omega]
    refine apH H 1 rfl hr rfl hlr.symm (by first | omega | (simp only [List.length_append, List.length_cons, List.length_nil]; omega)) fun X2 d2 w4 H => ?_
    simp only [List.set_cons_zero, List.set_cons_succ] at H
    have hL : ws.take p ++ [tok] ++ ws.drop p = chgL ws 1 p tok := by
      unfold chgL
      rw [if_pos (by decide), if_pos rfl, List.append_assoc]
    have hCL : (chgL ws 1 p tok).length = ws.length + 1 := by
      rw [← hL]
      simp only [List.length_append, List.length_cons, List.length_nil]
      omega
    rw [hL] at H ⊢
    by_cases hs : ws.length < 8
    case neg =>
      simp only [show (8 : Int) < (chgL ws 1 p tok).length from by omega, decide_true, go_sem, Nat.reduceEqDiff]
      exact no (fun h => by rcases h.2.2.2.2.2 with h | h | h <;> omega) _ H.gr
    simp only [show ¬ ((8 : Int) < (chgL ws 1 p tok).length) from by omega, decide_false, go_sem, Nat.reduceEqDiff]
    rw [changeV, if_pos ⟨hg, hw, h8, htok, hpt, by omega⟩, Int.toNat_natCast] at hk
    exact hk _ _ _ H.gr (H.own 1 rfl)
  · simp only [Bool.not_true, show ¬ ((2 : Int) = 1) from by decide, show ¬ ((2 : Int) = 0) from by decide, show  ((0 : Int) < 2) from by decide, decide_true, decide_false, Bool.not_false, go_sem, Nat.reduceEqDiff]
    by_cases hpl : p < ws.length
    case neg =>
      simp only [show ((p : Int) = ws.length) from by omega, decide_true, go_sem, Nat.reduceEqDiff]
      exact no (fun h => by rcases h.2.2.2.2.2 with h | h | h <;> omega) _ H.gr
    simp only [show ¬ ((p : Int) = ws.length) from by omega, decide_false, go_sem, Nat.reduceEqDiff]
    refine rdi (ldB3 (H.box 0 rfl) rfl) ?_
    simp only [go_sem, Nat.reduceEqDiff]
    rw [i64_of (by omega) (by omega)]
    refine l1In_c ?_
    rw [inB_dec]
    by_cases htok : 0 ≤ tok ∧ tok ≤ gm.toks - 1
    case neg =>
      rw [decide_eq_false htok]
      simp only [Bool.not_false, go_sem, Nat.reduceEqDiff]
      exact no (fun h => htok h.2.2.2.1) _ H.gr
    rw [decide_eq_true htok]
    simp only [Bool.not_true, show ¬ ((2 : Int) = 1) from by decide, show ¬ ((2 : Int) = 0) from by decide, show  ((0 : Int) < 2) from by decide, decide_true, decide_false, Bool.not_false, go_sem, Nat.reduceEqDiff]
    refine rdi (slh22 (by omega) (by omega)) ?_
    have ht : Ints w2 (sub X 0 cx 1) (ws.take p) := by
      have := (hX.gr H.gr).sub (l := 0) (c := cx) (Nat.zero_le _) hcx p
      rwa [List.drop_zero] at this
    have hlt : (ws.take p).length = p := by rw [List.length_take]; omega
    refine l1Own_c ht (by rw [hlt]; omega) (by omega) fun X1 d1 w3 g3 o1 => ?_
    have H := H.addRow g3 o1
    simp only [List.nil_append, List.cons_append] at H
    refine pushH H 1 rfl rfl (by omega) fun t1 X1 d1 w3 H => ?_
    simp only [List.set_cons_zero, List.set_cons_succ] at H
    simp only [initF_1, initF_2, initF_3, show ¬ ((2 : Int) = 1) from by decide, show ¬ ((2 : Int) = 0) from by decide, show  ((0 : Int) < 2) from by decide, decide_true, decide_false, go_sem, Nat.reduceEqDiff]
    rw [i64_of (by omega) (by omega)]
    refine rdi (sll22 (by omega) (by omega)) ?_
    have hr := (hX.gr H.gr).sub (l := (p + 1)) (c := cx) (by omega) hcx ws.length
    rw [List.take_of_length_le (by rw [List.length_drop]; omega)] at hr
    have hlr : (ws.drop (p + 1)).length = ws.length - (p + 1) := List.length_drop
    rw [show Int.toNat ((p : Int) + 1) = (p + 1) from by omega]
    refine apH H 1 rfl hr rfl hlr.symm (by first | omega | (simp only [List.length_append, List.length_cons, List.length_nil]; omega)) fun X2 d2 w4 H => ?_
    simp only [List.set_cons_zero, List.set_cons_succ] at H
    have hL : ws.take p ++ [tok] ++ ws.drop (p + 1) = chgL ws 2 p tok := by
      unfold chgL
      rw [if_pos (by decide), if_neg (by decide), List.append_assoc]
    have hCL : (chgL ws 2 p tok).length = ws.length := by
      rw [← hL]
      simp only [List.length_append, List.length_cons, List.length_nil]
      omega
    rw [hL] at H ⊢
    simp only [show ¬ ((8 : Int) < (chgL ws 2 p tok).length) from by omega, decide_false, go_sem, Nat.reduceEqDiff]
    rw [changeV, if_pos ⟨hg, hw, h8, htok, hpt, by omega⟩, Int.toNat_natCast] at hk
    exact hk _ _ _ H.gr (H.own 1 rfl)
end Go.Proofs.Ytiohaeckagjebaa

/- slices.Insert and slices.Delete at []int: the library's contracts, laid over this program. -/
set_option linter.unusedVariables false
set_option linter.unusedSimpArgs false
set_option maxRecDepth 100000
namespace Go.Proofs.Ytiohaeckagjebaa
open Go Go.Sh Go.RowKit Go.Shelf
def rho : Ren := ⟨fun x => match x with
  | 21 => 120
  | 23 => 119
  | 27 => 159
  | 28 => 160
  | 35 => 186
  | 39 => 193
  | x => x, fun x => x, fun x => x⟩
theorem lay21 : Lays2.n21 Try.prog rho where
  mixed := by kernel_rfl
  f21 := by kernel_rfl
  f27 := by kernel_rfl
  f28 := by kernel_rfl
  f35 := by kernel_rfl
  f39 := by kernel_rfl
  t0 := by kernel_rfl
  a0 := fun w => by kernel_rfl
  z0 := fun w => by kernel_rfl
  v0 := fun w => by kernel_rfl
  t3 := by kernel_rfl
  a3 := fun w => by kernel_rfl
  z3 := fun w => by kernel_rfl
  v3 := fun w => by kernel_rfl
  t4 := by kernel_rfl
  a4 := fun w => by kernel_rfl
  z4 := fun w => by kernel_rfl
  v4 := fun w => by kernel_rfl
  t22 := by kernel_rfl
  a22 := fun w => by kernel_rfl
  z22 := fun w => by kernel_rfl
  v22 := fun w => by kernel_rfl
  i3 := by kernel_rfl
theorem lay23 : Lays2.n23 Try.prog rho where
  mixed := by kernel_rfl
  f23 := by kernel_rfl
  t0 := by kernel_rfl
  a0 := fun w => by kernel_rfl
  z0 := fun w => by kernel_rfl
  v0 := fun w => by kernel_rfl
  t3 := by kernel_rfl
  a3 := fun w => by kernel_rfl
  z3 := fun w => by kernel_rfl
  v3 := fun w => by kernel_rfl
  t4 := by kernel_rfl
  a4 := fun w => by kernel_rfl
  z4 := fun w => by kernel_rfl
  v4 := fun w => by kernel_rfl
  t22 := by kernel_rfl
  a22 := fun w => by kernel_rfl
  z22 := fun w => by kernel_rfl
  v22 := fun w => by kernel_rfl
  i3 := by kernel_rfl
end Go.Proofs.Ytiohaeckagjebaa

/- slices.Delete and slices.Insert of one number, among things that lie apart. -/
set_option linter.unusedVariables false
set_option linter.unusedSimpArgs false
set_option maxRecDepth 100000
namespace Go.Sh
open Go
section
variable {w : World} {B e n c g : Nat} {X : Option Addr} {cells : List Value}
theorem Row.full (h : Row w B e 1 X n c cells) (hX : X ≠ none) : ∃ g tl, X = some ⟨g, 0, none⟩ ∧ tl.length = c - n ∧ n ≤ c ∧ c ≤ 9223372036854775807 ∧ Row w B e 1 X c c (cells ++ tl) := by
  rcases h.2 with h2 | ⟨g, cap, cur, e1, e2, e3, e4, e5, e6, e7⟩
  · simp only [Value.slice.injEq] at h2
    exact absurd h2.1.1 hX
  · simp only [Value.slice.injEq] at e1
    obtain ⟨rfl, _, rfl⟩ := e1
    have e6' : cur.toList.length = c := by simpa using e6
    refine ⟨g, cur.toList.drop n, rfl, by rw [List.length_drop]; omega, e4, by simpa [maxLen] using e5, ?_⟩
    have ec : cells ++ cur.toList.drop n = cur.toList := by rw [← e7, Nat.mul_one, List.take_append_drop]
    rw [ec]
    exact ⟨by omega, .inr ⟨g, c, cur, rfl, e2, e3, Nat.le_refl _, e5, e6, by rw [Nat.mul_one, List.take_of_length_le (by omega)]⟩⟩
theorem Row.cut (h : Row w B e 1 X n c cells) {m : Nat} (hm : m ≤ n) : Row w B e 1 X m c (cells.take m) := by
  have hl := h.1
  rcases h.2 with ⟨h2, h3⟩ | ⟨g, cap, cur, e1, e2, e3, e4, e5, e6, e7⟩
  · subst h3
    obtain rfl : m = 0 := by omega
    simp only [Value.slice.injEq] at h2
    obtain ⟨rfl, _, rfl⟩ := h2
    exact Row.nil _ _ _ _
  · simp only [Value.slice.injEq] at e1
    obtain ⟨rfl, _, rfl⟩ := e1
    refine ⟨by rw [List.length_take]; omega, .inr ⟨g, c, cur, rfl, e2, e3, by omega, e5, e6, ?_⟩⟩
    rw [← e7, Nat.mul_one, Nat.mul_one, List.take_take, Nat.min_eq_left hm]
theorem Row.setCells : ∀ (vs : List Value) {w : World} {cells : List Value} (h : Row w B e 1 (some ⟨g, 0, none⟩) n c cells) (o : Nat), o + vs.length ≤ n → Row (w.setCells g o vs) B e 1 (some ⟨g, 0, none⟩) n c (cells.take o ++ vs ++ cells.drop (o + vs.length)) ∧ w.grownBy (w.setCells g o vs) (some g) := by
  intro vs
  induction vs with
  | nil =>
    intro w cells h o ho
    simp only [List.append_nil, List.length_nil, Nat.add_zero, List.take_append_drop]
    exact ⟨h, gr_any (Gr.refl w) _⟩
  | cons v vs ih =>
    intro w cells h o ho
    rw [List.length_cons] at ho
    have hl : cells.length = n := by have := h.1; omega
    have hst := World.ownsRow.stored h o v
    obtain ⟨h1, h2⟩ := ih (show Row (w.setCell ⟨g, o, none⟩ v) B e 1 (some ⟨g, 0, none⟩) n c (cells.set o v) from hst.1) (o + 1) (by omega)
    refine ⟨?_, grownBy_trans hst.2 h2⟩
    have e1 : (cells.set o v).take (o + 1) = cells.take o ++ [v] := by
      rw [List.take_succ_eq_append_getElem (by rw [List.length_set]; omega), List.getElem_set_self, List.take_set, List.set_eq_of_length_le (by rw [List.length_take]; omega)]
    have e2 : (cells.set o v).drop (o + 1 + vs.length) = cells.drop (o + (v :: vs).length) := by
      rw [List.drop_set_of_lt (by omega), List.length_cons]
      congr 1
      omega
    rw [e1, e2, List.append_assoc (cells.take o) [v] vs] at h1
    exact h1
theorem gr_ahead (w : World) (q : Nat) : Gr w (Sort.ahead w q) := ⟨rfl, rfl, rfl, Nat.le_refl _, fun _ _ _ => rfl⟩
theorem Row.put {d xs : List Int} (h : Row w B e 1 (some ⟨g, 0, none⟩) n c (ints xs)) (hd : d.length = n) : Row (Sort.putRow (.int .i64) w g 0 d.toArray) B e 1 (some ⟨g, 0, none⟩) n c (ints d) ∧ w.grownBy (Sort.putRow (.int .i64) w g 0 d.toArray) (some g) := by
  rcases h.2 with h2 | ⟨g', cap, cur, e1, e2, e3, e4, e5, e6, e7⟩
  · simp at h2
  · simp only [Value.slice.injEq, Option.some.injEq, Addr.mk.injEq, and_true, true_and] at e1
    obtain ⟨rfl, rfl⟩ := e1
    have e6' : cur.size = c := by simpa using e6
    refine ⟨⟨by rw [ints_length]; omega, .inr ⟨g, c, Sort.putCells (.int .i64) 0 d.toArray cur, rfl, e2, ?_, e4, e5, ?_, ?_⟩⟩, ⟨rfl, rfl, rfl, ?_, fun k hk hn => ?_⟩⟩
    · simp only [Sort.putRow, Sort.mapBlock, Array.getElem?_modify, if_true, e3, Option.map_some, Sort.onCells]
    · simp [Sort.putCells, e6']
    · apply List.ext_getElem?
      intro j
      rw [Nat.mul_one, List.getElem?_take]
      by_cases hj : j < n
      · rw [if_pos hj, Array.getElem?_toList]
        simp only [Sort.putCells, Array.getElem?_mapIdx]
        have hc : j < cur.size := by omega
        rw [Array.getElem?_eq_getElem hc]
        simp [ints, hd, hj]
      · rw [if_neg hj, List.getElem?_eq_none (by rw [ints_length]; omega)]
    · simp [Sort.putRow, Sort.mapBlock]
    · simp only [Sort.putRow, Sort.mapBlock, Array.getElem?_modify]
      rw [if_neg (fun e => hn (by rw [e]))]
theorem Row.holds {xs : List Int} (h : Row w B e 1 (some ⟨g, 0, none⟩) n c (ints xs)) : Sort.Holds (.int .i64) w g 0 xs.toArray := by
  rcases h.2 with h2 | ⟨g', cap, cur, e1, e2, e3, e4, e5, e6, e7⟩
  · simp at h2
  · simp only [Value.slice.injEq, Option.some.injEq, Addr.mk.injEq, and_true, true_and] at e1
    obtain ⟨rfl, rfl⟩ := e1
    intro j hj
    have hj' : j < xs.length := by simpa using hj
    refine ⟨?_, ?_⟩
    · have := h.src.cell j (.int .i64 xs[j]) (by simp [ints, hj'])
      rw [show (ad (some (⟨g, 0, none⟩ : Addr))).add j = ⟨g, 0 + j, none⟩ from by show (⟨g, 0, none⟩ : Addr).add j = _; rw [add_plain]] at this
      rw [this]
      simp [hj']
    · simp only [World.frozen?, e3]
      simp
theorem Row.facts (h : Row w B e 1 (some ⟨g, 0, none⟩) n c cells) : (∀ (j : Nat) (v : Value), cells[j]? = some v → w.cell? ⟨g, 0 + j, none⟩ = some v) ∧ (∀ j : Nat, w.frozen? ⟨g, j, none⟩ = false) ∧ w.shape? g = some (e, c) := by
  refine ⟨fun j v hv => ?_, ?_⟩
  · have := h.src.cell j v hv
    rwa [show (ad (some (⟨g, 0, none⟩ : Addr))).add j = ⟨g, 0 + j, none⟩ from by show (⟨g, 0, none⟩ : Addr).add j = _; rw [add_plain]] at this
  · rcases h.2 with h2 | ⟨g', cap, cur, e1, e2, e3, e4, e5, e6, e7⟩
    · simp at h2
    · simp only [Value.slice.injEq, Option.some.injEq, Addr.mk.injEq, and_true, true_and] at e1
      obtain ⟨rfl, rfl⟩ := e1
      refine ⟨fun j => ?_, ?_⟩
      · simp only [World.frozen?, e3]
        simp
      · simp only [World.shape?, e3]
        rw [show cur.size = c from by simpa using e6]
theorem ins_a {l D : List Value} {i : Nat} {x : Value} (hi : i ≤ l.length) : ((l.take i ++ [x] ++ l.drop (i + 1)).take (i + 1) ++ D ++ (l.take i ++ [x] ++ l.drop (i + 1)).drop (i + 1 + D.length)).take (i + 1 + D.length) = l.take i ++ [x] ++ D := by
  have h1 : (l.take i ++ [x] ++ l.drop (i + 1)).take (i + 1) = l.take i ++ [x] := List.take_left' (by simp; omega)
  rw [h1, List.take_left' (by simp; omega)]
theorem ins_b {l D : List Value} {i : Nat} {x : Value} (hi : i + 1 + D.length ≤ l.length) : ((l.take (i + 1) ++ D ++ l.drop (i + 1 + D.length)).take i ++ [x] ++ (l.take (i + 1) ++ D ++ l.drop (i + 1 + D.length)).drop (i + 1)).take (i + 1 + D.length) = l.take i ++ [x] ++ D := by
  have h1 : (l.take (i + 1) ++ D ++ l.drop (i + 1 + D.length)).take i = l.take i := by
    rw [List.append_assoc, List.take_append_of_le_length (by simp; omega), List.take_take, Nat.min_eq_left (by omega)]
  have h2 : (l.take (i + 1) ++ D ++ l.drop (i + 1 + D.length)).drop (i + 1) = D ++ l.drop (i + 1 + D.length) := by
    rw [List.append_assoc, List.drop_left' (by simp; omega)]
  rw [h1, h2, ← List.append_assoc, List.take_left' (by simp; omega)]
end
end Go.Sh
namespace Go.Proofs.Ytiohaeckagjebaa
open Go Go.Sh Go.RowKit Go.Shelf
theorem has119 : HasBody Try.prog 119 := ⟨_, Try.func119, by kernel_rfl, by kernel_rfl⟩
theorem has120 : HasBody Try.prog 120 := ⟨_, Try.func120, by kernel_rfl, by kernel_rfl⟩
section
variable {k : Value → World → Prop} {w0 w : World} {L : List Thing}
/-- One number is taken out. -/
theorem deleteH (H : Apt w0 w L) (i : Nat) {n c j : Nat} {X : Option Addr} {xs : List Int} {j1 : Int} (hi : L[i]? = some (ows X c xs)) (hn : n = xs.length) (hj : j < xs.length) (hj1 : j1 = ((j + 1 : Nat) : Int))
    (h : ∀ w', Apt w0 w' (L.set i (ows X c (xs.take j ++ xs.drop (j + 1)))) → k (.slice X (xs.take j ++ xs.drop (j + 1)).length c) w') : CallK Try.prog 119 [.slice X n c, .int .i64 j, .int .i64 j1] k w := by
  subst hn hj1
  have hr := H.row i hi
  have hX : X ≠ none := by
    intro e
    have := hr.ptr (by omega)
    rw [e] at this
    cases this
  obtain ⟨g, tl, rfl, _, hnc, hcm, _⟩ := Row.full hr hX
  refine ⟨has119, ?_⟩
  refine Calls.mono (Any.slices_Delete_int lay23 g 0 c j (j + 1) xs w (Row.holds hr) hnc hcm (by omega) (by omega)) ?_
  rintro e w' ⟨rfl, q, rfl⟩
  have hr1 : Row (Sort.ahead w q) w0.heap.size 3 1 (some ⟨g, 0, none⟩) xs.length c (ints xs) := hr
  have hlen : (xs.take j ++ xs.drop (j + 1) ++ List.replicate (j + 1 - j) 0).length = xs.length := by
    simp only [List.length_append, List.length_take, List.length_drop, List.length_replicate]
    omega
  obtain ⟨hr2, hg2⟩ := Row.put hr1 hlen
  have hl2 : (xs.take j ++ xs.drop (j + 1)).length = xs.length - 1 := by
    simp only [List.length_append, List.length_take, List.length_drop]
    omega
  have hr3 := Row.cut hr2 (m := xs.length - 1) (by omega)
  rw [show (ints (xs.take j ++ xs.drop (j + 1) ++ List.replicate (j + 1 - j) 0)).take (xs.length - 1) = ints (xs.take j ++ xs.drop (j + 1)) from by
    rw [← hl2]
    unfold ints
    rw [List.map_append, List.take_left' (by simp)]] at hr3
  have hr4 : Row (Sort.putRow (.int .i64) (Sort.ahead w q) g 0 (xs.take j ++ xs.drop (j + 1) ++ List.replicate (j + 1 - j) 0).toArray) w0.heap.size 3 1 (some ⟨g, 0, none⟩) (xs.take j ++ xs.drop (j + 1)).length c (ints (xs.take j ++ xs.drop (j + 1))) := by
    rw [hl2]
    exact hr3
  have := h _ ((H.step (gr_ahead w q)).set hi (gx_of hg2 fun q hq => hq) (fun q hq => .inl hq) (fun q hq => (Row.ge hr4 hq).2) (rwi_kept hr4))
  rw [hl2] at this
  rw [show xs.length - (j + 1 - j) = xs.length - 1 from by omega]
  exact this
/-- One number is put in. -/
theorem insertH (H : Apt w0 w L) (i j : Nat) (hij : i ≠ j) {n c p d : Nat} {X Y : Option Addr} {xs : List Int} {x : Int} (hi : L[i]? = some (ows X c xs)) (hj : L[j]? = some (ows Y d [x])) (hn : n = xs.length) (hp : p ≤ xs.length) (hb : xs.length ≤ 1000)
    (h : ∀ X' c' w', Apt w0 w' (L.set i (ows X' c' (xs.take p ++ [x] ++ xs.drop p))) → k (.slice X' (xs.take p ++ [x] ++ xs.drop p).length c') w') : CallK Try.prog 120 [.slice X n c, .int .i64 p, .slice Y 1 d] k w := by
  subst hn
  refine ⟨has120, ?_⟩
  have hr := H.row i hi
  have hy := H.row j hj
  have hyn : Y ≠ none := fun e => by
    have := hy.ptr (by simp)
    rw [e] at this
    cases this
  obtain ⟨vb, _, rfl, _, hd1, hdm, _⟩ := Row.full hy hyn
  obtain ⟨hyc, hyf, hys⟩ := Row.facts hy
  have hlen : (xs.take p ++ [x] ++ xs.drop p).length = xs.length + 1 := by
    simp only [List.length_append, List.length_take, List.length_drop, List.length_cons, List.length_nil]
    omega
  have fin : ∀ X' c' w', Row w' w0.heap.size 3 1 X' (xs.length + 1) c' (ints (xs.take p ++ [x] ++ xs.drop p)) → w.grownBy w' (blk X) → Moved w X X' → k (.slice X' (xs.length + 1) c') w' := fun X' c' w' hr' hg hm => by
    have hr4 : Row w' w0.heap.size 3 1 X' (xs.take p ++ [x] ++ xs.drop p).length c' (ints (xs.take p ++ [x] ++ xs.drop p)) := by
      rw [hlen]
      exact hr'
    have := h X' c' w' (H.set hi (gx_of hg fun q hq => hq) (fun q hq => by
      rcases hm with e | e
      · exact .inl (show blk X = some q from e ▸ (show blk X' = some q from hq))
      · exact .inr (e q hq)) (fun q hq => (Row.ge hr4 hq).2) (rwi_kept hr4))
    rwa [hlen] at this
  have hxi : ints (xs.take p ++ [x] ++ xs.drop p) = (ints xs).take p ++ [.int .i64 x] ++ (ints xs).drop p := by simp [ints, List.map_take, List.map_drop]
  have hil : (ints xs).length = xs.length := ints_length xs
  have hsz := H.gr.size
  have h1v : ∀ v ∈ [Value.int .i64 x], v.oneCell' = true := by intro v hv; simp at hv; subst hv; rfl
  have hyc' : ∀ j v, [Value.int .i64 x][j]? = some v → w.cell? ⟨vb, 0 + j, none⟩ = some v := hyc
  -- a new block
  have fresh : ∀ (arr : Array Value) (N : Nat) (wz : World), wz.heap.size = w.heap.size → arr.size = N → N ≤ 9223372036854775807 → Row (wz.alloc (.cells arr 3)) w0.heap.size 3 1 (some ⟨w.heap.size, 0, none⟩) N N arr.toList := fun arr N wz hwz ha hN => by
    have := Row.new (w := wz) (B := w0.heap.size) (e := 3) (sz := 1) (n := N) (cs := arr.toList) (by omega) hN (by simp [ha])
    rwa [hwz] at this
  by_cases hXn : X = none
  case pos =>
    subst hXn
    have hx0 : xs.length = 0 ∧ c = 0 := by
      rcases hr.2 with ⟨e1, e2⟩ | ⟨g, cap, cur, e1, _⟩
      · simp only [Value.slice.injEq] at e1
        exact ⟨e1.2.1, e1.2.2⟩
      · simp at e1
    obtain ⟨h0, rfl⟩ := hx0
    obtain rfl : p = xs.length := by omega
    refine Calls.mono (Any2.slices_Insert_int_end_grow lay21 none xs.length 0 vb 0 1 d (ints xs) [.int .i64 x] w (by omega) (by omega) (by omega) (by omega) hil rfl (fun _ => h0) (fun a e => by cases e) hyc' h1v) ?_
    rintro e w' ⟨rfl, rfl⟩
    have hge := grownCap_ge w (xs.length + 1) 0 3
    have hle := grownCap_le_maxLen w (xs.length + 1) 0 3 (by unfold maxLen; omega)
    have hf := fresh ((ints xs ++ [Value.int .i64 x]).toArray ++ Builtin.zeroCells (Value.int .i64 0).cells (grownCap w (xs.length + 1) 0 3 - (xs.length + 1))) (grownCap w (xs.length + 1) 0 3) w.drew rfl (by
      rw [Array.size_append, size_zeroCells, List.size_toArray, List.length_append, hil]
      show xs.length + 1 + _ * 1 = _
      omega) (by unfold maxLen at hle; omega)
    have hf := Row.cut hf (m := xs.length + 1) hge
    rw [Array.toList_append, List.take_left' (by simp [hil])] at hf
    refine fin _ _ _ ?_ (gr_any (gr_trans (gr_drew w) (gr_alloc _ _)) _) (.inr fun q hq => by cases hq; exact Nat.le_refl _)
    rw [hxi, List.take_of_length_le (by omega), List.drop_of_length_le (by omega), List.append_nil]
    exact hf
  obtain ⟨g, tl, rfl, htl, hnc, hcm, hfull⟩ := Row.full hr hXn
  obtain ⟨hcs, hfz, hsh⟩ := Row.facts hr
  obtain ⟨hcf, _, _⟩ := Row.facts hfull
  have hfl : (ints xs ++ tl).length = c := by rw [List.length_append, hil]; omega
  have hsome : ∀ j, j < c → (w.cell? ⟨g, 0 + j, none⟩).isSome = true := fun j hj => by
    rw [hcf j ((ints xs ++ tl)[j]'(by omega)) (List.getElem?_eq_getElem (by omega))]
    rfl
  by_cases hroom : xs.length + 1 ≤ c
  · have hne : vb ≠ g := fun e => H.two i j _ _ hij hi hj g (show blk (some ⟨g, 0, none⟩) = some g from rfl) (show blk (some ⟨vb, 0, none⟩) = some g from by rw [e]; rfl)
    by_cases hpe : p = xs.length
    · subst hpe
      refine Calls.mono (Any2.slices_Insert_int_end_room lay21 g 0 xs.length c vb 0 1 d [.int .i64 x] w (by omega) hroom hcm rfl (fun j hj => by
        have := hsome (xs.length + j) (by omega)
        rwa [← Nat.add_assoc] at this) (fun j hj => hfz _) hyc' h1v) ?_
      rintro e w' ⟨rfl, rfl⟩
      rw [Nat.zero_add]
      obtain ⟨r1, g1⟩ := Row.setCells [Value.int .i64 x] hfull xs.length (by simpa using hroom)
      have r1 := Row.cut r1 (m := xs.length + 1) hroom
      refine fin _ _ _ ?_ g1 (.inl rfl)
      rw [hxi, List.take_of_length_le (by omega), List.drop_of_length_le (by omega), List.append_nil]
      rwa [List.take_left' (by simp [hil]), List.take_left' hil] at r1
    · have hpl : p < xs.length := by omega
      refine Calls.mono (Any2.slices_Insert_int_shift lay21 g 0 xs.length c p vb 0 1 d (ints xs) [.int .i64 x] w hpl (by omega) hroom hcm hne hil rfl hcs (fun j hj => hsome j (by omega)) (fun j hj => hfz _) hyc' (fun v hv => by
        simp only [ints, List.mem_map] at hv
        obtain ⟨a, _, rfl⟩ := hv
        rfl) h1v 3 3 d c hys hsh (by omega) (hyf _) (hyf _)) ?_
      rintro e w' ⟨rfl, rfl⟩
      rw [Nat.zero_add, Nat.zero_add]
      have hdl : ((ints xs).drop p).length = xs.length - p := by rw [List.length_drop, hil]
      have hfd : Row w.drew w0.heap.size 3 1 (some ⟨g, 0, none⟩) c c (ints xs ++ tl) := hfull
      obtain ⟨r1, g1⟩ := Row.setCells ((ints xs).drop p) hfd (p + 1) (by omega)
      obtain ⟨r2, g2⟩ := Row.setCells [Value.int .i64 x] r1 p (by simp; omega)
      have r2 := Row.cut r2 (m := xs.length + 1) hroom
      refine fin _ _ _ ?_ (grownBy_trans (grownBy_trans (gr_any (gr_drew w) _) g1) g2) (.inl rfl)
      have e1 : xs.length + 1 = p + 1 + ((ints xs).drop p).length := by omega
      have e2 := ins_b (l := ints xs ++ tl) (D := (ints xs).drop p) (i := p) (x := .int .i64 x) (by omega)
      rw [List.take_append_of_le_length (show p ≤ (ints xs).length by omega)] at e2
      rw [← e1] at e2 r2
      rw [hxi, ← e2]
      exact r2
  · by_cases hpe : p = xs.length
    · subst hpe
      refine Calls.mono (Any2.slices_Insert_int_end_grow lay21 (some ⟨g, 0, none⟩) xs.length c vb 0 1 d (ints xs) [.int .i64 x] w (by omega) hnc (by omega) (by omega) hil rfl (fun e => by cases e) (fun a ea j v hv => by
        cases ea
        rw [add_plain]
        exact hcs j v hv) hyc' h1v) ?_
      rintro e w' ⟨rfl, rfl⟩
      have hge := grownCap_ge w (xs.length + 1) c 3
      have hle := grownCap_le_maxLen w (xs.length + 1) c 3 (by unfold maxLen; omega)
      have hf := fresh ((ints xs ++ [Value.int .i64 x]).toArray ++ Builtin.zeroCells (Value.int .i64 0).cells (grownCap w (xs.length + 1) c 3 - (xs.length + 1))) (grownCap w (xs.length + 1) c 3) w.drew rfl (by
        rw [Array.size_append, size_zeroCells, List.size_toArray, List.length_append, hil]
        show xs.length + 1 + _ * 1 = _
        omega) (by unfold maxLen at hle; omega)
      have hf := Row.cut hf (m := xs.length + 1) hge
      rw [Array.toList_append, List.take_left' (by simp [hil])] at hf
      refine fin _ _ _ ?_ (gr_any (gr_trans (gr_drew w) (gr_alloc _ _)) _) (.inr fun q hq => by cases hq; exact Nat.le_refl _)
      rw [hxi, List.take_of_length_le (by omega), List.drop_of_length_le (by omega), List.append_nil]
      exact hf
    · have hpl : p < xs.length := by omega
      refine Calls.mono (Any2.slices_Insert_int_grow lay21 g 0 xs.length c p vb 0 1 d (ints xs) [.int .i64 x] w hpl (by omega) hnc (by omega) (by omega) hil rfl hcs hyc' (fun v hv => by
        simp only [ints, List.mem_map] at hv
        obtain ⟨a, _, rfl⟩ := hv
        rfl) h1v) ?_
      rintro e w' ⟨rfl, rfl⟩
      rw [show rho.t 3 = 3 from rfl]
      have hge := grownCap_ge w (xs.length + 1) c 3
      have hle := grownCap_le_maxLen w (xs.length + 1) c 3 (by unfold maxLen; omega)
      have hdl : ((ints xs).drop p).length = xs.length - p := by rw [List.length_drop, hil]
      have htl : ((ints xs).take p).length = p := by rw [List.length_take, hil]; omega
      have hf := fresh (((ints xs).take p).toArray ++ Builtin.zeroCells (Value.int .i64 0).cells (xs.length + 1 - p) ++ Builtin.zeroCells (Value.int .i64 0).cells (grownCap w (xs.length + 1) c 3 - (xs.length + 1))) (grownCap w (xs.length + 1) c 3) w rfl (by
        rw [Array.size_append, Array.size_append, size_zeroCells, size_zeroCells, List.size_toArray, htl]
        show p + _ * 1 + _ * 1 = _
        omega) (by unfold maxLen at hle; omega)
      have htk : (((ints xs).take p).toArray ++ Builtin.zeroCells (Value.int .i64 0).cells (xs.length + 1 - p) ++ Builtin.zeroCells (Value.int .i64 0).cells (grownCap w (xs.length + 1) c 3 - (xs.length + 1))).toList.take p = (ints xs).take p := by
        rw [Array.toList_append, Array.toList_append, List.append_assoc, List.take_left' htl]
      have hal : (((ints xs).take p).toArray ++ Builtin.zeroCells (Value.int .i64 0).cells (xs.length + 1 - p) ++ Builtin.zeroCells (Value.int .i64 0).cells (grownCap w (xs.length + 1) c 3 - (xs.length + 1))).toList.length = grownCap w (xs.length + 1) c 3 := by
        have := hf.1
        omega
      generalize hN : grownCap w (xs.length + 1) c 3 = NN at *
      generalize harr : (((ints xs).take p).toArray ++ Builtin.zeroCells (Value.int .i64 0).cells (xs.length + 1 - p) ++ Builtin.zeroCells (Value.int .i64 0).cells (NN - (xs.length + 1))) = arr at *
      have ga : Gr w (w.alloc (.cells arr 3)).drew := gr_trans (gr_alloc _ _) (gr_drew _)
      have r0 : Row (w.alloc (.cells arr 3)).drew w0.heap.size 3 1 (some ⟨w.heap.size, 0, none⟩) NN NN arr.toList := hf
      obtain ⟨r1, g1⟩ := Row.setCells [Value.int .i64 x] r0 p (by simp; omega)
      have ga1 := gr_trans (gr_mod ga g1 fun q hq => by cases hq; exact Nat.le_refl _) (gr_drew _)
      have r1' : Row (((w.alloc (.cells arr 3)).drew.setCells w.heap.size p [Value.int .i64 x]).drew) w0.heap.size 3 1 (some ⟨w.heap.size, 0, none⟩) NN NN (arr.toList.take p ++ [Value.int .i64 x] ++ arr.toList.drop (p + 1)) := r1
      obtain ⟨r2, g2⟩ := Row.setCells ((ints xs).drop p) r1' (p + 1) (by omega)
      have ga2 := gr_mod ga1 g2 fun q hq => by cases hq; exact Nat.le_refl _
      have r2 := Row.cut r2 (m := xs.length + 1) hge
      have e1 : xs.length + 1 = p + 1 + ((ints xs).drop p).length := by omega
      have e2 := ins_a (l := arr.toList) (D := (ints xs).drop p) (i := p) (x := .int .i64 x) (by omega)
      rw [← e1] at e2 r2
      refine fin _ _ _ ?_ (gr_any ga2 _) (.inr fun q hq => by cases hq; exact Nat.le_refl _)
      rw [hxi, ← htk, ← e2]
      exact r2
end
end Go.Proofs.Ytiohaeckagjebaa

/- Contract: one change of a word, by the program. -/
set_option linter.unusedVariables false
set_option linter.unusedSimpArgs false
set_option maxRecDepth 100000
namespace Go.Proofs.Ytiohaeckagjebaa
open Go Go.Sh Go.RowKit
theorem putHW {k : Value → World → Prop} {w0 w : World} {L : List Thing} (H : Apt w0 w L) (i : Nat) {j c : Nat} {X : Option Addr} {xs : List Int} {x : Int} (hi : L[i]? = some (ows X c xs)) (hj : j < xs.length)
    (h : ∀ w', Apt w0 w' (L.set i (ows X c (xs.set j x))) → k undef w') : Do Try.prog (sStore 3 (.pointer (some ((ad X).add j))) (.int .i64 x)) k w := by
  refine do_store_row sz3 rfl rfl (H.row i hi) (by omega) fun w' g hs hr => ?_
  have hr' : Row w' w0.heap.size 3 1 X (xs.set j x).length c (ints (xs.set j x)) := by
    rw [List.length_set, show ints (xs.set j x) = (ints xs).set j (.int .i64 x) from by simp [ints]]
    exact hr
  exact h w' (H.set hi (gx_of g fun q hq => hq) (fun q hq => .inl hq) (fun q hq => (Row.ge hr' hq).2) (rwi_kept hr'))
theorem implChangeWord_c {F : Nat → Prop} {w : World} {v : Value} {gm : Gram} {kd pt tok : Int} {X : Option Addr} {n cx : Nat} {ws : List Int} (hv : GramV F w v gm) (hX : Ints w X ws) (hn : n = ws.length) {k : Value → World → Prop}
    (hk : ∀ w' U d, Gr w w' → Own 3 w' w.heap.size U d (changeV gm ws kd pt tok).1 → k (.tuple #[.slice U (changeV gm ws kd pt tok).1.length d, .bool (changeV gm ws kd pt tok).2]) w') :
    CallK Try.prog 64 [v, .slice X n cx, .int .i64 kd, .int .i64 pt, .int .i64 tok] k w := by
  subst hn
  obtain ⟨Y, cy, rfl, hc, hy⟩ := hv
  refine enter64 ?_
  unfold S64
  have H := Apt.nil w
  refine boxH H fun b1 w1 H => ?_
  refine rdi (ldB_agg agg37 sz37 rfl (H.box 0 rfl)) ?_
  have no : ¬ ChgOk gm ws kd pt tok → ∀ w', Gr w w' → k (.tuple #[.slice none 0 0, .bool false]) w' := fun h w' g => by
    rw [changeV, if_neg h] at hk
    exact hk w' none 0 g (Row.nil _ _ _ _)
  refine isGrammar_c (gm := gm) ⟨Y, cy, rfl, hc, hy.gr H.gr⟩ fun w2 g2 => ?_
  have H := H.step g2
  cases hg : goodG gm
  · simp only [Bool.not_false, go_sem, Nat.reduceEqDiff]
    exact no (fun h => by have := h.1; rw [hg] at this; cases this) _ H.gr
  simp only [Bool.not_true, go_sem, Nat.reduceEqDiff]
  have htk := good_toks hg
  refine rdi (ldB3 (H.box 0 rfl) rfl) ?_
  refine isWord_c (hX.gr H.gr) rfl htk.1 htk.2 fun w3 g3 => ?_
  have H := H.step g3
  cases hw : wordB gm.toks ws
  · simp only [Bool.not_false, go_sem, Nat.reduceEqDiff]
    exact no (fun h => by have := h.2.1; rw [hw] at this; cases this) _ H.gr
  simp only [Bool.not_true, go_sem, Nat.reduceEqDiff]
  by_cases h8 : ws.length ≤ 8
  case neg =>
    simp only [show ((8 : Int) < ws.length) from by omega, decide_true, go_sem, Nat.reduceEqDiff]
    exact no (fun h => h8 h.2.2.1) _ H.gr
  simp only [show ¬ ((8 : Int) < ws.length) from by omega, decide_false, go_sem, Nat.reduceEqDiff]
  refine rdi (ldB3 (H.box 0 rfl) rfl) ?_
  simp only [go_sem, Nat.reduceEqDiff]
  rw [i64_of (by omega) (by omega)]
  refine in_c ?_
  rw [inB_dec]
  by_cases htok : 0 ≤ tok ∧ tok ≤ gm.toks - 1
  case neg =>
    rw [decide_eq_false htok]
    simp only [Bool.not_false, go_sem, Nat.reduceEqDiff]
    exact no (fun h => htok h.2.2.2.1) _ H.gr
  rw [decide_eq_true htok]
  simp only [Bool.not_true, go_sem, Nat.reduceEqDiff]
  refine in_c ?_
  rw [inB_dec]
  by_cases hpt : 0 ≤ pt ∧ pt ≤ ws.length
  case neg =>
    rw [decide_eq_false hpt]
    simp only [Bool.not_false, go_sem, Nat.reduceEqDiff]
    exact no (fun h => hpt h.2.2.2.2.1) _ H.gr
  rw [decide_eq_true hpt]
  obtain ⟨p, rfl⟩ : ∃ p : Nat, pt = p := ⟨pt.toNat, by omega⟩
  have hp : p ≤ ws.length := by omega
  simp only [Bool.not_true, go_sem, Nat.reduceEqDiff]
  simp only [List.nil_append] at H
  refine buildH H u22 inf3 [] (by decide) (by decide) (by simp [Instr.fill, madeCells]) rfl fun b2 w4 H => ?_
  simp only [List.nil_append, List.cons_append] at H
  refine apH H 1 (xs := []) rfl (hX.gr H.gr) rfl rfl (by simp; omega) fun X1 d1 w5 H => ?_
  simp only [List.set_cons_zero, List.set_cons_succ, List.nil_append] at H ⊢
  rcases (show kd = 0 ∨ kd = 1 ∨ kd = 2 ∨ (kd ≠ 0 ∧ kd ≠ 1 ∧ kd ≠ 2) by omega) with rfl | rfl | rfl | ⟨k0, k1, k2⟩
  · simp only [show ((0 : Int) = 0) from rfl, show ¬ ((0 : Int) = 1) from by decide, show ¬ ((0 : Int) = 2) from by decide, decide_true, decide_false, go_sem, Nat.reduceEqDiff]
    by_cases ht0 : tok = 0
    case neg =>
      simp only [ht0, decide_false, go_sem, Nat.reduceEqDiff]
      exact no (fun h => by rcases h.2.2.2.2.2 with h | h | h <;> omega) _ H.gr
    by_cases hpl : p < ws.length
    case neg =>
      simp only [ht0, show ¬ ((p : Int) < ws.length) from by omega, decide_true, decide_false, go_sem, Nat.reduceEqDiff]
      exact no (fun h => by rcases h.2.2.2.2.2 with h | h | h <;> omega) _ H.gr
    simp only [ht0, show ((p : Int) < ws.length) from by omega, decide_true, go_sem, Nat.reduceEqDiff]
    rw [i64_of (by omega) (by omega)]
    refine deleteH H 1 rfl rfl hpl (by omega) fun w6 H => ?_
    simp only [List.set_cons_zero, List.set_cons_succ] at H
    rw [changeV, if_pos ⟨hg, hw, h8, htok, hpt, by omega⟩, Int.toNat_natCast] at hk
    have hL : chgL ws 0 p tok = ws.take p ++ ws.drop (p + 1) := by
      unfold chgL
      rw [if_neg (by decide), if_neg (by decide), List.nil_append]
    dsimp only at hk
    rw [hL] at hk
    exact hk _ _ _ H.gr (H.own 1 rfl)
  · simp only [show ((1 : Int) = 1) from rfl, show ¬ ((1 : Int) = 0) from by decide, show ¬ ((1 : Int) = 2) from by decide, decide_true, decide_false, go_sem, Nat.reduceEqDiff]
    by_cases h7 : ws.length < 8
    case neg =>
      simp only [show ¬ ((ws.length : Int) < 8) from by omega, decide_false, go_sem, Nat.reduceEqDiff]
      exact no (fun h => by rcases h.2.2.2.2.2 with h | h | h <;> omega) _ H.gr
    simp only [show ((ws.length : Int) < 8) from by omega, decide_true, go_sem, Nat.reduceEqDiff]
    refine buildH H u22 inf3 [.int .i64 tok] (by decide) (by decide) (by simp [Instr.fill, madeCells, Value.cells, rng1]) rfl fun b3 w6 H => ?_
    simp only [List.nil_append, List.cons_append] at H
    refine insertH H 1 2 (by decide) rfl rfl rfl hp (by omega) fun X2 d2 w7 H => ?_
    simp only [List.set_cons_zero, List.set_cons_succ] at H
    rw [changeV, if_pos ⟨hg, hw, h8, htok, hpt, by omega⟩, Int.toNat_natCast] at hk
    have hL : chgL ws 1 p tok = ws.take p ++ [tok] ++ ws.drop p := by
      unfold chgL
      rw [if_pos (by decide), if_pos rfl, List.append_assoc]
    dsimp only at hk
    rw [hL] at hk
    exact hk _ _ _ H.gr (H.own 1 rfl)
  · simp only [show ((2 : Int) = 2) from rfl, show ¬ ((2 : Int) = 0) from by decide, show ¬ ((2 : Int) = 1) from by decide, decide_true, decide_false, go_sem, Nat.reduceEqDiff]
    by_cases hpl : p < ws.length
    case neg =>
      simp only [show ¬ ((p : Int) < ws.length) from by omega, decide_false, go_sem, Nat.reduceEqDiff]
      exact no (fun h => by rcases h.2.2.2.2.2 with h | h | h <;> omega) _ H.gr
    simp only [show ((p : Int) < ws.length) from by omega, decide_true, go_sem, Nat.reduceEqDiff]
    refine rdi (ixn22 (fun h => (H.ints 1 rfl).ptr h) hpl) ?_
    refine putHW H 1 rfl hpl fun w6 H => ?_
    simp only [List.set_cons_zero, List.set_cons_succ] at H
    rw [changeV, if_pos ⟨hg, hw, h8, htok, hpt, by omega⟩, Int.toNat_natCast] at hk
    have hL : chgL ws 2 p tok = ws.set p tok := by
      unfold chgL
      rw [if_pos (by decide), if_neg (by decide), List.set_eq_take_append_cons_drop, if_pos hpl]
      rfl
    dsimp only at hk
    rw [hL, List.length_set] at hk
    exact hk _ _ _ H.gr (H.own 1 rfl)
  · simp only [k0, k1, k2, decide_false, go_sem, Nat.reduceEqDiff]
    exact no (fun h => by rcases h.2.2.2.2.2 with h | h | h <;> omega) _ H.gr
end Go.Proofs.Ytiohaeckagjebaa

/- Contract: what comes again and again, by the program. -/
set_option linter.unusedVariables false
set_option linter.unusedSimpArgs false
set_option maxRecDepth 100000
namespace Go.Proofs.Ytiohaeckagjebaa
open Go Go.Sh Go.RowKit

theorem implStarOf_c {F : Nat → Prop} {w : World} {v : Value} {gm : Gram} (hv : GramV F w v gm) {k : Value → World → Prop}
    (hk : ∀ v w', Gr w w' → GramR w' w.heap.size v (starV gm) → k (.tuple #[v, .bool (starV gm).isSome]) w') :
    CallK Try.prog 35 [v] k w := by
  obtain ⟨Y, c, rfl, hc, hy⟩ := hv
  refine enter35 ?_
  unfold S35
  refine do_box fun b1 w1 g1 hb1 h1 => ?_
  refine do_alloc_of inf37 fun b3 w2 g2 hb3 h3 => ?_
  have n3 := h1.ne hb3
  have h1 := h1.gr g2
  have q3 := Nat.le_trans g1.size hb3
  rw [ldB_agg agg37 sz37 rfl h1]
  have g := gr_trans g1 g2
  refine isGrammar_c (gm := gm) ⟨Y, c, rfl, hc, hy.gr g⟩ fun w4 g4 => ?_
  have g := gr_trans g g4
  have h1 := h1.gr g4
  have h3 := h3.gr g4
  cases hg : goodG gm
  · simp only [Bool.not_false, go_sem, Nat.reduceEqDiff]
    rw [bd37 (cells := #[.int .i64 0, .int .i64 0, .slice none 0 0]) rfl]
    refine do_store sz37 rfl (by intro u hu; simp [Value.cells] at hu; rcases hu with rfl | rfl | rfl <;> rfl) h3 (by simp [Value.cells]) fun w5 g5 s5 h5 => ?_
    rw [rd_loadVar, ldB_agg agg37 sz37 rfl h5]
    have := hk zeroGram w5 (gr_put g g5 q3)
    simp only [starV, hg] at this
    exact this rfl
  simp only [Bool.not_true, go_sem, Nat.reduceEqDiff]
  refine bs22 [] (by decide) (by simp [Instr.fill, madeCells]) rfl fun b5 w5 hb5 hb5' g5 hbox5 hrow5 => ?_
  refine bs22 [.int .i64 1, .int .i64 0] (by decide) (by simp [Instr.fill, madeCells, Value.cells, rng2]) rfl fun b6 w6 hb6 hb6' g6 hbox6 hrow6 => ?_
  refine bs48 [.slice (some ⟨b5, 0, none⟩) 0 0, .slice (some ⟨b6, 0, none⟩) 2 2] (by decide) (by simp [Instr.fill, madeCells, Value.cells, rng2]) rfl fun b7 w7 hb7 hb7' g7 hbox7 hrow7 => ?_
  have h1 := h1.gr (gr_trans g5 (gr_trans g6 g7))
  rw [ldB_agg agg37 sz37 rfl h1]
  refine bs154 [.int .i64 gm.nons, .int .i64 gm.toks, .slice Y gm.rules.length c] (by decide) (by simp [Instr.fill, madeCells, Value.cells, rng3]) rfl fun b8 w8 hb8 hb8' g8 hbox8 hrow8 => ?_
  have g58 := gr_trans g5 (gr_trans g6 (gr_trans g7 g8))
  have g0 := gr_trans g g58
  have i5 : Ints w8 (some ⟨b5, 0, none⟩) [] := (Own.ints (show Own 3 w5 w4.heap.size (some ⟨b5, 0, none⟩) 0 [] from hrow5 _ (Nat.le_refl _))).gr (gr_trans g6 (gr_trans g7 g8))
  have i6 : Ints w8 (some ⟨b6, 0, none⟩) [1, 0] := (Own.ints (show Own 3 w6 w5.heap.size (some ⟨b6, 0, none⟩) 2 [1, 0] from hrow6 _ (Nat.le_refl _))).gr (gr_trans g7 g8)
  have hrs : Intss w8 (some ⟨b7, 0, none⟩) [[], [1, 0]] := by
    refine ⟨by simp, fun _ => rfl, fun j hj => ?_⟩
    match j, hj with
    | 0, _ => exact ⟨_, 0, (hbox7.gr g8).cell 0, Nat.le_refl _, i5⟩
    | 1, _ => exact ⟨_, 2, (hbox7.gr g8).cell 1, Nat.le_refl _, i6⟩
  have hgs : GramsF (fun _ => True) w8 (some ⟨b8, 0, none⟩) [gm] := by
    refine ⟨by simp, fun _ => rfl, fun _ => trivial, fun j hj => ?_⟩
    obtain rfl : j = 0 := by simpa using hj
    exact ⟨Y, c, hbox8.cell 0, hbox8.cell 1, hbox8.cell 2, hc, (hy.gr g0).mono fun _ _ => trivial⟩
  refine beside_c (rl := [[], [1, 0]]) (gs := [gm]) hrs (by simp) (fun j hj => by
    match j, hj with
    | 0, _ => simp [rgt]
    | 1, _ => simp [rgt]) hgs (by simp) (by simp) (fun j hj => by
    obtain rfl : j = 0 := by simpa using hj
    exact hg) fun v w9 g9 hres => ?_
  have he : madeV (firsts [[], [1, 0]]) (nextN [gm] [gm].length) (gmn [gm] 0).toks [gm] = starV gm := by
    unfold starV
    rw [if_pos hg]
    rfl
  rw [he] at hres ⊢
  have h38 := h3.gr (gr_trans g58 g9)
  obtain ⟨x, y, z, rfl, hx1, hy1, hz1⟩ := hres.three
  simp only [go_sem, Nat.reduceEqDiff]
  refine do_store sz37 rfl (by intro u hu; simp [Value.cells] at hu; rcases hu with rfl | rfl | rfl <;> assumption) h38 (by simp [Value.cells]) fun w10 g10 s10 h10 => ?_
  rw [rd_loadVar, ldB_agg agg37 sz37 rfl h10]
  refine hk _ w10 (gr_put (gr_trans g0 g9) g10 q3) ?_
  have := hres.put h38 (by decide) (by decide) g10
  cases hs : starV gm with
  | none => rw [hs] at this; exact this
  | some m =>
    rw [hs] at this
    exact GramO.mono this g0.size
end Go.Proofs.Ytiohaeckagjebaa

/- Contracts: how long a word must be, by the reference and by the program. -/
set_option linter.unusedVariables false
set_option linter.unusedSimpArgs false
set_option maxRecDepth 100000
namespace Go.Sh
open Go
def mostN (rs : List RuleL) : Nat → Int
  | 0 => 2
  | i + 1 => if mostN rs i < (rul rs i).2.length then (rul rs i).2.length else mostN rs i
def powN (m : Int) : Nat → Int
  | 0 => 1
  | j + 1 => IntKind.i64.wrap (powN m j * m)
def longV (g : Gram) : Value :=
  if goodG g = true then
    if 1000 < IntKind.i64.wrap (powN (mostN g.rules g.rules.length) g.nons.toNat + 1) then .tuple #[.int .i64 0, .bool false]
    else .tuple #[.int .i64 (IntKind.i64.wrap (powN (mostN g.rules g.rules.length) g.nons.toNat + 1)), .bool true]
  else .tuple #[.int .i64 0, .bool false]
end Go.Sh
namespace Go.Proofs.Ytiohaeckagjebaa
open Go Go.Sh Go.RowKit

theorem l1Most_c {x y : Int} {w : World} {k : Value → World → Prop} (hk : k (.int .i64 (if x < y then y else x)) w) : CallK Try.prog 82 [.int .i64 x, .int .i64 y] k w := by
  refine enter82 ?_
  unfold S82
  simp only [go_sem, Nat.reduceEqDiff]
  by_cases h : y < x
  · simp only [h, decide_true, go_sem, Nat.reduceEqDiff]
    rwa [if_neg (by omega)] at hk
  · simp only [h, decide_false, go_sem, Nat.reduceEqDiff]
    by_cases h2 : x < y
    · rwa [if_pos h2] at hk
    · rw [if_neg h2] at hk
      have : x = y := by omega
      rwa [this] at hk
theorem specLongEnough_c {F : Nat → Prop} {w : World} {v : Value} {gm : Gram} (hv : GramV F w v gm) {k : Value → World → Prop} (hk : ∀ w', Gr w w' → k (longV gm) w') :
    CallK Try.prog 30 [v] k w := by
  have hv0 := hv
  obtain ⟨Y, c, rfl, hc, hy⟩ := hv
  refine enter30 ?_
  unfold S30
  refine do_box fun b w1 g1 hb1 hB => ?_
  rw [ldB_agg agg37 sz37 rfl hB]
  refine goodGrammar_c (gm := gm) ⟨Y, c, rfl, hc, hy.gr g1⟩ fun w2 g2 => ?_
  have g := gr_trans g1 g2
  cases hg : goodG gm
  · simp only [Bool.not_false, go_sem, Nat.reduceEqDiff]
    have := hk _ g
    rwa [show longV gm = .tuple #[.int .i64 0, .bool false] from by simp only [longV, hg]; rfl] at this
  simp only [Bool.not_true, go_sem, Nat.reduceEqDiff]
  have hB := hB.gr g2
  rw [ldB35 hB rfl]
  simp only [go_sem, Nat.reduceEqDiff]
  have hle := hy.le
  have hn : 0 ≤ gm.nons ∧ gm.nons ≤ 6 := by
    have h : inB gm.nons 1 6 = true := by
      simp only [goodG, Bool.and_eq_true] at hg
      exact hg.1.1.1
    have : 1 ≤ gm.nons ∧ gm.nons ≤ 6 := by simpa [inB] using h
    omega
  refine ⟨fun f w' => ∃ i : Nat, i ≤ gm.rules.length ∧ f 15 = .int .i64 i ∧ f 4 = .int .i64 (mostN gm.rules i) ∧ Gr w2 w', fun f _ => gm.rules.length - (intOf (f 15)).toNat, ⟨0, Nat.zero_le _, rfl, rfl, Gr.refl w2⟩, ?_⟩
  rintro f w3 hag ⟨i, hi, hsi, h4, g3⟩
  have f1 : f 1 = .pointer (some ⟨b, 0, none⟩) := hag 1 (by decide)
  have fs : f 13 = .slice Y gm.rules.length c := hag 13 (by decide)
  have fl : f 14 = .int .i64 gm.rules.length := hag 14 (by decide)
  simp only [f1, fs, fl, hsi, h4, go_sem, Nat.reduceEqDiff]
  have g' := gr_trans g g3
  by_cases hlt : i < gm.rules.length
  · have hlt' : (i : Int) < gm.rules.length := by omega
    simp only [hlt', decide_true, go_sem, Nat.reduceEqDiff]
    rw [ixn35 hy.ptr hlt]
    refine ld_rule agg77 sz77 (hy.gr g') hlt fun v hv => ?_
    obtain ⟨Z, d, rfl, hd, hz⟩ := hv
    refine do_alloc_of inf77 fun b3 w4 g4 hb3 h3 => ?_
    refine do_store sz77 rfl (by intro u hu; simp [Value.cells] at hu; rcases hu with rfl | rfl <;> rfl) h3 (by simp [Value.cells]) fun w5 g5 s5 h5 => ?_
    simp only [go_sem, Nat.reduceEqDiff]
    rw [ldB22 h5 rfl]
    simp only [go_sem, Nat.reduceEqDiff]
    refine l1Most_c ?_
    rw [i64_of (by omega) (by omega)]
    refine ⟨⟨i + 1, hlt, rfl, rfl, gr_put (gr_trans g3 g4) g5 (Nat.le_trans g3.size hb3)⟩, ?_⟩
    simp only [intOf]
    omega
  simp only [show ¬ (i : Int) < gm.rules.length from by omega, decide_false, go_sem, Nat.reduceEqDiff]
  obtain rfl : i = gm.rules.length := by omega
  obtain ⟨n, hnn⟩ := Int.eq_ofNat_of_zero_le hn.1
  refine ⟨fun f w' => ∃ j : Nat, j ≤ n ∧ f 8 = .int .i64 j ∧ f 7 = .int .i64 (powN (mostN gm.rules gm.rules.length) j) ∧ Gr w3 w', fun f _ => n - (intOf (f 8)).toNat, ⟨0, Nat.zero_le _, rfl, rfl, Gr.refl w3⟩, ?_⟩
  rintro f2 w4 hag2 ⟨j, hj, h8, h7, g4⟩
  have e1 : f2 1 = .pointer (some ⟨b, 0, none⟩) := (hag2 1 (by decide)).trans f1
  have e4 : f2 4 = .int .i64 (mostN gm.rules gm.rules.length) := (hag2 4 (by decide)).trans h4
  simp only [e1, e4, h7, h8, go_sem, Nat.reduceEqDiff]
  rw [ldB3 (hB.gr (gr_trans g3 g4)) rfl]
  simp only [go_sem, Nat.reduceEqDiff]
  rw [hnn]
  by_cases hlt : j < n
  · have hlt' : (j : Int) < ((n : Nat) : Int) := by omega
    simp only [hlt', decide_true, go_sem, Nat.reduceEqDiff]
    rw [i64_of (n := (j : Int) + 1) (by omega) (by omega)]
    refine ⟨⟨j + 1, hlt, rfl, rfl, g4⟩, ?_⟩
    simp only [intOf]
    omega
  simp only [show ¬ (j : Int) < ((n : Nat) : Int) from by omega, decide_false, go_sem, Nat.reduceEqDiff]
  obtain rfl : j = n := by omega
  have := hk _ (gr_trans g' g4)
  by_cases h9 : 1000 < IntKind.i64.wrap (powN (mostN gm.rules gm.rules.length) j + 1)
  · simp only [h9, decide_true, go_sem, Nat.reduceEqDiff]
    rwa [show longV gm = .tuple #[.int .i64 0, .bool false] from by simp only [longV, hg, hnn, Int.toNat_natCast, h9, if_true]] at this
  · simp only [h9, decide_false, go_sem, Nat.reduceEqDiff]
    rwa [show longV gm = .tuple #[.int .i64 (IntKind.i64.wrap (powN (mostN gm.rules gm.rules.length) j + 1)), .bool true] from by simp only [longV, hg, hnn, Int.toNat_natCast, h9, if_true, if_false]] at this
theorem implLongEnough_c {F : Nat → Prop} {w : World} {v : Value} {gm : Gram} (hv : GramV F w v gm) {k : Value → World → Prop} (hk : ∀ w', Gr w w' → k (longV gm) w') :
    CallK Try.prog 32 [v] k w := by
  have hv0 := hv
  obtain ⟨Y, c, rfl, hc, hy⟩ := hv
  refine enter32 ?_
  unfold S32
  refine do_box fun b w1 g1 hb1 hB => ?_
  rw [ldB_agg agg37 sz37 rfl hB]
  refine isGrammar_c (gm := gm) ⟨Y, c, rfl, hc, hy.gr g1⟩ fun w2 g2 => ?_
  have g := gr_trans g1 g2
  cases hg : goodG gm
  · simp only [Bool.not_false, go_sem, Nat.reduceEqDiff]
    have := hk _ g
    rwa [show longV gm = .tuple #[.int .i64 0, .bool false] from by simp only [longV, hg]; rfl] at this
  simp only [Bool.not_true, go_sem, Nat.reduceEqDiff]
  have hB := hB.gr g2
  rw [ldB35 hB rfl]
  simp only [go_sem, Nat.reduceEqDiff]
  have hle := hy.le
  have hn : 0 ≤ gm.nons ∧ gm.nons ≤ 6 := by
    have h : inB gm.nons 1 6 = true := by
      simp only [goodG, Bool.and_eq_true] at hg
      exact hg.1.1.1
    have : 1 ≤ gm.nons ∧ gm.nons ≤ 6 := by simpa [inB] using h
    omega
  refine ⟨fun f w' => ∃ i : Nat, i ≤ gm.rules.length ∧ f 14 = .int .i64 i ∧ f 4 = .int .i64 (mostN gm.rules i) ∧ Gr w2 w', fun f _ => gm.rules.length - (intOf (f 14)).toNat, ⟨0, Nat.zero_le _, rfl, rfl, Gr.refl w2⟩, ?_⟩
  rintro f w3 hag ⟨i, hi, hsi, h4, g3⟩
  have f1 : f 1 = .pointer (some ⟨b, 0, none⟩) := hag 1 (by decide)
  have fs : f 12 = .slice Y gm.rules.length c := hag 12 (by decide)
  have fl : f 13 = .int .i64 gm.rules.length := hag 13 (by decide)
  simp only [f1, fs, fl, hsi, h4, go_sem, Nat.reduceEqDiff]
  have g' := gr_trans g g3
  by_cases hlt : i < gm.rules.length
  · have hlt' : (i : Int) < gm.rules.length := by omega
    simp only [hlt', decide_true, go_sem, Nat.reduceEqDiff]
    rw [ixn35 hy.ptr hlt]
    refine ld_rule agg77 sz77 (hy.gr g') hlt fun v hv => ?_
    obtain ⟨Z, d, rfl, hd, hz⟩ := hv
    refine do_alloc_of inf77 fun b3 w4 g4 hb3 h3 => ?_
    refine do_store sz77 rfl (by intro u hu; simp [Value.cells] at hu; rcases hu with rfl | rfl <;> rfl) h3 (by simp [Value.cells]) fun w5 g5 s5 h5 => ?_
    simp only [go_sem, Nat.reduceEqDiff]
    rw [ldB22 h5 rfl]
    simp only [go_sem, Nat.reduceEqDiff]
    rw [max_int]
    rw [i64_of (by omega) (by omega)]
    refine ⟨⟨i + 1, hlt, rfl, rfl, gr_put (gr_trans g3 g4) g5 (Nat.le_trans g3.size hb3)⟩, ?_⟩
    simp only [intOf]
    omega
  simp only [show ¬ (i : Int) < gm.rules.length from by omega, decide_false, go_sem, Nat.reduceEqDiff]
  obtain rfl : i = gm.rules.length := by omega
  rw [ldB3 (hB.gr g3) rfl]
  obtain ⟨n, hnn⟩ := Int.eq_ofNat_of_zero_le hn.1
  rw [hnn]
  refine ⟨fun f w' => ∃ j : Nat, j ≤ n ∧ f 26 = .int .i64 j ∧ f 7 = .int .i64 (powN (mostN gm.rules gm.rules.length) j) ∧ Gr w3 w', fun f _ => n - (intOf (f 26)).toNat, ⟨0, Nat.zero_le _, rfl, rfl, Gr.refl w3⟩, ?_⟩
  rintro f2 w4 hag2 ⟨j, hj, h8, h7, g4⟩
  have e4 : f2 4 = .int .i64 (mostN gm.rules gm.rules.length) := (hag2 4 (by decide)).trans h4
  have e25 : f2 25 = .int .i64 ((n : Nat) : Int) := hag2 25 (by decide)
  simp only [e4, e25, h7, h8, go_sem, Nat.reduceEqDiff]
  by_cases hlt : j < n
  · have hlt' : (j : Int) < ((n : Nat) : Int) := by omega
    simp only [hlt', decide_true, go_sem, Nat.reduceEqDiff]
    rw [i64_of (n := (j : Int) + 1) (by omega) (by omega)]
    refine ⟨⟨j + 1, hlt, rfl, rfl, g4⟩, ?_⟩
    simp only [intOf]
    omega
  simp only [show ¬ (j : Int) < ((n : Nat) : Int) from by omega, decide_false, go_sem, Nat.reduceEqDiff]
  obtain rfl : j = n := by omega
  have := hk _ (gr_trans g' g4)
  by_cases h9 : 1000 < IntKind.i64.wrap (powN (mostN gm.rules gm.rules.length) j + 1)
  · simp only [h9, decide_true, go_sem, Nat.reduceEqDiff]
    rwa [show longV gm = .tuple #[.int .i64 0, .bool false] from by simp only [longV, hg, hnn, Int.toNat_natCast, h9, if_true]] at this
  · simp only [h9, decide_false, go_sem, Nat.reduceEqDiff]
    rwa [show longV gm = .tuple #[.int .i64 (IntKind.i64.wrap (powN (mostN gm.rules gm.rules.length) j + 1)), .bool true] from by simp only [longV, hg, hnn, Int.toNat_natCast, h9, if_true, if_false]] at this
end Go.Proofs.Ytiohaeckagjebaa

/- The law of LongEnough, over its contracts. -/
set_option linter.unusedVariables false
set_option linter.unusedSimpArgs false
set_option maxRecDepth 100000
namespace Go.Sh
open Go
theorem longV_two (g : Gram) : ∃ n b, longV g = .tuple #[.int .i64 n, .bool b] := by
  unfold longV
  split
  · split
    · exact ⟨_, _, rfl⟩
    · exact ⟨_, _, rfl⟩
  · exact ⟨_, _, rfl⟩
theorem left_neg {n : Int} {s : Nat} (h : left n s < 0) : left n s = -1 := by
  unfold left at h ⊢
  split at h
  · rw [if_pos (by assumption)]
  · omega
theorem left_ok {n : Int} {s : Nat} (h : ¬ left n s < 0) : (s : Int) ≤ n := by
  unfold left at h
  split at h <;> omega
end Go.Sh
namespace Go.Proofs.Ytiohaeckagjebaa
open Go Go.Sh Go.RowKit

theorem law_LongEnough {w : World} {v : Value} {gm : Gram} (hv : GramV (fun b => b < w.heap.size) w v gm) {k : Value → World → Prop} (hk : ∀ w', Gr w w' → k (.bool true) w') :
    CallK Try.prog 4 [v] k w := by
  obtain ⟨Y, c, rfl, hc, hy⟩ := hv
  refine enter4 ?_
  unfold S4
  refine do_box fun b w1 g1 hb1 hB => ?_
  rw [ldB_agg agg31 sz31 rfl hB]
  refine szGrammar_c (gm := gm) ⟨Y, c, rfl, hc, hy.gr g1⟩ (by decide) (by decide) fun w2 g2 => ?_
  have g := gr_trans g1 g2
  have hB := hB.gr g2
  simp only [go_sem, Nat.reduceEqDiff]
  by_cases hs : left 1048576 (sizeR gm.rules) < 0
  · simp only [hs, decide_true, go_sem, Nat.reduceEqDiff]
    exact hk _ g
  have hsz := left_ok hs
  simp only [hs, decide_false, go_sem, Nat.reduceEqDiff]
  rw [ldB_agg agg31 sz31 rfl hB]
  refine toGrammar_c (gm := gm) ⟨Y, c, rfl, hc, hy.gr g⟩ (by omega) fun v1 w3 g3 o1 => ?_
  have g := gr_trans g g3
  have hB := hB.gr g3
  refine specLongEnough_c o1.read fun w4 g4 => ?_
  have g := gr_trans g g4
  have hB := hB.gr g4
  obtain ⟨n, ok, e⟩ := longV_two gm
  rw [e]
  simp only [go_sem, Nat.reduceEqDiff]
  rw [ldB_agg agg31 sz31 rfl hB]
  refine toGrammar_c (gm := gm) ⟨Y, c, rfl, hc, hy.gr g⟩ (by omega) fun v2 w5 g5 o2 => ?_
  have g := gr_trans g g5
  have hB := hB.gr g5
  refine do_alloc_of inf37 fun b2 w6 g6 hb2 h2 => ?_
  have n2 := hB.ne hb2
  have hB := hB.gr g6
  have q2 := Nat.le_trans g.size hb2
  have g := gr_trans g g6
  obtain ⟨X2, c2, ps2, rfl, o2⟩ := o2
  refine do_store sz37 rfl (by intro u hu; simp [Value.cells] at hu; rcases hu with rfl | rfl | rfl <;> rfl) h2 (by simp [Value.cells]) fun w7 g7 s7 h2 => ?_
  have hB := hB.put g7 n2
  have o2 := o2.gr (gr_put g6 g7 hb2)
  have g := gr_put g g7 q2
  rw [ldB_agg agg37 sz37 rfl h2]
  have oc : ∀ w', Gr w7 w' → GramV (fun _ => True) w' (.agg #[.int .i64 gm.nons, .int .i64 gm.toks, .slice X2 gm.rules.length c2]) gm := fun w' g' => by
    obtain ⟨⟨cells, hr, hh⟩, hh2, hh3⟩ := o2
    exact ⟨X2, c2, rfl, (Row.cap hr).1, ((OwnR.read ⟨⟨cells, hr, hh⟩, hh2, hh3⟩).gr g').mono fun _ _ => trivial⟩
  refine implLongEnough_c (oc w7 (Gr.refl w7)) fun w8 g8 => ?_
  have g := gr_trans g g8
  have hB := hB.gr g8
  have h2 := h2.gr g8
  rw [e]
  simp only [go_sem, decide_true, Bool.not_true]
  rw [bin_neq_bool Try.underlying4]
  simp only [beq_self_eq_true, Bool.not_true, go_sem, Nat.reduceEqDiff]
  refine ⟨fun w' => Gr w8.drew w', Gr.refl _, ?_⟩
  have gd := gr_drew w8
  rw [rd_loadAgg agg37 sz37 (cs := [.int .i64 gm.nons, .int .i64 gm.toks, .slice X2 gm.rules.length c2]) rfl (fun w' hw' j hj => by
    rw [add_plain, Nat.zero_add, ((h2.gr gd).gr hw').cell]
    exact List.getElem?_eq_getElem hj)]
  rw [rd_loadAgg agg31 sz31 (cs := [.int .i64 gm.nons, .int .i64 gm.toks, .slice Y gm.rules.length c]) rfl (fun w' hw' j hj => by
    rw [add_plain, Nat.zero_add, ((hB.gr gd).gr hw').cell]
    exact List.getElem?_eq_getElem hj)]
  have gk := gr_trans g gd
  refine toGrammar_c (gm := gm) ⟨Y, c, rfl, hc, hy.gr gk⟩ (by omega) fun v3 w9 g9 o3 => ?_
  refine ⟨g9, ?_⟩
  refine eqGrammar_c (oc w9 (gr_trans g8 (gr_trans gd g9))) o3.read fun w10 g10 => ?_
  simp only [decide_true, Bool.not_true, go_sem, Nat.reduceEqDiff]
  exact hk _ (gr_trans gk (gr_trans g9 g10))
end Go.Proofs.Ytiohaeckagjebaa

/- The law of StarOf, over its contracts. -/
set_option linter.unusedVariables false
set_option linter.unusedSimpArgs false
set_option maxRecDepth 100000
namespace Go.Sh
open Go
def resG : Option Gram → Gram
  | some m => m
  | none => ⟨0, 0, []⟩
theorem GramR.own {w : World} {B : Nat} {v : Value} {o : Option Gram} (h : GramR w B v o) : GramO w B v (resG o) := by
  cases o with
  | some m => exact h
  | none => exact ⟨none, 0, fun _ => (none, 0), h, ⟨[], Row.nil _ _ _ _, fun j hj => by simp [resG] at hj⟩, fun j hj => by simp [resG] at hj, fun i j hi => by simp [resG] at hi⟩
theorem lens_small {rs : List RuleL} (h : ∀ i, i < rs.length → (rul rs i).2.length ≤ 4) : ∀ i, i ≤ rs.length → lens (rs.take i) ≤ 4 * i
  | 0, _ => by simp [lens]
  | i + 1, hi => by
    have := lens_small h i (by omega)
    have := h i (by omega)
    rw [lens_take (by omega)]
    omega
theorem good_size {g : Gram} (hg : goodG g = true) : sizeR g.rules ≤ 80 := by
  have h := lens_small (good_rule hg) g.rules.length (Nat.le_refl _)
  rw [List.take_length] at h
  have := good_len hg
  unfold sizeR
  omega
theorem madeV_size {first : List RuleL} {nons toks : Int} {gs : List Gram} : sizeR (resG (madeV first nons toks gs)).rules ≤ 80 := by
  unfold madeV
  split
  · exact good_size (by assumption)
  · simp [resG, sizeR, lens]
theorem starV_size {g : Gram} : sizeR (resG (starV g)).rules ≤ 80 := by
  unfold starV
  split
  · exact madeV_size
  · simp [resG, sizeR, lens]
end Go.Sh
namespace Go.Proofs.Ytiohaeckagjebaa
open Go Go.Sh Go.RowKit

theorem law_StarOf {w : World} {v : Value} {gm : Gram} (hv : GramV (fun b => b < w.heap.size) w v gm) {k : Value → World → Prop} (hk : ∀ w', Gr w w' → k (.bool true) w') :
    CallK Try.prog 5 [v] k w := by
  obtain ⟨Y, c, rfl, hc, hy⟩ := hv
  refine enter5 ?_
  unfold S5
  refine do_box fun b w1 g1 hb1 hB => ?_
  rw [ldB_agg agg31 sz31 rfl hB]
  refine szGrammar_c (gm := gm) ⟨Y, c, rfl, hc, hy.gr g1⟩ (by decide) (by decide) fun w2 g2 => ?_
  have g := gr_trans g1 g2
  have hB := hB.gr g2
  simp only [go_sem, Nat.reduceEqDiff]
  by_cases hs : left 1048576 (sizeR gm.rules) < 0
  · simp only [hs, decide_true, go_sem, Nat.reduceEqDiff]
    exact hk _ g
  have hsz := left_ok hs
  simp only [hs, decide_false, go_sem, Nat.reduceEqDiff]
  rw [ldB_agg agg31 sz31 rfl hB]
  refine toGrammar_c (gm := gm) ⟨Y, c, rfl, hc, hy.gr g⟩ (by omega) fun v1 w3 g3 o1 => ?_
  have g := gr_trans g g3
  have hB := hB.gr g3
  refine specStarOf_c o1.read (fun q hq => hq.2) fun vS w4 g4 rS => ?_
  have hB := hB.gr g4
  have gw3 := g
  have g := gr_trans g g4
  have oS := rS.own
  obtain ⟨XS, cS, psS, rfl, oS⟩ := oS
  simp only [go_sem, Nat.reduceEqDiff]
  refine do_alloc_of inf37 fun b14 w5 g5 hb5 h14 => ?_
  have n14 := hB.ne hb5
  refine do_store sz37 rfl (by intro u hu; simp [Value.cells] at hu; rcases hu with rfl | rfl | rfl <;> rfl) h14 (by simp [Value.cells]) fun w6 g6 s6 h14 => ?_
  have g46 := gr_put g5 g6 hb5
  have hB := hB.gr g46
  have oS := oS.gr g46
  have g := gr_trans g g46
  rw [ldB_agg agg31 sz31 rfl hB]
  refine toGrammar_c (gm := gm) ⟨Y, c, rfl, hc, hy.gr g⟩ (by omega) fun vC w7 g7 oC => ?_
  obtain ⟨XC, cC, psC, rfl, oC⟩ := oC
  have hB := hB.gr g7
  have h14 := h14.gr g7
  have oS7 := oS.gr g7
  have gw6 := g
  have g := gr_trans g g7
  refine do_alloc_of inf37 fun b20 w8 g8 hb8 h20 => ?_
  refine do_store sz37 rfl (by intro u hu; simp [Value.cells] at hu; rcases hu with rfl | rfl | rfl <;> rfl) h20 (by simp [Value.cells]) fun w9 g9 s9 h20 => ?_
  have g79 := gr_put g8 g9 hb8
  have hB := hB.gr g79
  have h14 := h14.gr g79
  have g := gr_trans g g79
  have oC9 := oC.gr g79
  rw [ldB_agg agg37 sz37 rfl h20]
  have vC9 : ∀ w', Gr w7 w' → GramV (fun _ => True) w' (.agg #[.int .i64 gm.nons, .int .i64 gm.toks, .slice XC gm.rules.length cC]) gm := fun w' g' => by
    obtain ⟨cells, hr, _⟩ := oC.cells
    exact ⟨XC, cC, rfl, (Row.cap hr).1, (oC.read.gr g').mono fun _ _ => trivial⟩
  refine implStarOf_c (vC9 w9 g79) fun vI w10 g10 rI => ?_
  have oI := rI.own
  obtain ⟨XI, cI, psI, rfl, oI⟩ := oI
  simp only [go_sem, Nat.reduceEqDiff]
  refine do_alloc_of inf37 fun b28 w11 g11 hb11 h28 => ?_
  refine do_store sz37 rfl (by intro u hu; simp [Value.cells] at hu; rcases hu with rfl | rfl | rfl <;> rfl) h28 (by simp [Value.cells]) fun w12 g12 s12 h28 => ?_
  have g1012 := gr_put g11 g12 hb11
  have g912 := gr_trans g10 g1012
  have hB := hB.gr g912
  have h14 := h14.gr g912
  have h20 := h20.gr g912
  have oI := oI.gr g1012
  have g := gr_trans g g912
  rw [ldB_agg agg37 sz37 rfl h28, ldB_agg agg37 sz37 rfl h14]
  have vS : ∀ w', Gr w6 w' → GramV (fun q => q < w6.heap.size) w' (.agg #[.int .i64 (resG (starV gm)).nons, .int .i64 (resG (starV gm)).toks, .slice XS (resG (starV gm)).rules.length cS]) (resG (starV gm)) := fun w' g' => by
    obtain ⟨cells, hr, _⟩ := oS.cells
    exact ⟨XS, cS, rfl, (Row.cap hr).1, (oS.read.gr g').mono fun _ h => h.2⟩
  have vI : ∀ w', Gr w12 w' → GramV (fun q => w9.heap.size ≤ q) w' (.agg #[.int .i64 (resG (starV gm)).nons, .int .i64 (resG (starV gm)).toks, .slice XI (resG (starV gm)).rules.length cI]) (resG (starV gm)) := fun w' g' => by
    obtain ⟨cells, hr, _⟩ := oI.cells
    exact ⟨XI, cI, rfl, (Row.cap hr).1, (oI.read.gr g').mono fun _ h => h.1⟩
  have g612 : Gr w6 w12 := gr_trans (gr_trans g7 g79) g912
  refine eqGrammar_c (vI w12 (Gr.refl _)) (vS w12 g612) fun w13 g13 => ?_
  simp only [decide_true, Bool.not_true, go_sem, Nat.reduceEqDiff]
  rw [bin_neq_bool Try.underlying4]
  simp only [beq_self_eq_true, Bool.not_true, go_sem, Nat.reduceEqDiff]
  have gd := gr_drew w13
  have h2013 := h20.gr g13
  have hB13 := hB.gr g13
  refine ⟨fun w' => Gr w13.drew w', Gr.refl _, ?_⟩
  rw [rd_loadAgg agg37 sz37 (cs := [.int .i64 gm.nons, .int .i64 gm.toks, .slice XC gm.rules.length cC]) rfl (fun w' hw' j hj => by
    rw [add_plain, Nat.zero_add, ((h2013.gr gd).gr hw').cell]
    exact List.getElem?_eq_getElem hj)]
  rw [rd_loadAgg agg31 sz31 (cs := [.int .i64 gm.nons, .int .i64 gm.toks, .slice Y gm.rules.length c]) rfl (fun w' hw' j hj => by
    rw [add_plain, Nat.zero_add, ((hB13.gr gd).gr hw').cell]
    exact List.getElem?_eq_getElem hj)]
  have g13d := gr_trans g13 gd
  refine toGrammar_c (gm := gm) ⟨Y, c, rfl, hc, hy.gr (gr_trans g g13d)⟩ (by omega) fun v3 w14 g14 o3 => ?_
  refine ⟨g14, ?_⟩
  have g1214 := gr_trans g13d g14
  refine eqGrammar_c (vC9 w14 (gr_trans g79 (gr_trans g912 g1214))) o3.read fun w15 g15 => ?_
  have g1215 := gr_trans g1214 g15
  simp only [decide_true, Bool.not_true, go_sem, Nat.reduceEqDiff]
  have hB := hB.gr g1215
  have h14 := h14.gr g1215
  have h20 := h20.gr g1215
  have h28 := h28.gr g1215
  have g := gr_trans g g1215
  rw [ldB_agg agg37 sz37 rfl h20]
  have s67 := g7.size
  have s79 := g79.size
  have sw6 := gw6.size
  have oC15 := oC.gr (gr_trans g79 (gr_trans g912 g1215))
  refine markGrammar_c (gm := gm) oC15 rfl (by decide) (by omega) fun w16 g16 oC16 => ?_
  have hB16 := hB.gx g16 (oC15.foot_box hB (by decide) (by decide))
  have h1416 := h14.gx g16 (oC15.foot_box h14 (by decide) (by decide))
  have h2816 := h28.gx g16 (oC15.foot_box h28 (by decide) (by decide))
  have vS16 := (vS w15 (gr_trans g612 g1215)).gx g16 fun q hq hf => by have := (oC.foot hf).1; omega
  have vI16 := (vI w15 g1215).gx g16 fun q hq hf => by have := (oC.foot hf).2; omega
  have gw16 : Gr w w16 := Gx.gr_after g g16 fun q hf => by have := (oC.foot hf).1; omega
  simp only [show ¬ ((1 : Int) + (sizeR gm.rules : Nat) < 0) from by omega, decide_false, go_sem, Nat.reduceEqDiff]
  rw [ldB_agg agg37 sz37 rfl h2816]
  simp only [go_sem, Nat.reduceEqDiff]
  rw [ldB_agg agg37 sz37 rfl h1416]
  simp only [go_sem, Nat.reduceEqDiff]
  refine eqGrammar_c vI16 vS16 fun w17 g17 => ?_
  simp only [decide_true, Bool.not_true, go_sem, Nat.reduceEqDiff]
  rw [bin_neq_bool Try.underlying4]
  simp only [beq_self_eq_true, Bool.not_true, go_sem, Nat.reduceEqDiff]
  rw [ldB_agg agg37 sz37 rfl (h2816.gr g17)]
  have hIs := @starV_size gm
  have oI17 := ((oI.gr g1215).gx g16 fun q h1 h2 hf => by have := (oC.foot hf).2; omega).gr g17
  refine markGrammar_c (gm := resG (starV gm)) oI17 rfl (by decide) (by omega) fun w18 g18 oI18 => ?_
  have hB18 := (hB16.gr g17).gx g18 (oI17.foot_box (hB16.gr g17) (by decide) (by decide))
  have h1418 := (h1416.gr g17).gx g18 (oI17.foot_box (h1416.gr g17) (by decide) (by decide))
  have h2818 := (h2816.gr g17).gx g18 (oI17.foot_box (h2816.gr g17) (by decide) (by decide))
  have vS18 := (vS16.gr g17).gx g18 fun q hq hf => by have := (oI.foot hf).1; omega
  have gw18 : Gr w w18 := Gx.gr_after (gr_trans gw16 g17) g18 fun q hf => by have := (oI.foot hf).1; omega
  have hml := markR_length 1 (resG (starV gm)).rules
  have vM : ∀ w', Gr w18 w' → GramV (fun _ => True) w' (.agg #[.int .i64 (resG (starV gm)).nons, .int .i64 (resG (starV gm)).toks, .slice XI (resG (starV gm)).rules.length cI]) ⟨(resG (starV gm)).nons, (resG (starV gm)).toks, markR 1 (resG (starV gm)).rules⟩ := fun w' g' => by
    obtain ⟨cells, hr, _⟩ := oI18.cells
    exact ⟨XI, cI, by rw [hml], (Row.cap hr).1, (oI18.read.gr g').mono fun _ _ => trivial⟩
  rw [ldB_agg agg37 sz37 rfl h2818]
  refine heldGrammar_c (gm := resG (starV gm)) (vM w18 (Gr.refl _)) (by decide) (by omega) fun w19 g19 => ?_
  simp only [show ¬ ((1 : Int) + (sizeR (resG (starV gm)).rules : Nat) < 0) from by omega, decide_false, decide_true, Bool.not_true, go_sem, Nat.reduceEqDiff]
  rw [ldB_agg agg31 sz31 rfl (hB18.gr g19)]
  have gw19 := gr_trans gw18 g19
  refine toGrammar_c (gm := gm) ⟨Y, c, rfl, hc, hy.gr gw19⟩ (by omega) fun v4 w20 g20 o20 => ?_
  refine implStarOf_c o20.read fun vJ w21 g21 rJ => ?_
  obtain ⟨XJ, cJ, psJ, rfl, oJ⟩ := rJ.own
  simp only [go_sem, Nat.reduceEqDiff]
  refine do_alloc_of inf37 fun b87 w22 g22 hb22 h87 => ?_
  refine do_store sz37 rfl (by intro u hu; simp [Value.cells] at hu; rcases hu with rfl | rfl | rfl <;> rfl) h87 (by simp [Value.cells]) fun w23 g23 s23 h87 => ?_
  have g2123 := gr_put g22 g23 hb22
  have g1823 := gr_trans g19 (gr_trans g20 (gr_trans g21 g2123))
  rw [ldB_agg agg37 sz37 rfl h87, ldB_agg agg37 sz37 rfl (h1418.gr g1823)]
  have vJ : GramV (fun _ => True) w23 (.agg #[.int .i64 (resG (starV gm)).nons, .int .i64 (resG (starV gm)).toks, .slice XJ (resG (starV gm)).rules.length cJ]) (resG (starV gm)) := by
    obtain ⟨cells, hr, _⟩ := oJ.cells
    exact ⟨XJ, cJ, rfl, (Row.cap hr).1, (oJ.read.gr g2123).mono fun _ _ => trivial⟩
  refine eqGrammar_c vJ (vS18.gr g1823) fun w24 g24 => ?_
  simp only [decide_true, Bool.not_true, go_sem, Nat.reduceEqDiff]
  rw [bin_neq_bool Try.underlying4]
  simp only [beq_self_eq_true, Bool.not_true, go_sem, Nat.reduceEqDiff]
  have g1824 := gr_trans g1823 g24
  rw [ldB_agg agg37 sz37 rfl (h2818.gr g1824)]
  refine heldGrammar_c (gm := resG (starV gm)) (vM w24 g1824) (by decide) (by omega) fun w25 g25 => ?_
  simp only [show ¬ ((1 : Int) + (sizeR (resG (starV gm)).rules : Nat) < 0) from by omega, decide_false, decide_true, Bool.not_true, go_sem, Nat.reduceEqDiff]
  exact hk _ (gr_trans gw18 (gr_trans g1824 g25))
end Go.Proofs.Ytiohaeckagjebaa

/- What the laws do with memory: copies, marks, looks, over things that lie apart. -/
set_option linter.unusedVariables false
set_option linter.unusedSimpArgs false
set_option maxRecDepth 100000
namespace Go.Sh
open Go
def total (ls : List (List Int)) : Nat := (ls.map List.length).sum
theorem total_snoc (ls : List (List Int)) (l : List Int) : total (ls ++ [l]) = total ls + l.length := by simp [total]
def markS (m : Int) : List (List Int) → List (List Int)
  | [] => []
  | l :: ls => marks m l.length :: markS (m + l.length) ls
theorem markS_length : ∀ (m : Int) (ls : List (List Int)), (markS m ls).length = ls.length
  | m, [] => rfl
  | m, l :: ls => by simp [markS, markS_length]
theorem markS_snoc : ∀ (m : Int) (ls : List (List Int)) (l : List Int), markS m (ls ++ [l]) = markS m ls ++ [marks (m + total ls) l.length]
  | m, [], l => by simp [markS, total]
  | m, x :: ls, l => by
    have e : m + (x.length : Int) + (total ls : Nat) = m + (total (x :: ls) : Nat) := by
      simp only [total, List.map_cons, List.sum_cons]
      omega
    simp only [List.cons_append, markS, markS_snoc, e]
theorem total_take_le (ls : List (List Int)) (i : Nat) : total (ls.take i) ≤ total ls := by
  have e : total ls = total (ls.take i) + total (ls.drop i) := by
    unfold total
    rw [← List.sum_append, ← List.map_append, List.take_append_drop]
  omega
theorem OwnSS.putAll {e1 e2 : Nat} {w w' : World} {B c i : Nat} {ys : List Int} {X : Option Addr} {ls : List (List Int)} {ps : Nat → Option Addr × Nat} (h : OwnSS e1 e2 w B X c ls ps) (he : e1 ≠ e2) (hi : i < ls.length) (hl : ys.length = (rgt ls i).length) (hr : Own e2 w' B (ps i).1 (ps i).2 ys) (g : w.grownBy w' (blk (ps i).1)) : OwnSS e1 e2 w' B X c (ls.set i ys) ps := by
  obtain ⟨⟨cells, hr0, hc⟩, ho, ht⟩ := h
  have hg : ∀ j, rgt (ls.set i ys) j = if j = i then ys else rgt ls j := fun j => by
    simp only [rgt, List.getD_eq_getElem?_getD, List.getElem?_set]
    by_cases hij : i = j
    · subst hij
      simp [hi]
    · rw [if_neg hij, if_neg (fun e => hij e.symm)]
  refine ⟨⟨cells, by rw [List.length_set]; exact Row.kept hr0 g (row_ne hr0 (ho i hi) he), fun j hj => ?_⟩, fun j hj => ?_, fun a b ha hb hab => ?_⟩
  · rw [List.length_set] at hj
    rw [hc j hj, hg j]
    by_cases hij : j = i
    · subst hij
      rw [if_pos rfl, hl]
    · rw [if_neg hij]
  · rw [List.length_set] at hj
    rw [hg j]
    by_cases hij : j = i
    · subst hij
      rw [if_pos rfl]
      exact hr
    · rw [if_neg hij]
      exact Row.kept (ho j hj) g (ht j i hj hi hij)
  · rw [List.length_set] at ha hb
    exact ht a b ha hb hab
theorem left_le {n : Int} {s : Nat} (h : 0 ≤ n) : left n s ≤ n := by
  unfold left
  split <;> omega
theorem Apt.setRules {w0 w w' : World} {L : List Thing} (H : Apt w0 w L) (i : Nat) {e1 e2 B c : Nat} {X : Option Addr} {rs rs' : List RuleL} {ps : Nat → Option Addr × Nat} (hi : L[i]? = some (rls e1 e2 X c rs ps)) (hl : rs'.length = rs.length) (g : Gx (Foot X ps rs.length) w w') (h : OwnR e1 e2 w' B X c rs' ps) : Apt w0 w' (L.set i (rls e1 e2 X c rs' ps)) :=
  H.set hi g (fun q hq => .inl (show Foot X ps rs.length q from hl ▸ (show Foot X ps rs'.length q from hq))) (fun q hq => (h.foot hq).2) (rls_kept h)
section
variable {P : Program} {S : WS} {k : Value → Prop}
theorem bin_lss_false {t : TypeId} {c : Bool} {kd : IntKind} {x y : Int} (h : ¬ x < y) : Rd P S (sBin .lss t c (.int kd x) (.int kd y)) k = k (.bool false) := by rw [bin_lss, decide_eq_false h]
theorem bin_gtr_false {t : TypeId} {c : Bool} {kd : IntKind} {x y : Int} (h : ¬ y < x) : Rd P S (sBin .gtr t c (.int kd x) (.int kd y)) k = k (.bool false) := by rw [bin_gtr, decide_eq_false h]
theorem bin_neqi_same {t : TypeId} {c : Bool} {kd : IntKind} {x : Int} : Rd P S (sBin .neq t c (.int kd x) (.int kd x)) k = k (.bool false) := by rw [bin_neq, decide_eq_true rfl]; rfl
end
end Go.Sh
namespace Go.Proofs.Ytiohaeckagjebaa
open Go Go.Sh Go.RowKit
theorem bin_neq_same {S : WS} {k : Value → Prop} {c x : Bool} : Rd Try.prog S (sBin .neq 4 c (.bool x) (.bool x)) k = k (.bool false) := by
  rw [bin_neq_bool Try.underlying4, beq_self_eq_true]
  rfl
theorem eqGrammar_same {F E : Nat → Prop} {w : World} {v u : Value} {a : Gram} (hv : GramV F w v a) (hu : GramV E w u a) {k : Value → World → Prop} (hk : ∀ w', Gr w w' → k (.bool true) w') : CallK Try.prog 33 [v, u] k w :=
  eqGrammar_c hv hu fun w' g => by
    rw [decide_eq_true rfl]
    exact hk w' g
theorem eqIntS_same {w : World} {X Y : Option Addr} {c d : Nat} {xs : List Int} (hx : Ints w X xs) (hy : Ints w Y xs) {k : Value → World → Prop} (hk : ∀ w', Gr w w' → k (.bool true) w') : CallK Try.prog 26 [.slice X xs.length c, .slice Y xs.length d] k w :=
  eqIntS_c hx hy fun w' g => by
    rw [decide_eq_true rfl]
    exact hk w' g
theorem eqIntSS_same {w : World} {X Y : Option Addr} {c d : Nat} {ls : List (List Int)} (hx : Intss w X ls) (hy : Intss w Y ls) {k : Value → World → Prop} (hk : ∀ w', Gr w w' → k (.bool true) w') : CallK Try.prog 46 [.slice X ls.length c, .slice Y ls.length d] k w := by
  refine enter46 ?_
  unfold S46
  have hle := hx.le
  simp only [decide_true, Bool.not_true, go_sem, Nat.reduceEqDiff]
  refine loop_to ls.length 0 (fun i f w' => i ≤ ls.length ∧ f 5 = .int .i64 i ∧ Gr w w') ⟨Nat.zero_le _, rfl, Gr.refl w⟩ ?_
  rintro i f w1 N hag ⟨hi, h5, g⟩ hN
  have f0 : f 0 = .slice X ls.length c := hag 0 (by decide)
  have f1 : f 1 = .slice Y ls.length d := hag 1 (by decide)
  simp only [f0, f1, h5, go_sem, Nat.reduceEqDiff]
  by_cases hlt : i < ls.length
  case neg =>
    simp only [show ¬ (i : Int) < ls.length from by omega, decide_false, go_sem, Nat.reduceEqDiff]
    exact hk _ g
  simp only [show (i : Int) < ls.length from by omega, decide_true, go_sem, Nat.reduceEqDiff]
  obtain ⟨U, cu, a1, a2, a3⟩ := hx.row i hlt
  obtain ⟨V, cv, b1, b2, b3⟩ := hy.row i hlt
  have gd := gr_trans g (gr_drew w1)
  rw [ixn48 hx.ptr hlt, ld22 (gd.cell a1), ixn48 hy.ptr hlt, ld22 (gd.cell b1)]
  refine eqIntS_same (a3.gr gd) (b3.gr gd) fun w2 g2 => ?_
  simp only [Bool.not_true, go_sem, Nat.reduceEqDiff]
  rw [i64_of (by omega) (by omega)]
  exact hN _ _ hlt ⟨hlt, rfl, gr_trans gd g2⟩
section
variable {k : Value → World → Prop} {w0 w : World} {L : List Thing}
theorem markH (H : Apt w0 w L) (i : Nat) {n c : Nat} {X : Option Addr} {xs : List Int} {m : Int} (hi : L[i]? = some (ows X c xs)) (hn : n = xs.length) (h0 : 0 ≤ m) (h1 : m + xs.length ≤ 9223372036854775807)
    (h : ∀ w', Apt w0 w' (L.set i (ows X c (marks m xs.length))) → k (.int .i64 (m + xs.length)) w') : CallK Try.prog 27 [.slice X n c, .int .i64 m] k w :=
  markIntS_c (H.own i hi) hn h0 h1 fun w' g o => h w' (H.set hi (gx_of g fun q hq => hq) (fun q hq => .inl hq) (fun q hq => (Row.ge o hq).2) (rwi_kept o))
theorem markSSH (H : Apt w0 w L) (i : Nat) {n c : Nat} {X : Option Addr} {ls : List (List Int)} {ps : Nat → Option Addr × Nat} {m : Int} (hi : L[i]? = some (lss X c ls ps)) (hn : n = ls.length) (h0 : 0 ≤ m) (h1 : m + total ls ≤ 9223372036854775807)
    (h : ∀ w', Apt w0 w' (L.set i (lss X c (markS m ls) ps)) → k (.int .i64 (m + total ls)) w') : CallK Try.prog 47 [.slice X n c, .int .i64 m] k w := by
  subst hn
  refine enter47 ?_
  unfold S47
  have hle := (H.lssi i hi).read.le
  have hil := get_lt hi
  refine loop_to ls.length 0 (fun j f w' => j ≤ ls.length ∧ f 5 = .int .i64 j ∧ f 1 = .int .i64 (m + total (ls.take j)) ∧ Apt w0 w' (L.set i (lss X c (markS m (ls.take j) ++ ls.drop j) ps)))
    ⟨Nat.zero_le _, rfl, by simp [total]; rfl, by simpa [markS, List.getElem?_eq_getElem hil, ← (List.getElem?_eq_some_iff.1 hi).2] using H⟩ ?_
  rintro j f w1 N hag ⟨hj, h5, hf1, H1⟩ hN
  have f0 : f 0 = .slice X ls.length c := hag 0 (by decide)
  simp only [f0, hf1, h5, go_sem, Nat.reduceEqDiff]
  by_cases hlt : j < ls.length
  case neg =>
    simp only [show ¬ (j : Int) < ls.length from by omega, decide_false, go_sem, Nat.reduceEqDiff]
    rw [List.take_of_length_le (by omega), List.drop_eq_nil_of_le (by omega), List.append_nil] at H1
    rw [List.take_of_length_le (by omega)]
    exact h _ H1
  simp only [show (j : Int) < ls.length from by omega, decide_true, go_sem, Nat.reduceEqDiff]
  have hget : (L.set i (lss X c (markS m (ls.take j) ++ ls.drop j) ps))[i]? = some (lss X c (markS m (ls.take j) ++ ls.drop j) ps) := by rw [List.getElem?_set_self hil]
  have o := H1.lssi i hget
  have hll : (markS m (ls.take j) ++ ls.drop j).length = ls.length := by
    rw [List.length_append, markS_length, List.length_take, List.length_drop]
    omega
  have hr : rgt (markS m (ls.take j) ++ ls.drop j) j = rgt ls j := by
    rw [rgt_right (by rw [markS_length, List.length_take]; omega), markS_length, List.length_take]
    simp [rgt, List.getD_eq_getElem?_getD, Nat.min_eq_left hj]
  have hj' : j < (markS m (ls.take j) ++ ls.drop j).length := by omega
  have htk := total_take_le ls (j + 1)
  rw [take_snoc_rgt hlt, total_snoc] at htk
  have hoj := o.own j hj'
  have hcj := o.cell hj'
  rw [hr] at hoj hcj
  rw [ixn48 (fun h => o.ptr (by omega)) hlt, ld22 hcj]
  refine markIntS_c hoj rfl (by omega) (by omega) fun w2 g2 o2 => ?_
  rw [i64_of (n := (j : Int) + 1) (by omega) (by omega)]
  have o' := o.putAll (by decide) hj' (by rw [marks_length, hr]) o2 g2
  have H2 := H1.set hget (gx_of g2 fun q hq => .inr ⟨j, hj', hq⟩) (it' := lss X c _ ps) (fun q hq => .inl (by
    rcases hq with hq | ⟨l, hl, hq⟩
    · exact .inl hq
    · rw [List.length_set] at hl
      exact .inr ⟨l, hl, hq⟩)) (fun q hq => (o'.foot hq).2) (lssi_kept o')
  have e : (markS m (ls.take j) ++ ls.drop j).set j (marks (m + total (ls.take j)) (rgt ls j).length) = markS m (ls.take (j + 1)) ++ ls.drop (j + 1) := by
    rw [take_snoc_rgt hlt, markS_snoc, List.set_append_right _ _ (by rw [markS_length, List.length_take]; omega), markS_length, List.length_take, Nat.min_eq_left hj, Nat.sub_self, List.drop_eq_getElem_cons hlt, List.set_cons_zero, List.append_assoc]
    rfl
  rw [e, List.set_set] at H2
  refine hN _ _ hlt ⟨hlt, rfl, ?_, H2⟩
  rw [take_snoc_rgt hlt, total_snoc]
  show Value.int .i64 _ = _
  congr 1
  omega
theorem heldIntSS_c {X : Option Addr} {c n : Nat} {ls : List (List Int)} {m : Int} (hx : Intss w X (markS m ls)) (hn : n = ls.length) (h0 : 0 ≤ m) (h1 : m + total ls ≤ 9223372036854775807) (hk : ∀ w', Gr w w' → k (.int .i64 (m + total ls)) w') :
    CallK Try.prog 48 [.slice X n c, .int .i64 m] k w := by
  subst hn
  refine enter48 ?_
  unfold S48
  have hle := hx.le
  have hml := markS_length m ls
  refine loop_to ls.length 0 (fun j f w' => j ≤ ls.length ∧ f 5 = .int .i64 j ∧ f 1 = .int .i64 (m + total (ls.take j)) ∧ Gr w w') ⟨Nat.zero_le _, rfl, by simp [total]; rfl, Gr.refl w⟩ ?_
  rintro j f w1 N hag ⟨hj, h5, hf1, g⟩ hN
  have f0 : f 0 = .slice X ls.length c := hag 0 (by decide)
  simp only [f0, hf1, h5, go_sem, Nat.reduceEqDiff]
  by_cases hlt : j < ls.length
  case neg =>
    simp only [show ¬ (j : Int) < ls.length from by omega, decide_false, go_sem, Nat.reduceEqDiff]
    rw [List.take_of_length_le (by omega)]
    exact hk _ g
  simp only [show (j : Int) < ls.length from by omega, decide_true, go_sem, Nat.reduceEqDiff]
  have hr : rgt (markS m ls) j = marks (m + total (ls.take j)) (rgt ls j).length := by
    have e : ls = ls.take j ++ ([rgt ls j] ++ ls.drop (j + 1)) := by
      rw [← List.append_assoc, ← take_snoc_rgt hlt, List.take_append_drop]
    have key : ∀ (us bs : List (List Int)) (m : Int), markS m (us ++ bs) = markS m us ++ markS (m + total us) bs := by
      intro us
      induction us with
      | nil => intro bs m; simp [markS, total]
      | cons a us ih =>
        intro bs m
        have e : m + (a.length : Int) + (total us : Nat) = m + (total (a :: us) : Nat) := by
          simp only [total, List.map_cons, List.sum_cons]
          omega
        simp only [List.cons_append, markS, ih, e]
    generalize hq : rgt ls j = q at e
    have e' : markS m ls = markS m (ls.take j) ++ markS (m + total (ls.take j)) ([q] ++ ls.drop (j + 1)) := by rw [← key, ← e]
    rw [e', rgt_right (by rw [markS_length, List.length_take]; omega), markS_length, List.length_take]
    rw [show j - min j ls.length = 0 from by omega]
    rfl
  obtain ⟨U, cu, a1, a2, a3⟩ := hx.row j (by omega)
  rw [hr] at a1 a2 a3
  rw [marks_length] at a1 a2
  have htk := total_take_le ls (j + 1)
  rw [take_snoc_rgt hlt, total_snoc] at htk
  rw [ixn48 (fun h => hx.ptr (by omega)) hlt, ld22 (g.cell a1)]
  refine heldIntS_c (a3.gr g) rfl (by omega) (by omega) fun w2 g2 => ?_
  simp only [go_sem, Nat.reduceEqDiff]
  simp only [show ¬ (m + total (ls.take j) + (rgt ls j).length < 0) from by omega, decide_false, go_sem, Nat.reduceEqDiff]
  rw [i64_of (n := (j : Int) + 1) (by omega) (by omega)]
  refine hN _ _ hlt ⟨hlt, rfl, ?_, gr_trans g g2⟩
  rw [take_snoc_rgt hlt, total_snoc]
  show Value.int .i64 _ = _
  congr 1
  omega
end
end Go.Proofs.Ytiohaeckagjebaa
